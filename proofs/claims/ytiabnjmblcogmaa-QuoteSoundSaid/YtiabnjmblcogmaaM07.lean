/- Texts put together: GraD, GraD2, PenP, PenW, PenU, PenR, PenR2, PenS. -/
import Derived.Test.YtiabnjmblcogmaaM06
import Derived.BigRegion
import Derived.Test.YtiabnjmblcogmaaChecked
import Derived.WalkKit
import Derived.Below
import Derived.Test.YtiabnjmblcogmaaM00
import Derived.Deep.LoopGhost
import Derived.Deep.DeepMust
import Derived.Deep.RegionWith
import Derived.Deep.QuietTactic
import Derived.Deep.OwnRows
import Derived.BigQuiet
set_option linter.all false
section
namespace Go.Proofs.Ytiabnjmblcogmaa
open Go.RowKit
namespace Gra
open In (Ints IsInts)
def dp1 (x y : Int) (o : List Int) : List Int := o.set (x - 1).toNat (max (o.getD (x - 1).toNat 0) (o.getD (y - 1).toNat 0 + 1))
def dpN (x : Int) (ys : List Int) (o : List Int) : List Int := ys.foldl (fun o y => dp1 x y o) o
def dpA (E : List (Int × Int)) (xs : List Int) (o : List Int) : List Int := xs.foldl (fun o x => dpN x (ndsF E x) o) o
theorem dp1_len (x y : Int) (o : List Int) : (dp1 x y o).length = o.length := by unfold dp1; rw [List.length_set]
theorem dpN_len (x : Int) (ys : List Int) : ∀ o, (dpN x ys o).length = o.length := by
  induction ys with
  | nil => exact fun o => rfl
  | cons y ys ih => intro o; show (dpN x ys (dp1 x y o)).length = _; rw [ih, dp1_len]
theorem dpA_len (E : List (Int × Int)) (xs : List Int) : ∀ o, (dpA E xs o).length = o.length := by
  induction xs with
  | nil => exact fun o => rfl
  | cons y ys ih => intro o; show (dpA E ys (dpN y (ndsF E y) o)).length = _; rw [ih, dpN_len]
theorem take_snocI (l : List Int) (k : Nat) (h : k < l.length) : l.take (k + 1) = l.take k ++ [l.getD k 0] := by
  rw [List.take_succ_eq_append_getElem h, List.getD_eq_getElem?_getD, List.getElem?_eq_getElem h]; rfl
theorem dpN_snoc (x : Int) (ys : List Int) (i : Nat) (h : i < ys.length) (o : List Int) : dpN x (ys.take (i + 1)) o = dp1 x (ys.getD i 0) (dpN x (ys.take i) o) := by
  rw [take_snocI ys i h]; unfold dpN; rw [List.foldl_append]; rfl
theorem dpA_snoc (E : List (Int × Int)) (xs : List Int) (k : Nat) (h : k < xs.length) (o : List Int) : dpA E (xs.take (k + 1)) o = dpN (xs.getD k 0) (ndsF E (xs.getD k 0)) (dpA E (xs.take k) o) := by
  rw [take_snocI xs k h]; unfold dpA; rw [List.foldl_append]; rfl
theorem dpR_snoc (E : List (Int × Int)) (x : Int) (i : Nat) (h : i < E.length) (o : List Int) : dpN x (ndsF (E.take (i + 1)) x) o = if (E.getD i (0, 0)).1 = x then dp1 x (E.getD i (0, 0)).2 (dpN x (ndsF (E.take i) x) o) else dpN x (ndsF (E.take i) x) o := by
  rw [take_snoc E i h, ndsF_snoc]
  split
  · unfold dpN; rw [List.foldl_append]; rfl
  · rfl
def InB (o : List Int) (B : Int) : Prop := ∀ i, 0 ≤ o.getD i 0 ∧ o.getD i 0 ≤ B
theorem InB.zero (n : Nat) : InB (List.replicate n 0) 0 := fun i => by
  rw [List.getD_eq_getElem?_getD, List.getElem?_replicate]
  split <;> simp
theorem getD_set (o : List Int) (i j : Nat) (v : Int) : (o.set i v).getD j 0 = if i = j ∧ i < o.length then v else o.getD j 0 := by
  rw [List.getD_eq_getElem?_getD, List.getElem?_set, List.getD_eq_getElem?_getD]
  by_cases h : i = j
  · subst h
    by_cases h2 : i < o.length
    · rw [if_pos rfl, if_pos h2, if_pos ⟨rfl, h2⟩]; rfl
    · rw [if_pos rfl, if_neg h2, if_neg (fun e => h2 e.2), List.getElem?_eq_none (by omega)]
  · rw [if_neg h, if_neg (fun e => h e.1)]
theorem InB.step {o : List Int} {B : Int} (h : InB o B) (x y : Int) : InB (dp1 x y o) (B + 1) := by
  intro i
  unfold dp1
  rw [getD_set]
  have h1 := h (x - 1).toNat
  have h2 := h (y - 1).toNat
  have h3 := h i
  split <;> omega
theorem InB.mono {o : List Int} {B B' : Int} (h : InB o B) (hb : B ≤ B') : InB o B' := fun i => by have := h i; omega
/-- How deep the nodes stand. -/
def deepF (n : Nat) (E : List (Int × Int)) : List Int := dpA E (ord n E) (List.replicate n 0)
def deepRes (n : Int) (l : List (Int × Int)) : List Int × Int :=
  if Good n l then (if (ord n.toNat l).length < n.toNat then ([], 9) else (deepF n.toNat l, 0)) else ([], 1)
theorem run_mkI (m : Nat) (hm : m ≤ 4096) (w : World) : (Instr.makeSlice 29 (.int .i64 (m : Int)) (.int .i64 (m : Int))).run Try.prog w = .ok (.slice (some ⟨w.heap.size, 0, none⟩) m m) (w.alloc (.cells (madeCells #[.int .i64 0] m) 3)) := by
  obtain ⟨i0, hi, hz0, hz1, hz2⟩ := info_parts info3
  have := run_makeSlice (P := Try.prog) (w := w) 29 3 i0 (.int .i64 0) Try.underlying29 hi hz0 .i64 .i64 m m (by omega) (by omega) (by rw [hz1]; omega) (by rw [hz2]; omega) (by omega)
  rw [this]
  simp [hz1, Value.cells]
theorem row_made (w : World) (m : Nat) : RowAt (w.alloc (.cells (madeCells #[.int .i64 0] m) 3)) w.heap.size ((List.replicate m (0 : Int)).map (Value.int .i64)) := by
  have h := World.rowIs_made w (.int .i64 0) m 3
  obtain ⟨c, hg, hs, hc⟩ := h
  refine ⟨c, 3, hg, fun i u hu => ?_⟩
  rw [List.getElem?_map, List.getElem?_replicate] at hu
  split at hu
  · rw [hc i ‹_›]; simpa using hu
  · cases hu
theorem row_get {w : World} {g : Nat} {l : List Int} (h : RowAt w g (l.map (Value.int .i64))) {i : Nat} (hi : i < l.length) : w.cell? ⟨g, i, none⟩ = some (.int .i64 (l.getD i 0)) :=
  h.cell (by rw [List.getElem?_map, List.getElem?_eq_getElem hi, List.getD_eq_getElem?_getD, List.getElem?_eq_getElem hi]; rfl)
theorem below_dN {B : Nat} {a w : World} (h : Below B a w) (n : Nat) : Below B a (w.drewN n) := ⟨h.os, h.tape, h.output, h.size, h.block⟩
theorem nds_in {n : Nat} {E : List (Int × Int)} (hr : ∀ e ∈ E, (1 ≤ e.1 ∧ e.1 ≤ (n : Int)) ∧ (1 ≤ e.2 ∧ e.2 ≤ (n : Int))) {x : Int} {i : Nat} (hi : i < (ndsF E x).length) : 1 ≤ (ndsF E x).getD i 0 ∧ (ndsF E x).getD i 0 ≤ (n : Int) := by
  have hm : (ndsF E x).getD i 0 ∈ ndsF E x := by rw [List.getD_eq_getElem?_getD, List.getElem?_eq_getElem hi]; exact List.getElem_mem _
  unfold ndsF at hm
  rw [List.mem_map] at hm
  obtain ⟨e, he, e2⟩ := hm
  have := (hr e (List.mem_filter.1 he).1).2
  unfold ndsF
  rw [← e2]; exact this
theorem ord_in {n : Nat} {E : List (Int × Int)} {k : Nat} (hk : k < (ord n E).length) : 1 ≤ (ord n E).getD k 0 ∧ (ord n E).getD k 0 ≤ (n : Int) := by
  have hm : (ord n E).getD k 0 ∈ ord n E := by rw [List.getD_eq_getElem?_getD, List.getElem?_eq_getElem hk]; exact List.getElem_mem _
  exact (ordG_ok n E n).range _ hm
theorem Web.ints {W : World} {B g : Nat} {n : Int} {R : Nat → List Int} {OW : Nat → Int} {C : Nat → Value} (h : Web W B g n R OW C) {i : Nat} (hi : isRow i) : ∃ a cap, C i = .slice a (R i).length cap ∧ Ints .i64 W a (R i) := by
  rcases (h.own i hi).2 with ⟨e, h0⟩ | ⟨g', cap, cur, hv, _⟩
  · exact ⟨none, 0, by rw [e, h0], fun j hj => by omega⟩
  · have hown := h.own i hi
    rw [hv] at hown
    exact ⟨_, cap, hv, (RowAt.of_own hown).ints .i64 _ rfl⟩
theorem own_ints {w : World} {base : Nat} {v : Value} {l : List Int} (h : w.ownsRow base 3 1 v l.length (l.map (Value.int .i64))) : ∃ a cap, v = .slice a l.length cap ∧ Ints .i64 w a l := by
  rcases h.2 with ⟨e, h0⟩ | ⟨g', cap, cur, hv, _⟩
  · exact ⟨none, 0, by rw [e, h0], fun j hj => by omega⟩
  · rw [hv] at h
    exact ⟨_, cap, hv, (RowAt.of_own h).ints .i64 _ rfl⟩
set_option maxRecDepth 100000 in
set_option maxHeartbeats 8000000 in
theorem Deep_core (n : Int) (a : Option Addr) (cap : Nat) (l : List (Int × Int)) (w : World) (ha : Prs w a l) :
    Calls Try.prog 56 #[.int .i64 n, .slice a l.length cap] w (ListOut (deepRes n l) w) := by
  have CM := Lib.hid (ordered_any n a cap l w ha)
  clear ha
  by_cases hg : Good n l ∧ ¬ (ord n.toNat l).length < n.toNat
  · obtain ⟨hg, hnl⟩ := hg
    have hf : deepRes n l = (deepF n.toNat l, 0) := by unfold deepRes; rw [if_pos hg, if_neg hnl]
    rw [hf]
    have CM2 : Hid (Calls Try.prog 82 #[.int .i64 n, .slice a l.length cap] w fun e w' => ∃ v O C, e = .returned (.tuple #[.pointer (some ⟨w.heap.size, 0, none⟩), v, .int .i64 0]) ∧ Hid (w'.ownsRow w.heap.size 3 1 v (ord n.toNat l).length ((ord n.toNat l).map (Value.int .i64))) ∧ Hid (Web w' w.heap.size w.heap.size n (RF l) O C) ∧ Hid (Below w.heap.size w w')) := CM.out.mono fun e w' ⟨h1, h2⟩ => by
      rcases h2 with ⟨h3, _⟩ | ⟨_, h3, _⟩ | ⟨_, _, v, O, C, e1, h5, h6⟩
      · exact absurd hg h3
      · exact absurd h3 hnl
      · exact ⟨v, O, C, e1, h5, h6, h1⟩
    obtain ⟨N, hN⟩ : ∃ N : Nat, n = (N : Int) := ⟨n.toNat, by have := hg.1; omega⟩
    subst hN
    have HP := Lib.hid hg.pairs
    have hN64 : (N : Int) < 65 := by have := hg.2.1; omega
    have HL : Hid (l.length ≤ 256) := hg.2.2.1
    simp only [Int.toNat_natCast] at *
    have HOL : Hid ((ord N l).length ≤ N) := (ordG_ok N l N).len
    have hmk := fun w => run_mkI N (by omega) w
    clear hg hnl hf CM
    go_enter Try.func56, Try.ntmps56
    go_wp2_with (go_at_call 82; ((with_reducible refine CM2.out.mono ?_); rintro e w2 ⟨v, O, C, rfl, HO, HW, HB⟩; obtain ⟨av, cv, rfl, hI⟩ := own_ints HO.out; have HI := Lib.hid hI; clear hI))
    have HR0 := Lib.hid (row_made w2 N)
    have HB0 : Hid (Below w2.heap.size w2 (w2.alloc (.cells (madeCells #[.int .i64 0] N) 3))) := (Below.refl _ _).alloc (Nat.le_refl _) _
    have HBW := Lib.hid HB.out.size
    clear hmk CM2
    generalize w2.alloc (.cells (madeCells #[.int .i64 0] N) 3) = wm at *
    obtain ⟨xs, hxs⟩ : ∃ xs, Hid (ord N l = xs) := ⟨_, rfl⟩
    have HXR : Hid (∀ k, k < xs.length → 1 ≤ xs.getD k 0 ∧ xs.getD k 0 ≤ (N : Int)) := fun k hk => by have := hxs.out; subst this; exact ord_in hk
    have HDF : Hid (deepF N l = dpA l xs (List.replicate N 0)) := by show deepF N l = _; unfold deepF; rw [hxs.out]
    rw [hxs.out] at HI HOL HO ⊢
    have hxl : (xs.length : Int) < 65 := by have := HOL.out; omega
    go_loopw [28] (fun v28 wr => ∃ (k : Nat) (o : List Int), k ≤ xs.length ∧ v28 = .int .i64 k ∧ Hid (o = dpA l (xs.take k) (List.replicate N 0)) ∧ Hid (InB o (257 * k) ∧ o.length = N) ∧ Hid (RowAt wr w2.heap.size (o.map (Value.int .i64))) ∧ Hid (Below w2.heap.size w2 wr)) (fun v28 _ => xs.length - (intOf v28).toNat)
    case atStart => exact ⟨0, List.replicate N 0, by omega, rfl, rfl, ⟨(InB.zero N).mono (by omega), List.length_replicate⟩, HR0, HB0⟩
    case round =>
      obtain ⟨k, o, hk, rfl, HOo, HBd, HRr, HBr⟩ := hrel
      by_cases hlt : k < xs.length
      · obtain ⟨b, off, ea, hb, c0⟩ := (In.Ints.below HI.out HBr.out) k hlt
        rw [ea]
        replace ea := Lib.hid ea
        have hlt1 : (k : Int) < (xs.length : Int) := by omega
        have hk0 : (0 : Int) ≤ (k : Int) := by omega
        have hx := HXR.out k hlt
        have HSN := Lib.hid (dpA_snoc l xs k hlt (List.replicate N 0))
        rw [← HOo.out] at HSN
        obtain ⟨X, hX⟩ : ∃ X : Nat, Hid (xs.getD k 0 = (X : Int)) := ⟨(xs.getD k 0).toNat, by show _ = _; omega⟩
        rw [hX.out] at c0 hx HSN
        have hx1 : (1 : Int) ≤ (X : Int) := hx.1
        have hx2 : (X : Int) ≤ (N : Int) := hx.2
        have hx3 : (X : Int) < 65 := by omega
        have hr1 : isRow (1 + X) := by unfold isRow; omega
        obtain ⟨ua, uc, hCu, hUI⟩ := HW.out.ints hr1
        have cR := (HW.out.cell (i := 1 + X) (by omega))
        rw [hCu] at cR
        have cR2 := (HBr.out.cell (p := ⟨w.heap.size, 1 + X, none⟩) HW.out.row.lt).trans cR
        rw [RF_nds l X (by omega)] at cR2 hUI
        have HYR : Hid (∀ i, i < (ndsF l (X : Int)).length → 1 ≤ (ndsF l (X : Int)).getD i 0 ∧ (ndsF l (X : Int)).getD i 0 ≤ (N : Int)) := fun i hi => nds_in (by have := HP.out; simpa using this) hi
        have HYL : Hid ((ndsF l (X : Int)).length ≤ 256) := Nat.le_trans (ndsF_len _ _) HL.out
        replace hUI := Lib.hid hUI
        clear cR hCu hx
        generalize ndsF l (X : Int) = ys at *
        have hyl : (ys.length : Int) < 257 := by have := HYL.out; omega
        obtain ⟨wo, rfl⟩ : ∃ wo : World, wo = wr := ⟨_, rfl⟩
        go_wp2
        go_loopw [39] (fun v39 wx => ∃ (i : Nat) (o2 : List Int), i ≤ ys.length ∧ v39 = .int .i64 i ∧ Hid (o2 = dpN (X : Int) (ys.take i) o) ∧ Hid (InB o2 (257 * k + i) ∧ o2.length = N) ∧ Hid (RowAt wx w2.heap.size (o2.map (Value.int .i64))) ∧ Hid (Below w2.heap.size w2 wx)) (fun v39 _ => ys.length - (intOf v39).toNat)
        case atStart => exact ⟨0, o, by omega, rfl, rfl, ⟨HBd.out.1.mono (by omega), HBd.out.2⟩, HRr, HBr⟩
        case round =>
          obtain ⟨i, o2, hi2, rfl, HO2, HBd2, HR2, HB2⟩ := hrel
          by_cases hlti : i < ys.length
          · obtain ⟨b2, off2, ea2, hb2, c2⟩ := (In.Ints.below hUI.out HB2.out) i hlti
            rw [ea2]
            replace ea2 := Lib.hid ea2
            have hlti1 : (i : Int) < (ys.length : Int) := by omega
            have hi0 : (0 : Int) ≤ (i : Int) := by omega
            have hy := HYR.out i hlti
            have HSN2 := Lib.hid (dpN_snoc (X : Int) ys i hlti o)
            rw [← HO2.out] at HSN2
            obtain ⟨Y, hY⟩ : ∃ Y : Nat, Hid (ys.getD i 0 = (Y : Int)) := ⟨(ys.getD i 0).toNat, by show _ = _; omega⟩
            rw [hY.out] at c2 hy HSN2
            obtain ⟨x1, hx1'⟩ : ∃ x1 : Nat, Hid (X = x1 + 1) := ⟨X - 1, by show _ = _; omega⟩
            obtain ⟨y1, hy1'⟩ : ∃ y1 : Nat, Hid (Y = y1 + 1) := ⟨Y - 1, by show _ = _; omega⟩
            have hol := HBd2.out.2
            have ex := hx1'.out
            have ey := hy1'.out
            have cx := row_get HR2.out (i := x1) (by omega)
            have cy := row_get HR2.out (i := y1) (by omega)
            have fx := HR2.out.frozen x1
            have hbx := HBd2.out.1 x1
            have hby := HBd2.out.1 y1
            have HD1 : Hid (dp1 (X : Int) (Y : Int) o2 = o2.set x1 (max (o2.getD x1 0) (o2.getD y1 0 + 1))) := by
              show dp1 _ _ _ = _
              unfold dp1
              rw [show ((X : Int) - 1).toNat = x1 by omega, show ((Y : Int) - 1).toNat = y1 by omega]
            have HBd3 : Hid (InB (dp1 (X : Int) (Y : Int) o2) (257 * k + (i + 1)) ∧ (dp1 (X : Int) (Y : Int) o2).length = N) := ⟨(HBd2.out.1.step _ _).mono (by omega), by rw [dp1_len]; exact hol⟩
            have HRs := Lib.hid (HR2.out.set x1)
            have e1 : IntKind.i64.wrap ((X : Int) - 1) = (x1 : Int) := by rw [wrapEq]; unfold wrap64; omega
            have e2 : (X : Int) - 1 = (x1 : Int) := by omega
            have e3 : IntKind.i64.wrap ((Y : Int) - 1) = (y1 : Int) := by rw [wrapEq]; unfold wrap64; omega
            have e4 : (Y : Int) - 1 = (y1 : Int) := by omega
            have n1 : (0 : Int) ≤ (x1 : Int) := by omega
            have n2 : (x1 : Int) < (N : Int) := by omega
            have n3 : (0 : Int) ≤ (y1 : Int) := by omega
            have n4 : (y1 : Int) < (N : Int) := by omega
            obtain ⟨P1, hP1⟩ : ∃ P1, Hid (o2.getD x1 0 = P1) := ⟨_, rfl⟩
            obtain ⟨P2, hP2⟩ : ∃ P2, Hid (o2.getD y1 0 = P2) := ⟨_, rfl⟩
            rw [hP1.out] at cx hbx HD1
            rw [hP2.out] at cy hby HD1
            obtain ⟨P3, hP3⟩ : ∃ P3, Hid (P2 + 1 = P3) := ⟨_, rfl⟩
            have e5 : IntKind.i64.wrap (P2 + 1) = P3 := by rw [wrapEq, ← hP3.out]; unfold wrap64; omega
            rw [hP3.out] at HD1
            clear hx1' hy1' ex ey hol hbx hby hy hx1 hx2
            go_wp2
            go_region
            go_wp2
            go_roundw
            case rel =>
              have hm : max P1 P3 = if P1 < P3 then P3 else P1 := by split <;> omega
              rw [hm] at HD1
              exact ⟨i + 1, dp1 (X : Int) (Y : Int) o2, hlti, by go_num, HSN2.out.symm, HBd3, by rw [HD1.out, List.map_set]; exact (HRs.out _).drew, (HB2.out.setCell (Nat.le_refl _) _).drew⟩
            case measure => simp [intOf]; omega
          · have hie : i = ys.length := by omega
            have hge : ¬ (i : Int) < (ys.length : Int) := by omega
            have HO3 : Hid (o2 = dpA l (xs.take (k + 1)) (List.replicate N 0)) := by show _ = _; rw [HSN.out, HO2.out, hie, List.take_length]
            have HBd3 : Hid (InB o2 (257 * (k + 1 : Nat)) ∧ o2.length = N) := ⟨HBd2.out.1.mono (by have := HYL.out; omega), HBd2.out.2⟩
            clear hlti hie
            go_wp2
            go_roundw
            case rel => exact ⟨k + 1, o2, hlt, by go_num, HO3, HBd3, HR2, HB2⟩
            case measure => simp [intOf]; omega
      · have hke : k = xs.length := by omega
        have hge : ¬ (k : Int) < (xs.length : Int) := by omega
        have HE : Hid (deepF N l = o) := by show _ = _; rw [HDF.out, HOo.out, hke, List.take_length]
        have hll := HBd.out.2
        clear hlt hke
        go_wp2
        go_ret2
        rw [HE.out]
        refine ⟨_, _, by rw [hll]; rfl, HRr.out.ints .i64 _ rfl, HB.out.trans (HBr.out.mono HBW.out)⟩
  · have CM2 : Hid (Calls Try.prog 82 #[.int .i64 n, .slice a l.length cap] w fun e w' => e = .returned (.tuple #[.pointer none, .slice none 0 0, .int .i64 (deepRes n l).2]) ∧ Hid (Below w.heap.size w w')) := CM.out.mono fun e w' ⟨h1, h2⟩ => by
      rcases h2 with ⟨h3, e1⟩ | ⟨h3, h4, e1⟩ | ⟨h3, h4, _⟩
      · rw [show deepRes n l = ([], 1) by unfold deepRes; rw [if_neg h3]]
        exact ⟨e1, h1⟩
      · rw [show deepRes n l = ([], 9) by unfold deepRes; rw [if_pos h3, if_pos h4]]
        exact ⟨e1, h1⟩
      · exact absurd ⟨h3, h4⟩ hg
    have HE : Hid ((deepRes n l).1 = []) := by
      show _ = _
      unfold deepRes
      split
      · split
        · rfl
        · exact absurd ⟨‹_›, ‹_›⟩ hg
      · rfl
    have hd : (deepRes n l).2 = 1 ∨ (deepRes n l).2 = 9 := by
      unfold deepRes
      split
      · split
        · exact .inr rfl
        · exact absurd ⟨‹_›, ‹_›⟩ hg
      · exact .inl rfl
    obtain ⟨r, hr⟩ : ∃ r, Hid (deepRes n l = r) := ⟨_, rfl⟩
    rw [hr.out] at CM2 HE hd ⊢
    clear CM hg
    obtain ⟨r1, r2⟩ := r
    simp only at HE hd CM2
    rcases hd with rfl | rfl
    · go_enter Try.func56, Try.ntmps56
      go_wp2_with (go_at_call 82; ((with_reducible refine CM2.out.mono ?_); rintro e w2 ⟨rfl, HB⟩))
      go_ret2
      rw [show r1 = [] from HE.out]
      exact ⟨_, _, rfl, fun i hi => absurd hi (Nat.not_lt_zero i), HB.out⟩
    · go_enter Try.func56, Try.ntmps56
      go_wp2_with (go_at_call 82; ((with_reducible refine CM2.out.mono ?_); rintro e w2 ⟨rfl, HB⟩))
      go_ret2
      rw [show r1 = [] from HE.out]
      exact ⟨_, _, rfl, fun i hi => absurd hi (Nat.not_lt_zero i), HB.out⟩
end Gra
end Go.Proofs.Ytiabnjmblcogmaa
end
section
namespace Go.Proofs.Ytiabnjmblcogmaa
open Go.RowKit
namespace Gra
open In (Ints IsInts)
set_option maxRecDepth 100000 in
set_option maxHeartbeats 8000000 in
theorem refDeep_core (n : Int) (a : Option Addr) (cap : Nat) (l : List (Int × Int)) (w : World) (ha : Prs w a l) :
    Calls Try.prog 62 #[.int .i64 n, .slice a l.length cap] w (ListOut (deepRes n l) w) := by
  have CM := Lib.hid (refOrder_core n a cap l w ha)
  have HA := Lib.hid ha
  clear ha
  by_cases hg : Good n l ∧ ¬ (ord n.toNat l).length < n.toNat
  · obtain ⟨hg, hnl⟩ := hg
    have hf : deepRes n l = (deepF n.toNat l, 0) := by unfold deepRes; rw [if_pos hg, if_neg hnl]
    have hf2 : ordRes n l = (ord n.toNat l, 0) := by unfold ordRes; rw [if_pos hg, if_neg hnl]
    rw [hf]
    rw [hf2] at CM
    obtain ⟨N, hN⟩ : ∃ N : Nat, n = (N : Int) := ⟨n.toNat, by have := hg.1; omega⟩
    subst hN
    have HP := Lib.hid hg.pairs
    have hN64 : (N : Int) < 65 := by have := hg.2.1; omega
    have HL : Hid (l.length ≤ 256) := hg.2.2.1
    have hL1 : (l.length : Int) < 257 := by have := HL.out; omega
    simp only [Int.toNat_natCast] at *
    have HOL : Hid ((ord N l).length ≤ N) := (ordG_ok N l N).len
    have hmk := fun w => run_mkI N (by omega) w
    clear hg hnl hf hf2
    go_enter Try.func62, Try.ntmps62
    go_wp2_with (go_at_call 84; ((with_reducible refine CM.out.mono ?_); rintro e w2 ⟨av, cv, rfl, hI, hB⟩; have HI := Lib.hid hI; have HB := Lib.hid hB; clear hI hB))
    have HR0 := Lib.hid (row_made w2 N)
    have HB0 : Hid (Below w2.heap.size w2 (w2.alloc (.cells (madeCells #[.int .i64 0] N) 3))) := (Below.refl _ _).alloc (Nat.le_refl _) _
    have HBW := Lib.hid HB.out.size
    clear hmk CM
    generalize w2.alloc (.cells (madeCells #[.int .i64 0] N) 3) = wm at *
    obtain ⟨xs, hxs⟩ : ∃ xs, Hid (ord N l = xs) := ⟨_, rfl⟩
    have HXR : Hid (∀ k, k < xs.length → 1 ≤ xs.getD k 0 ∧ xs.getD k 0 ≤ (N : Int)) := fun k hk => by have := hxs.out; subst this; exact ord_in hk
    have HDF : Hid (deepF N l = dpA l xs (List.replicate N 0)) := by show deepF N l = _; unfold deepF; rw [hxs.out]
    have HPA : Hid (Prs w2 a l) := HA.out.below HB.out
    rw [hxs.out] at HI HOL ⊢
    have hxl : (xs.length : Int) < 65 := by have := HOL.out; omega
    go_loopw [9] (fun v9 wr => ∃ (k : Nat) (o : List Int), k ≤ xs.length ∧ v9 = .int .i64 k ∧ Hid (o = dpA l (xs.take k) (List.replicate N 0)) ∧ Hid (InB o (257 * k) ∧ o.length = N) ∧ Hid (RowAt wr w2.heap.size (o.map (Value.int .i64))) ∧ Hid (Below w2.heap.size w2 wr)) (fun v9 _ => xs.length - (intOf v9).toNat)
    case atStart => exact ⟨0, List.replicate N 0, by omega, rfl, rfl, ⟨(InB.zero N).mono (by omega), List.length_replicate⟩, HR0, HB0⟩
    case round =>
      obtain ⟨k, o, hk, rfl, HOo, HBd, HRr, HBr⟩ := hrel
      by_cases hlt : k < xs.length
      · have hlt1 : (k : Int) < (xs.length : Int) := by omega
        have hk0 : (0 : Int) ≤ (k : Int) := by omega
        have hx := HXR.out k hlt
        have HSN := Lib.hid (dpA_snoc l xs k hlt (List.replicate N 0))
        rw [← HOo.out] at HSN
        obtain ⟨X, hX⟩ : ∃ X : Nat, Hid (xs.getD k 0 = (X : Int)) := ⟨(xs.getD k 0).toNat, by show _ = _; omega⟩
        have HCX : Hid (∀ wx, Below w2.heap.size w2 wx → ∃ b off, av = some ⟨b, off, none⟩ ∧ wx.cell? ⟨b, off + k, none⟩ = some (.int .i64 (X : Int)) ∧ b < w2.heap.size) := fun wx hB => by
          obtain ⟨b, off, ea, hb, c0⟩ := (In.Ints.below HI.out hB) k hlt
          obtain ⟨b', off', ea', hb', _⟩ := HI.out k hlt
          rw [ea] at ea'
          cases ea'
          rw [hX.out] at c0
          exact ⟨b, off, ea, c0, hb'⟩
        rw [hX.out] at hx HSN
        have hx1 : (1 : Int) ≤ (X : Int) := hx.1
        have hx2 : (X : Int) ≤ (N : Int) := hx.2
        obtain ⟨x1, hx1'⟩ : ∃ x1 : Nat, Hid (X = x1 + 1) := ⟨X - 1, by show _ = _; omega⟩
        have ex := hx1'.out
        have e1 : IntKind.i64.wrap ((X : Int) - 1) = (x1 : Int) := by rw [wrapEq]; unfold wrap64; omega
        have e2 : (X : Int) - 1 = (x1 : Int) := by omega
        have n1 : (0 : Int) ≤ (x1 : Int) := by omega
        have n2 : (x1 : Int) < (N : Int) := by omega
        have HX1 : Hid (((X : Int) - 1).toNat = x1 ∧ x1 < N) := ⟨by omega, by omega⟩
        clear hx hx1 hx2 ex hx1'
        obtain ⟨wo, rfl⟩ : ∃ wo : World, wo = wr := ⟨_, rfl⟩
        go_wp2
        go_loopw [10] (fun v10 wx => ∃ (i : Nat) (o2 : List Int), i ≤ l.length ∧ v10 = .int .i64 i ∧ Hid (o2 = dpN (X : Int) (ndsF (l.take i) (X : Int)) o) ∧ Hid (InB o2 (257 * k + i) ∧ o2.length = N) ∧ Hid (RowAt wx w2.heap.size (o2.map (Value.int .i64))) ∧ Hid (Below w2.heap.size w2 wx)) (fun v10 _ => l.length - (intOf v10).toNat)
        case atStart => exact ⟨0, o, by omega, rfl, rfl, ⟨HBd.out.1.mono (by omega), HBd.out.2⟩, HRr, HBr⟩
        case round =>
          obtain ⟨i, o2, hi2, rfl, HO2, HBd2, HR2, HB2⟩ := hrel
          by_cases hlti : i < l.length
          · obtain ⟨b, off, ea, c0, hb⟩ := HCX.out _ HB2.out
            rw [ea]
            replace ea := Lib.hid ea
            obtain ⟨b2, off2, ea2, hb2, c1, c2⟩ := (HPA.out.below HB2.out) i hlti
            rw [ea2]
            replace ea2 := Lib.hid ea2
            have hlti1 : (i : Int) < (l.length : Int) := by omega
            have hi0 : (0 : Int) ≤ (i : Int) := by omega
            have HSN2 := Lib.hid (dpR_snoc l (X : Int) i hlti o)
            rw [← HO2.out] at HSN2
            have hy := (HP.out (l.getD i (0, 0)) (by rw [List.getD_eq_getElem?_getD, List.getElem?_eq_getElem hlti]; exact List.getElem_mem _)).2
            obtain ⟨p, hp⟩ : ∃ A, Hid ((l.getD i (0, 0)).1 = A) := ⟨_, rfl⟩
            obtain ⟨Y, hY⟩ : ∃ Y : Nat, Hid ((l.getD i (0, 0)).2 = (Y : Int)) := ⟨((l.getD i (0, 0)).2).toNat, by show _ = _; omega⟩
            rw [hp.out] at c1 HSN2
            rw [hY.out] at c2 hy HSN2
            by_cases g : p = (X : Int)
            · have d1 : (p == (X : Int)) = true := by simp [g]
              rw [if_pos g] at HSN2
              obtain ⟨y1, hy1'⟩ : ∃ y1 : Nat, Hid (Y = y1 + 1) := ⟨Y - 1, by show _ = _; omega⟩
              have hol := HBd2.out.2
              have ey := hy1'.out
              have hx1n := HX1.out.2
              have cx := row_get HR2.out (i := x1) (by omega)
              have cy := row_get HR2.out (i := y1) (by omega)
              have fx := HR2.out.frozen x1
              have hbx := HBd2.out.1 x1
              have hby := HBd2.out.1 y1
              have HD1 : Hid (dp1 (X : Int) (Y : Int) o2 = o2.set x1 (max (o2.getD x1 0) (o2.getD y1 0 + 1))) := by
                show dp1 _ _ _ = _
                unfold dp1
                rw [HX1.out.1, show ((Y : Int) - 1).toNat = y1 by omega]
              have HBd3 : Hid (InB (dp1 (X : Int) (Y : Int) o2) (257 * k + (i + 1)) ∧ (dp1 (X : Int) (Y : Int) o2).length = N) := ⟨(HBd2.out.1.step _ _).mono (by omega), by rw [dp1_len]; exact hol⟩
              have HRs := Lib.hid (HR2.out.set x1)
              have e3 : IntKind.i64.wrap ((Y : Int) - 1) = (y1 : Int) := by rw [wrapEq]; unfold wrap64; omega
              have e4 : (Y : Int) - 1 = (y1 : Int) := by omega
              have n3 : (0 : Int) ≤ (y1 : Int) := by omega
              have n4 : (y1 : Int) < (N : Int) := by omega
              obtain ⟨P1, hP1⟩ : ∃ P1, Hid (o2.getD x1 0 = P1) := ⟨_, rfl⟩
              obtain ⟨P2, hP2⟩ : ∃ P2, Hid (o2.getD y1 0 = P2) := ⟨_, rfl⟩
              rw [hP1.out] at cx hbx HD1
              rw [hP2.out] at cy hby HD1
              obtain ⟨P3, hP3⟩ : ∃ P3, Hid (P2 + 1 = P3) := ⟨_, rfl⟩
              have e5 : IntKind.i64.wrap (P2 + 1) = P3 := by rw [wrapEq, ← hP3.out]; unfold wrap64; omega
              rw [hP3.out] at HD1
              clear hy1' ey hol hbx hby hy hx1n g
              go_wp2
              go_quiet (fail)
              go_wp2
              go_region
              go_wp2
              go_roundw
              case rel =>
                have hm : max P1 P3 = if P1 < P3 then P3 else P1 := by split <;> omega
                rw [hm] at HD1
                exact ⟨i + 1, dp1 (X : Int) (Y : Int) o2, hlti, by go_num, HSN2.out.symm, HBd3, by rw [HD1.out, List.map_set]; exact (HRs.out _).drew, (below_dN HB2.out (nq + 1)).setCell (p := ⟨w2.heap.size, x1, none⟩) (Nat.le_refl _) _⟩
              case measure => simp [intOf]; omega
            · have d1 : (p == (X : Int)) = false := beq_eq_false_iff_ne.2 g
              rw [if_neg g] at HSN2
              clear g hy
              go_wp2
              go_quiet (fail)
              go_wp2
              go_roundw
              case rel => exact ⟨i + 1, o2, hlti, by go_num, HSN2.out.symm, ⟨HBd2.out.1.mono (by omega), HBd2.out.2⟩, HR2.out.drewN _, below_dN HB2.out _⟩
              case measure => simp [intOf]; omega
          · have hie : i = l.length := by omega
            have hge : ¬ (i : Int) < (l.length : Int) := by omega
            have HO3 : Hid (o2 = dpA l (xs.take (k + 1)) (List.replicate N 0)) := by show _ = _; rw [HSN.out, HO2.out, hie, List.take_length]
            have HBd3 : Hid (InB o2 (257 * (k + 1 : Nat)) ∧ o2.length = N) := ⟨HBd2.out.1.mono (by have := HL.out; omega), HBd2.out.2⟩
            clear hlti hie
            go_wp2
            go_roundw
            case rel => exact ⟨k + 1, o2, hlt, by go_num, HO3, HBd3, HR2, HB2⟩
            case measure => simp [intOf]; omega
      · have hke : k = xs.length := by omega
        have hge : ¬ (k : Int) < (xs.length : Int) := by omega
        have HE : Hid (deepF N l = o) := by show _ = _; rw [HDF.out, HOo.out, hke, List.take_length]
        have hll := HBd.out.2
        clear hlt hke
        go_wp2
        go_ret2
        rw [HE.out]
        refine ⟨_, _, by rw [hll]; rfl, HRr.out.ints .i64 _ rfl, HB.out.trans (HBr.out.mono HBW.out)⟩
  · have CM2 : Hid (Calls Try.prog 84 #[.int .i64 n, .slice a l.length cap] w fun e w' => ∃ av cv, e = .returned (.tuple #[.slice av 0 cv, .int .i64 (deepRes n l).2]) ∧ Hid (Below w.heap.size w w')) := CM.out.mono fun e w' ⟨av, cv, e1, h2, h1⟩ => by
      by_cases h3 : Good n l
      · by_cases h4 : (ord n.toNat l).length < n.toNat
        · rw [show ordRes n l = ([], 9) by unfold ordRes; rw [if_pos h3, if_pos h4]] at e1
          rw [show deepRes n l = ([], 9) by unfold deepRes; rw [if_pos h3, if_pos h4]]
          exact ⟨av, cv, e1, h1⟩
        · exact absurd ⟨h3, h4⟩ hg
      · rw [show ordRes n l = ([], 1) by unfold ordRes; rw [if_neg h3]] at e1
        rw [show deepRes n l = ([], 1) by unfold deepRes; rw [if_neg h3]]
        exact ⟨av, cv, e1, h1⟩
    have HE : Hid ((deepRes n l).1 = []) := by
      show _ = _
      unfold deepRes
      split
      · split
        · rfl
        · exact absurd ⟨‹_›, ‹_›⟩ hg
      · rfl
    have hd : (deepRes n l).2 = 1 ∨ (deepRes n l).2 = 9 := by
      unfold deepRes
      split
      · split
        · exact .inr rfl
        · exact absurd ⟨‹_›, ‹_›⟩ hg
      · exact .inl rfl
    obtain ⟨r, hr⟩ : ∃ r, Hid (deepRes n l = r) := ⟨_, rfl⟩
    rw [hr.out] at CM2 HE hd ⊢
    clear CM hg
    obtain ⟨r1, r2⟩ := r
    simp only at HE hd CM2
    rcases hd with rfl | rfl
    · go_enter Try.func62, Try.ntmps62
      go_wp2_with (go_at_call 84; ((with_reducible refine CM2.out.mono ?_); rintro e w2 ⟨av, cv, rfl, HB⟩))
      go_ret2
      rw [show r1 = [] from HE.out]
      exact ⟨_, _, rfl, fun i hi => absurd hi (Nat.not_lt_zero i), HB.out⟩
    · go_enter Try.func62, Try.ntmps62
      go_wp2_with (go_at_call 84; ((with_reducible refine CM2.out.mono ?_); rintro e w2 ⟨av, cv, rfl, HB⟩))
      go_ret2
      rw [show r1 = [] from HE.out]
      exact ⟨_, _, rfl, fun i hi => absurd hi (Nat.not_lt_zero i), HB.out⟩
end Gra
end Go.Proofs.Ytiabnjmblcogmaa
end
section
namespace Go.Proofs.Ytiabnjmblcogmaa
open Go.RowKit
namespace Pen
def bs (l : List UInt8) : ByteArray := ⟨l.toArray⟩
theorem bs_size (l : List UInt8) : (bs l).size = l.length := by unfold bs; simp [ByteArray.size]
theorem bs_toList (l : List UInt8) : (bs l).data.toList = l := rfl
theorem bs_append (a b : List UInt8) : bs a ++ bs b = bs (a ++ b) := by
  apply ByteArray.ext
  simp [bs, ByteArray.data_append]
/-- A word's bytes; so many more than one may come. -/
def wbF : Nat → Nat → List UInt8
  | 0, n => [UInt8.ofNat n]
  | f + 1, n => if n < 128 then [UInt8.ofNat n] else UInt8.ofNat (128 + n % 128) :: wbF f (n / 128)
def wb (n : Nat) : List UInt8 := wbF 9 n
/-- A number's bytes. -/
def uintB (n : Int) : List UInt8 := if n < 0 then [] else wb n.toNat
theorem wbF_len (f n : Nat) : 1 ≤ (wbF f n).length ∧ (wbF f n).length ≤ f + 1 := by
  induction f generalizing n with
  | zero => simp [wbF]
  | succ f ih =>
    rw [wbF]
    split
    · simp
    · have := ih (n / 128)
      simp only [List.length_cons]; omega
theorem uintB_len (n : Int) : (uintB n).length ≤ 10 := by
  unfold uintB wb
  split
  · simp
  · have := wbF_len 9 n.toNat; omega
/-- A word that stands there: what it is, and what is left. -/
def rdF : Nat → Nat → Nat → List UInt8 → Option (Nat × List UInt8)
  | 0, _, _, _ => none
  | _ + 1, _, _, [] => none
  | f + 1, k, n, b :: l => if (b = 0 ∧ 0 < k) ∨ (k = 9 ∧ 1 < b.toNat) then none else if b.toNat < 128 then some (n + b.toNat % 128 * 2 ^ (7 * k), l) else rdF f (k + 1) (n + b.toNat % 128 * 2 ^ (7 * k)) l
def rd (l : List UInt8) : Option (Nat × List UInt8) := rdF 10 0 0 l
/-- A number at most so great, out of what a reader has left; none: it is bad. -/
def uintS (most : Int) : Option (List UInt8) → Int × Option (List UInt8)
  | none => (0, none)
  | some l => match rd l with
    | none => (0, none)
    | some (n, l') => if (9223372036854775807 : Int) < (n : Int) ∨ most < (n : Int) then (0, none) else ((n : Int), some l')
def doneS : Option (List UInt8) → Bool
  | none => false
  | some l => l.isEmpty
theorem rdF_small (f k n : Nat) (l : List UInt8) (r : Nat × List UInt8) (hf : f + k = 10) (hn : n < 2 ^ (7 * k)) (h : rdF f k n l = some r) : r.1 < 2 ^ 64 ∧ r.2.length < l.length := by
  induction f generalizing k n l with
  | zero => cases l <;> simp [rdF] at h
  | succ f ih =>
    cases l with
    | nil => simp [rdF] at h
    | cons b l =>
      rw [rdF] at h
      split at h
      · cases h
      · rename_i hc
        have hb : b.toNat < 256 := b.toNat_lt
        have hk : k ≤ 9 := by omega
        have hmod : b.toNat % 128 ≤ 127 := by omega
        have hstep : n + b.toNat % 128 * 2 ^ (7 * k) < 2 ^ (7 * (k + 1)) := by
          rw [show 7 * (k + 1) = 7 * k + 7 by omega, Nat.pow_add]
          have : b.toNat % 128 * 2 ^ (7 * k) ≤ 127 * 2 ^ (7 * k) := Nat.mul_le_mul_right _ hmod
          omega
        split at h
        · cases h
          refine ⟨?_, by simp⟩
          simp only
          by_cases h9 : k = 9
          · subst h9
            have : b.toNat ≤ 1 := by omega
            have h1 : b.toNat % 128 * 2 ^ (7 * 9) ≤ 1 * 2 ^ (7 * 9) := Nat.mul_le_mul_right _ (by omega)
            omega
          · have h2 : 2 ^ (7 * (k + 1)) ≤ 2 ^ 63 := Nat.pow_le_pow_right (by omega) (by omega)
            omega
        · have := ih (k + 1) _ l (by omega) hstep h
          refine ⟨this.1, by simp only [List.length_cons]; omega⟩
theorem rd_small {l : List UInt8} {r : Nat × List UInt8} (h : rd l = some r) : r.1 < 2 ^ 64 ∧ r.2.length < l.length := rdF_small 10 0 0 l r rfl (by decide) h
end Pen
end Go.Proofs.Ytiabnjmblcogmaa
end
section
namespace Go.Proofs.Ytiabnjmblcogmaa
open Go.RowKit
namespace Pen
theorem below2 {w a b : World} (h : Below w.heap.size w a) (h2 : Below a.heap.size a b) : Below w.heap.size w b := h.trans (h2.mono h.size)
theorem below_al {w x : World} (h : Below w.heap.size w x) (o : Obj) : Below w.heap.size w (x.alloc o) := h.alloc h.size o
theorem uinfo : (Try.prog.info? 5).map (fun i => (i.zero, i.size, i.bytes)) = some (some (.int .u8 0), 1, 1) := by kernel_rfl
theorem and127 (n : Nat) (h : n < 18446744073709551616) : bits .and .u64 (n : Int) 127 = ((n % 128 : Nat) : Int) := by
  show IntKind.u64.wrap ((BitVec.ofInt 64 (n : Int) &&& BitVec.ofInt 64 127).toNat : Int) = _
  rw [BitVec.toNat_and, show (BitVec.ofInt 64 127).toNat = 2 ^ 7 - 1 from rfl, Nat.and_two_pow_sub_one_eq_mod, show (BitVec.ofInt 64 (n : Int)).toNat = n by rw [BitVec.ofInt_natCast, BitVec.toNat_ofNat]; exact Nat.mod_eq_of_lt h, IntKind.wrap_u64]
  omega
theorem or128 (m : Nat) (h : m < 128) : bits .or .u8 128 (m : Int) = ((128 + m : Nat) : Int) := by
  have key : ∀ m : Fin 128, bits .or .u8 128 ((m.val : Nat) : Int) = ((128 + m.val : Nat) : Int) := by decide +kernel
  exact key ⟨m, h⟩
theorem u8v (m : Nat) (h : m < 256) : ((UInt8.ofNat m).toNat : Int) = (m : Int) := by
  have e : (UInt8.ofNat m).toNat = m % 256 := by simp
  rw [e, Nat.mod_eq_of_lt h]
theorem back_form {w : World} {base : Nat} {e : TypeId} {v : Value} {b l : List UInt8} {m : UInt8} {M : Int} (hr : l = b ++ [m]) (hv : (m.toNat : Int) = M) (h : w.ownsRow base e 1 v (b.length + 1) (Own.byteVals b ++ [.int .u8 M])) : w.ownsRow base e 1 v l.length (Own.byteVals l) := by
  subst hr
  subst hv
  rw [List.length_append, List.length_singleton, Own.byteVals_append]
  exact h
end Pen
end Go.Proofs.Ytiabnjmblcogmaa
end
section
namespace Go.Proofs.Ytiabnjmblcogmaa
open Go.RowKit
namespace Pen
theorem bs_cons (b : UInt8) (l : List UInt8) : bs [b] ++ bs l = bs (b :: l) := by rw [bs_append]; rfl
end Pen
end Go.Proofs.Ytiabnjmblcogmaa
end
section
namespace Go.Proofs.Ytiabnjmblcogmaa
open Go.RowKit
namespace Pen
/-- A reader's cells. -/
def rc (rest : ByteArray) (bad : Bool) (i : Nat) : Value := if i = 0 then .string rest else if i = 1 then .bool bad else .bool true
theorem grw_trans {a b c : World} {g : Nat} (h1 : a.grownBy b (some g)) (h2 : b.grownBy c (some g)) : a.grownBy c (some g) :=
  ⟨h2.os.trans h1.os, h2.tape.trans h1.tape, h2.output.trans h1.output, Nat.le_trans h1.size h2.size, fun k hk hne => (h2.block k (Nat.lt_of_lt_of_le hk h1.size) hne).trans (h1.block k hk hne)⟩
theorem grw_refl (w : World) (g : Nat) : w.grownBy w (some g) := ⟨rfl, rfl, rfl, Nat.le_refl _, fun _ _ _ => rfl⟩
theorem grw_set (w : World) (g i : Nat) (u : Value) : w.grownBy (w.setCell ⟨g, i, none⟩ u) (some g) :=
  ⟨rfl, rfl, rfl, by simp, fun k _ hne => Below.heap_setCell _ _ _ _ (fun e => hne (by rw [e]))⟩
theorem and127b (b : UInt8) : bits .and .u8 (b.toNat : Int) 127 = ((b.toNat % 128 : Nat) : Int) := by
  have key : ∀ m : Fin 256, bits .and .u8 ((m.val : Nat) : Int) 127 = ((m.val % 128 : Nat) : Int) := by decide +kernel
  exact key ⟨b.toNat, b.toNat_lt⟩
theorem or_add (n m t : Nat) (hn : n < 2 ^ t) (h : n + m * 2 ^ t < 2 ^ 64) : bits .or .u64 (n : Int) ((m * 2 ^ t : Nat) : Int) = ((n + m * 2 ^ t : Nat) : Int) := by
  have h1 : n < 2 ^ 64 := by omega
  have h2 : m * 2 ^ t < 2 ^ 64 := by omega
  show IntKind.u64.wrap ((BitVec.ofInt 64 (n : Int) ||| BitVec.ofInt 64 ((m * 2 ^ t : Nat) : Int)).toNat : Int) = _
  rw [BitVec.toNat_or, show (BitVec.ofInt 64 (n : Int)).toNat = n by rw [BitVec.ofInt_natCast, BitVec.toNat_ofNat]; exact Nat.mod_eq_of_lt h1,
    show (BitVec.ofInt 64 ((m * 2 ^ t : Nat) : Int)).toNat = m * 2 ^ t by rw [BitVec.ofInt_natCast, BitVec.toNat_ofNat]; exact Nat.mod_eq_of_lt h2]
  have e : n ||| m * 2 ^ t = n + m * 2 ^ t := by
    rw [Nat.or_comm, Nat.mul_comm, ← Nat.two_pow_add_eq_or_of_lt hn m, Nat.add_comm]
  rw [e, IntKind.wrap_u64]
  omega
/-- What a word leaves. -/
def wordS (l : List UInt8) : Int × Bool × List UInt8 × Bool := match rd l with
  | none => (0, false, l, true)
  | some (n, l') => ((n : Int), true, l', false)
theorem rdF_step (f k n : Nat) (b : UInt8) (l : List UInt8) : rdF (f + 1) k n (b :: l) = if (b = 0 ∧ 0 < k) ∨ (k = 9 ∧ 1 < b.toNat) then none else if b.toNat < 128 then some (n + b.toNat % 128 * 2 ^ (7 * k), l) else rdF f (k + 1) (n + b.toNat % 128 * 2 ^ (7 * k)) l := rfl
theorem drop_at (s : ByteArray) (k : Nat) (h : k < s.size) : s.data.toList.drop k = s[k] :: s.data.toList.drop (k + 1) := by
  rw [List.drop_eq_getElem_cons (by simpa using h)]; rfl
theorem extract_bs (s : ByteArray) (k : Nat) : s.extract k s.size = bs (s.data.toList.drop k) := by
  apply ByteArray.ext
  apply Array.toList_inj.1
  simp [bs, ByteArray.data_extract]
  rw [List.take_of_length_le (by simp)]
theorem bs_self (s : ByteArray) : bs s.data.toList = s := by
  apply ByteArray.ext; simp [bs]
theorem acc_bound {n b k : Nat} (hn : n < 2 ^ (7 * k)) (hb : b ≤ 127) (hk : k ≤ 9) (h9 : k = 9 → b ≤ 1) : n + b * 2 ^ (7 * k) < 2 ^ 64 ∧ n + b * 2 ^ (7 * k) < 2 ^ (7 * (k + 1)) := by
  have h2 : n + b * 2 ^ (7 * k) < 2 ^ (7 * (k + 1)) := by
    rw [show 7 * (k + 1) = 7 * k + 7 by omega, Nat.pow_add]
    have : b * 2 ^ (7 * k) ≤ 127 * 2 ^ (7 * k) := Nat.mul_le_mul_right _ hb
    omega
  refine ⟨?_, h2⟩
  by_cases e : k = 9
  · have hb1 := h9 e
    subst e
    have : b * 2 ^ (7 * 9) ≤ 1 * 2 ^ (7 * 9) := Nat.mul_le_mul_right _ hb1
    omega
  · have h3 : 2 ^ (7 * (k + 1)) ≤ 2 ^ 63 := Nat.pow_le_pow_right (by omega) (by omega)
    omega
end Pen
end Go.Proofs.Ytiabnjmblcogmaa
end
section
namespace Go.Proofs.Ytiabnjmblcogmaa
open Go.RowKit
namespace Pen
/-- What a reader has left; none: it is bad. -/
def st (rest : ByteArray) (bad : Bool) : Option (List UInt8) := if bad then none else some rest.data.toList
theorem uintS_le (most : Int) (o : Option (List UInt8)) (h : most ≤ 9223372036854775807) : 0 ≤ (uintS most o).1 ∧ (uintS most o).1 ≤ 9223372036854775807 := by
  unfold uintS
  split
  · simp
  · split
    · simp
    · split
      · simp
      · rename_i hc; simp only; omega
end Pen
end Go.Proofs.Ytiabnjmblcogmaa
end
section
namespace Go.Proofs.Ytiabnjmblcogmaa
open Go.RowKit
namespace Pen
/-- The reference's reader's cells. -/
def rrc (S : ByteArray) (p : Nat) (bad : Bool) (i : Nat) : Value := if i = 0 then .string S else if i = 1 then .int .i64 (p : Int) else .bool bad
/-- What is left; none: it is bad. -/
def st2 (S : ByteArray) (p : Nat) (bad : Bool) : Option (List UInt8) := if bad then none else some (S.data.toList.drop p)
namespace RrAt
variable {w : World} {g p : Nat} {S : ByteArray} {bad : Bool}
end RrAt
theorem grw_dN {a b : World} {g : Nat} (h : a.grownBy b (some g)) (n : Nat) : a.grownBy (b.drewN n) (some g) := ⟨h.os, h.tape, h.output, h.size, h.block⟩
theorem grw_d {a b : World} {g : Nat} (h : a.grownBy b (some g)) : a.grownBy b.drew (some g) := ⟨h.os, h.tape, h.output, h.size, h.block⟩
def rdO (o : Option (List UInt8)) : Int × Option (List UInt8) := match o with
  | none => (0, none)
  | some l => match rd l with
    | none => (0, none)
    | some (n, l') => ((n : Int), some l')
end Pen
end Go.Proofs.Ytiabnjmblcogmaa
end
