/- How deep nodes stand: plain words, and the program's Deep. -/
import Derived.Test.YtjdkkldlghdojaaGraR2
import Derived.BigRegion
namespace Go.Proofs.Ytjdkkldlghdojaa
open Go.RowKit
namespace Gra
open In (Ints IsInts)
def dp1 (x y : Int) (o : List Int) : List Int := o.set (x - 1).toNat (max (o.getD (x - 1).toNat 0) (o.getD (y - 1).toNat 0 + 1))
def dpN (x : Int) (ys : List Int) (o : List Int) : List Int := ys.foldl (fun o y => dp1 x y o) o
def dpA (E : List (Int × Int)) (xs : List Int) (o : List Int) : List Int := xs.foldl (fun o x => dpN x (ndsF E x) o) o
theorem dp1_len (x y : Int) (o : List Int) : (dp1 x y o).length = o.length := by unfold dp1; rw [List.length_set]
theorem dpN_len (x : Int) (ys : List Int) : ∀ o, (dpN x ys o).length = o.length := by
  induction ys with
  | nil => exact fun o => rfl
  | cons y ys ih => intro o; show (dpN x ys (dp1 x y o)).length = _; rw [ih, dp1_len]
theorem dpA_len (E : List (Int × Int)) (xs : List Int) : ∀ o, (dpA E xs o).length = o.length := by
  induction xs with
  | nil => exact fun o => rfl
  | cons y ys ih => intro o; show (dpA E ys (dpN y (ndsF E y) o)).length = _; rw [ih, dpN_len]
theorem take_snocI (l : List Int) (k : Nat) (h : k < l.length) : l.take (k + 1) = l.take k ++ [l.getD k 0] := by
  rw [List.take_succ_eq_append_getElem h, List.getD_eq_getElem?_getD, List.getElem?_eq_getElem h]; rfl
theorem dpN_snoc (x : Int) (ys : List Int) (i : Nat) (h : i < ys.length) (o : List Int) : dpN x (ys.take (i + 1)) o = dp1 x (ys.getD i 0) (dpN x (ys.take i) o) := by
  rw [take_snocI ys i h]; unfold dpN; rw [List.foldl_append]; rfl
theorem dpA_snoc (E : List (Int × Int)) (xs : List Int) (k : Nat) (h : k < xs.length) (o : List Int) : dpA E (xs.take (k + 1)) o = dpN (xs.getD k 0) (ndsF E (xs.getD k 0)) (dpA E (xs.take k) o) := by
  rw [take_snocI xs k h]; unfold dpA; rw [List.foldl_append]; rfl
theorem dpR_snoc (E : List (Int × Int)) (x : Int) (i : Nat) (h : i < E.length) (o : List Int) : dpN x (ndsF (E.take (i + 1)) x) o = if (E.getD i (0, 0)).1 = x then dp1 x (E.getD i (0, 0)).2 (dpN x (ndsF (E.take i) x) o) else dpN x (ndsF (E.take i) x) o := by
  rw [take_snoc E i h, ndsF_snoc]
  split
  · unfold dpN; rw [List.foldl_append]; rfl
  · rfl
def InB (o : List Int) (B : Int) : Prop := ∀ i, 0 ≤ o.getD i 0 ∧ o.getD i 0 ≤ B
theorem InB.zero (n : Nat) : InB (List.replicate n 0) 0 := fun i => by
  rw [List.getD_eq_getElem?_getD, List.getElem?_replicate]
  split <;> simp
theorem getD_set (o : List Int) (i j : Nat) (v : Int) : (o.set i v).getD j 0 = if i = j ∧ i < o.length then v else o.getD j 0 := by
  rw [List.getD_eq_getElem?_getD, List.getElem?_set, List.getD_eq_getElem?_getD]
  by_cases h : i = j
  · subst h
    by_cases h2 : i < o.length
    · rw [if_pos rfl, if_pos h2, if_pos ⟨rfl, h2⟩]; rfl
    · rw [if_pos rfl, if_neg h2, if_neg (fun e => h2 e.2), List.getElem?_eq_none (by omega)]
  · rw [if_neg h, if_neg (fun e => h e.1)]
theorem InB.step {o : List Int} {B : Int} (h : InB o B) (x y : Int) : InB (dp1 x y o) (B + 1) := by
  intro i
  unfold dp1
  rw [getD_set]
  have h1 := h (x - 1).toNat
  have h2 := h (y - 1).toNat
  have h3 := h i
  split <;> omega
theorem InB.mono {o : List Int} {B B' : Int} (h : InB o B) (hb : B ≤ B') : InB o B' := fun i => by have := h i; omega
/-- How deep the nodes stand. -/
def deepF (n : Nat) (E : List (Int × Int)) : List Int := dpA E (ord n E) (List.replicate n 0)
def deepRes (n : Int) (l : List (Int × Int)) : List Int × Int :=
  if Good n l then (if (ord n.toNat l).length < n.toNat then ([], 9) else (deepF n.toNat l, 0)) else ([], 1)
theorem run_mkI (m : Nat) (hm : m ≤ 4096) (w : World) : (Instr.makeSlice 30 (.int .i64 (m : Int)) (.int .i64 (m : Int))).run Try.prog w = .ok (.slice (some ⟨w.heap.size, 0, none⟩) m m) (w.alloc (.cells (madeCells #[.int .i64 0] m) 3)) := by
  obtain ⟨i0, hi, hz0, hz1, hz2⟩ := info_parts info3
  have := run_makeSlice (P := Try.prog) (w := w) 30 3 i0 (.int .i64 0) Try.underlying30 hi hz0 .i64 .i64 m m (by omega) (by omega) (by rw [hz1]; omega) (by rw [hz2]; omega) (by omega)
  rw [this]
  simp [hz1, Value.cells]
theorem row_made (w : World) (m : Nat) : RowAt (w.alloc (.cells (madeCells #[.int .i64 0] m) 3)) w.heap.size ((List.replicate m (0 : Int)).map (Value.int .i64)) := by
  have h := World.rowIs_made w (.int .i64 0) m 3
  obtain ⟨c, hg, hs, hc⟩ := h
  refine ⟨c, 3, hg, fun i u hu => ?_⟩
  rw [List.getElem?_map, List.getElem?_replicate] at hu
  split at hu
  · rw [hc i ‹_›]; simpa using hu
  · cases hu
theorem row_get {w : World} {g : Nat} {l : List Int} (h : RowAt w g (l.map (Value.int .i64))) {i : Nat} (hi : i < l.length) : w.cell? ⟨g, i, none⟩ = some (.int .i64 (l.getD i 0)) :=
  h.cell (by rw [List.getElem?_map, List.getElem?_eq_getElem hi, List.getD_eq_getElem?_getD, List.getElem?_eq_getElem hi]; rfl)
theorem below_dN {B : Nat} {a w : World} (h : Below B a w) (n : Nat) : Below B a (w.drewN n) := ⟨h.os, h.tape, h.output, h.size, h.block⟩
theorem nds_in {n : Nat} {E : List (Int × Int)} (hr : ∀ e ∈ E, (1 ≤ e.1 ∧ e.1 ≤ (n : Int)) ∧ (1 ≤ e.2 ∧ e.2 ≤ (n : Int))) {x : Int} {i : Nat} (hi : i < (ndsF E x).length) : 1 ≤ (ndsF E x).getD i 0 ∧ (ndsF E x).getD i 0 ≤ (n : Int) := by
  have hm : (ndsF E x).getD i 0 ∈ ndsF E x := by rw [List.getD_eq_getElem?_getD, List.getElem?_eq_getElem hi]; exact List.getElem_mem _
  unfold ndsF at hm
  rw [List.mem_map] at hm
  obtain ⟨e, he, e2⟩ := hm
  have := (hr e (List.mem_filter.1 he).1).2
  unfold ndsF
  rw [← e2]; exact this
theorem ord_in {n : Nat} {E : List (Int × Int)} {k : Nat} (hk : k < (ord n E).length) : 1 ≤ (ord n E).getD k 0 ∧ (ord n E).getD k 0 ≤ (n : Int) := by
  have hm : (ord n E).getD k 0 ∈ ord n E := by rw [List.getD_eq_getElem?_getD, List.getElem?_eq_getElem hk]; exact List.getElem_mem _
  exact (ordG_ok n E n).range _ hm
theorem Web.ints {W : World} {B g : Nat} {n : Int} {R : Nat → List Int} {OW : Nat → Int} {C : Nat → Value} (h : Web W B g n R OW C) {i : Nat} (hi : isRow i) : ∃ a cap, C i = .slice a (R i).length cap ∧ Ints .i64 W a (R i) := by
  rcases (h.own i hi).2 with ⟨e, h0⟩ | ⟨g', cap, cur, hv, _⟩
  · exact ⟨none, 0, by rw [e, h0], fun j hj => by omega⟩
  · have hown := h.own i hi
    rw [hv] at hown
    exact ⟨_, cap, hv, (RowAt.of_own hown).ints .i64 _ rfl⟩
theorem own_ints {w : World} {base : Nat} {v : Value} {l : List Int} (h : w.ownsRow base 3 1 v l.length (l.map (Value.int .i64))) : ∃ a cap, v = .slice a l.length cap ∧ Ints .i64 w a l := by
  rcases h.2 with ⟨e, h0⟩ | ⟨g', cap, cur, hv, _⟩
  · exact ⟨none, 0, by rw [e, h0], fun j hj => by omega⟩
  · rw [hv] at h
    exact ⟨_, cap, hv, (RowAt.of_own h).ints .i64 _ rfl⟩
set_option maxRecDepth 100000 in
set_option maxHeartbeats 8000000 in
theorem Deep_core (n : Int) (a : Option Addr) (cap : Nat) (l : List (Int × Int)) (w : World) (ha : Prs w a l) :
    Calls Try.prog 12 #[.int .i64 n, .slice a l.length cap] w (ListOut (deepRes n l) w) := by
  have CM := Lib.hid (ordered_any n a cap l w ha)
  clear ha
  by_cases hg : Good n l ∧ ¬ (ord n.toNat l).length < n.toNat
  · obtain ⟨hg, hnl⟩ := hg
    have hf : deepRes n l = (deepF n.toNat l, 0) := by unfold deepRes; rw [if_pos hg, if_neg hnl]
    rw [hf]
    have CM2 : Hid (Calls Try.prog 19 #[.int .i64 n, .slice a l.length cap] w fun e w' => ∃ v O C, e = .returned (.tuple #[.pointer (some ⟨w.heap.size, 0, none⟩), v, .int .i64 0]) ∧ Hid (w'.ownsRow w.heap.size 3 1 v (ord n.toNat l).length ((ord n.toNat l).map (Value.int .i64))) ∧ Hid (Web w' w.heap.size w.heap.size n (RF l) O C) ∧ Hid (Below w.heap.size w w')) := CM.out.mono fun e w' ⟨h1, h2⟩ => by
      rcases h2 with ⟨h3, _⟩ | ⟨_, h3, _⟩ | ⟨_, _, v, O, C, e1, h5, h6⟩
      · exact absurd hg h3
      · exact absurd h3 hnl
      · exact ⟨v, O, C, e1, h5, h6, h1⟩
    obtain ⟨N, hN⟩ : ∃ N : Nat, n = (N : Int) := ⟨n.toNat, by have := hg.1; omega⟩
    subst hN
    have HP := Lib.hid hg.pairs
    have hN64 : (N : Int) < 65 := by have := hg.2.1; omega
    have HL : Hid (l.length ≤ 256) := hg.2.2.1
    simp only [Int.toNat_natCast] at *
    have HOL : Hid ((ord N l).length ≤ N) := (ordG_ok N l N).len
    have hmk := fun w => run_mkI N (by omega) w
    clear hg hnl hf CM
    go_enter Try.func12, Try.ntmps12
    go_wp2_with (go_at_call 19; ((with_reducible refine CM2.out.mono ?_); rintro e w2 ⟨v, O, C, rfl, HO, HW, HB⟩; obtain ⟨av, cv, rfl, hI⟩ := own_ints HO.out; have HI := Lib.hid hI; clear hI))
    have HR0 := Lib.hid (row_made w2 N)
    have HB0 : Hid (Below w2.heap.size w2 (w2.alloc (.cells (madeCells #[.int .i64 0] N) 3))) := (Below.refl _ _).alloc (Nat.le_refl _) _
    have HBW := Lib.hid HB.out.size
    clear hmk CM2
    generalize w2.alloc (.cells (madeCells #[.int .i64 0] N) 3) = wm at *
    obtain ⟨xs, hxs⟩ : ∃ xs, Hid (ord N l = xs) := ⟨_, rfl⟩
    have HXR : Hid (∀ k, k < xs.length → 1 ≤ xs.getD k 0 ∧ xs.getD k 0 ≤ (N : Int)) := fun k hk => by have := hxs.out; subst this; exact ord_in hk
    have HDF : Hid (deepF N l = dpA l xs (List.replicate N 0)) := by show deepF N l = _; unfold deepF; rw [hxs.out]
    rw [hxs.out] at HI HOL HO ⊢
    have hxl : (xs.length : Int) < 65 := by have := HOL.out; omega
    go_loopw [28] (fun v28 wr => ∃ (k : Nat) (o : List Int), k ≤ xs.length ∧ v28 = .int .i64 k ∧ Hid (o = dpA l (xs.take k) (List.replicate N 0)) ∧ Hid (InB o (257 * k) ∧ o.length = N) ∧ Hid (RowAt wr w2.heap.size (o.map (Value.int .i64))) ∧ Hid (Below w2.heap.size w2 wr)) (fun v28 _ => xs.length - (intOf v28).toNat)
    case atStart => exact ⟨0, List.replicate N 0, by omega, rfl, rfl, ⟨(InB.zero N).mono (by omega), List.length_replicate⟩, HR0, HB0⟩
    case round =>
      obtain ⟨k, o, hk, rfl, HOo, HBd, HRr, HBr⟩ := hrel
      by_cases hlt : k < xs.length
      · obtain ⟨b, off, ea, hb, c0⟩ := (In.Ints.below HI.out HBr.out) k hlt
        rw [ea]
        replace ea := Lib.hid ea
        have hlt1 : (k : Int) < (xs.length : Int) := by omega
        have hk0 : (0 : Int) ≤ (k : Int) := by omega
        have hx := HXR.out k hlt
        have HSN := Lib.hid (dpA_snoc l xs k hlt (List.replicate N 0))
        rw [← HOo.out] at HSN
        obtain ⟨X, hX⟩ : ∃ X : Nat, Hid (xs.getD k 0 = (X : Int)) := ⟨(xs.getD k 0).toNat, by show _ = _; omega⟩
        rw [hX.out] at c0 hx HSN
        have hx1 : (1 : Int) ≤ (X : Int) := hx.1
        have hx2 : (X : Int) ≤ (N : Int) := hx.2
        have hx3 : (X : Int) < 65 := by omega
        have hr1 : isRow (1 + X) := by unfold isRow; omega
        obtain ⟨ua, uc, hCu, hUI⟩ := HW.out.ints hr1
        have cR := (HW.out.cell (i := 1 + X) (by omega))
        rw [hCu] at cR
        have cR2 := (HBr.out.cell (p := ⟨w.heap.size, 1 + X, none⟩) HW.out.row.lt).trans cR
        rw [RF_nds l X (by omega)] at cR2 hUI
        have HYR : Hid (∀ i, i < (ndsF l (X : Int)).length → 1 ≤ (ndsF l (X : Int)).getD i 0 ∧ (ndsF l (X : Int)).getD i 0 ≤ (N : Int)) := fun i hi => nds_in (by have := HP.out; simpa using this) hi
        have HYL : Hid ((ndsF l (X : Int)).length ≤ 256) := Nat.le_trans (ndsF_len _ _) HL.out
        replace hUI := Lib.hid hUI
        clear cR hCu hx
        generalize ndsF l (X : Int) = ys at *
        have hyl : (ys.length : Int) < 257 := by have := HYL.out; omega
        obtain ⟨wo, rfl⟩ : ∃ wo : World, wo = wr := ⟨_, rfl⟩
        go_wp2
        go_loopw [39] (fun v39 wx => ∃ (i : Nat) (o2 : List Int), i ≤ ys.length ∧ v39 = .int .i64 i ∧ Hid (o2 = dpN (X : Int) (ys.take i) o) ∧ Hid (InB o2 (257 * k + i) ∧ o2.length = N) ∧ Hid (RowAt wx w2.heap.size (o2.map (Value.int .i64))) ∧ Hid (Below w2.heap.size w2 wx)) (fun v39 _ => ys.length - (intOf v39).toNat)
        case atStart => exact ⟨0, o, by omega, rfl, rfl, ⟨HBd.out.1.mono (by omega), HBd.out.2⟩, HRr, HBr⟩
        case round =>
          obtain ⟨i, o2, hi2, rfl, HO2, HBd2, HR2, HB2⟩ := hrel
          by_cases hlti : i < ys.length
          · obtain ⟨b2, off2, ea2, hb2, c2⟩ := (In.Ints.below hUI.out HB2.out) i hlti
            rw [ea2]
            replace ea2 := Lib.hid ea2
            have hlti1 : (i : Int) < (ys.length : Int) := by omega
            have hi0 : (0 : Int) ≤ (i : Int) := by omega
            have hy := HYR.out i hlti
            have HSN2 := Lib.hid (dpN_snoc (X : Int) ys i hlti o)
            rw [← HO2.out] at HSN2
            obtain ⟨Y, hY⟩ : ∃ Y : Nat, Hid (ys.getD i 0 = (Y : Int)) := ⟨(ys.getD i 0).toNat, by show _ = _; omega⟩
            rw [hY.out] at c2 hy HSN2
            obtain ⟨x1, hx1'⟩ : ∃ x1 : Nat, Hid (X = x1 + 1) := ⟨X - 1, by show _ = _; omega⟩
            obtain ⟨y1, hy1'⟩ : ∃ y1 : Nat, Hid (Y = y1 + 1) := ⟨Y - 1, by show _ = _; omega⟩
            have hol := HBd2.out.2
            have ex := hx1'.out
            have ey := hy1'.out
            have cx := row_get HR2.out (i := x1) (by omega)
            have cy := row_get HR2.out (i := y1) (by omega)
            have fx := HR2.out.frozen x1
            have hbx := HBd2.out.1 x1
            have hby := HBd2.out.1 y1
            have HD1 : Hid (dp1 (X : Int) (Y : Int) o2 = o2.set x1 (max (o2.getD x1 0) (o2.getD y1 0 + 1))) := by
              show dp1 _ _ _ = _
              unfold dp1
              rw [show ((X : Int) - 1).toNat = x1 by omega, show ((Y : Int) - 1).toNat = y1 by omega]
            have HBd3 : Hid (InB (dp1 (X : Int) (Y : Int) o2) (257 * k + (i + 1)) ∧ (dp1 (X : Int) (Y : Int) o2).length = N) := ⟨(HBd2.out.1.step _ _).mono (by omega), by rw [dp1_len]; exact hol⟩
            have HRs := Lib.hid (HR2.out.set x1)
            have e1 : IntKind.i64.wrap ((X : Int) - 1) = (x1 : Int) := by rw [wrapEq]; unfold wrap64; omega
            have e2 : (X : Int) - 1 = (x1 : Int) := by omega
            have e3 : IntKind.i64.wrap ((Y : Int) - 1) = (y1 : Int) := by rw [wrapEq]; unfold wrap64; omega
            have e4 : (Y : Int) - 1 = (y1 : Int) := by omega
            have n1 : (0 : Int) ≤ (x1 : Int) := by omega
            have n2 : (x1 : Int) < (N : Int) := by omega
            have n3 : (0 : Int) ≤ (y1 : Int) := by omega
            have n4 : (y1 : Int) < (N : Int) := by omega
            obtain ⟨P1, hP1⟩ : ∃ P1, Hid (o2.getD x1 0 = P1) := ⟨_, rfl⟩
            obtain ⟨P2, hP2⟩ : ∃ P2, Hid (o2.getD y1 0 = P2) := ⟨_, rfl⟩
            rw [hP1.out] at cx hbx HD1
            rw [hP2.out] at cy hby HD1
            obtain ⟨P3, hP3⟩ : ∃ P3, Hid (P2 + 1 = P3) := ⟨_, rfl⟩
            have e5 : IntKind.i64.wrap (P2 + 1) = P3 := by rw [wrapEq, ← hP3.out]; unfold wrap64; omega
            rw [hP3.out] at HD1
            clear hx1' hy1' ex ey hol hbx hby hy hx1 hx2
            go_wp2
            go_region
            go_wp2
            go_roundw
            case rel =>
              have hm : max P1 P3 = if P1 < P3 then P3 else P1 := by split <;> omega
              rw [hm] at HD1
              exact ⟨i + 1, dp1 (X : Int) (Y : Int) o2, hlti, by go_num, HSN2.out.symm, HBd3, by rw [HD1.out, List.map_set]; exact (HRs.out _).drew, (HB2.out.setCell (Nat.le_refl _) _).drew⟩
            case measure => simp [intOf]; omega
          · have hie : i = ys.length := by omega
            have hge : ¬ (i : Int) < (ys.length : Int) := by omega
            have HO3 : Hid (o2 = dpA l (xs.take (k + 1)) (List.replicate N 0)) := by show _ = _; rw [HSN.out, HO2.out, hie, List.take_length]
            have HBd3 : Hid (InB o2 (257 * (k + 1 : Nat)) ∧ o2.length = N) := ⟨HBd2.out.1.mono (by have := HYL.out; omega), HBd2.out.2⟩
            clear hlti hie
            go_wp2
            go_roundw
            case rel => exact ⟨k + 1, o2, hlt, by go_num, HO3, HBd3, HR2, HB2⟩
            case measure => simp [intOf]; omega
      · have hke : k = xs.length := by omega
        have hge : ¬ (k : Int) < (xs.length : Int) := by omega
        have HE : Hid (deepF N l = o) := by show _ = _; rw [HDF.out, HOo.out, hke, List.take_length]
        have hll := HBd.out.2
        clear hlt hke
        go_wp2
        go_ret2
        rw [HE.out]
        refine ⟨_, _, by rw [hll]; rfl, HRr.out.ints .i64 _ rfl, HB.out.trans (HBr.out.mono HBW.out)⟩
  · have CM2 : Hid (Calls Try.prog 19 #[.int .i64 n, .slice a l.length cap] w fun e w' => e = .returned (.tuple #[.pointer none, .slice none 0 0, .int .i64 (deepRes n l).2]) ∧ Hid (Below w.heap.size w w')) := CM.out.mono fun e w' ⟨h1, h2⟩ => by
      rcases h2 with ⟨h3, e1⟩ | ⟨h3, h4, e1⟩ | ⟨h3, h4, _⟩
      · rw [show deepRes n l = ([], 1) by unfold deepRes; rw [if_neg h3]]
        exact ⟨e1, h1⟩
      · rw [show deepRes n l = ([], 9) by unfold deepRes; rw [if_pos h3, if_pos h4]]
        exact ⟨e1, h1⟩
      · exact absurd ⟨h3, h4⟩ hg
    have HE : Hid ((deepRes n l).1 = []) := by
      show _ = _
      unfold deepRes
      split
      · split
        · rfl
        · exact absurd ⟨‹_›, ‹_›⟩ hg
      · rfl
    have hd : (deepRes n l).2 = 1 ∨ (deepRes n l).2 = 9 := by
      unfold deepRes
      split
      · split
        · exact .inr rfl
        · exact absurd ⟨‹_›, ‹_›⟩ hg
      · exact .inl rfl
    obtain ⟨r, hr⟩ : ∃ r, Hid (deepRes n l = r) := ⟨_, rfl⟩
    rw [hr.out] at CM2 HE hd ⊢
    clear CM hg
    obtain ⟨r1, r2⟩ := r
    simp only at HE hd CM2
    rcases hd with rfl | rfl
    · go_enter Try.func12, Try.ntmps12
      go_wp2_with (go_at_call 19; ((with_reducible refine CM2.out.mono ?_); rintro e w2 ⟨rfl, HB⟩))
      go_ret2
      rw [show r1 = [] from HE.out]
      exact ⟨_, _, rfl, fun i hi => absurd hi (Nat.not_lt_zero i), HB.out⟩
    · go_enter Try.func12, Try.ntmps12
      go_wp2_with (go_at_call 19; ((with_reducible refine CM2.out.mono ?_); rintro e w2 ⟨rfl, HB⟩))
      go_ret2
      rw [show r1 = [] from HE.out]
      exact ⟨_, _, rfl, fun i hi => absurd hi (Nat.not_lt_zero i), HB.out⟩
end Gra
end Go.Proofs.Ytjdkkldlghdojaa
