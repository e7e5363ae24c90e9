/- What is below a node: the program's Below. -/
import Derived.Test.YtjdkkldlghdojaaGraB
import Derived.Deep.DeepMust
import Derived.Laws.Rows
import Derived.Laws.EntriesVeiled
namespace Go.Proofs.Ytjdkkldlghdojaa
open Go.RowKit
namespace Gra
open In (Ints IsInts)
theorem run_idx (cs : Array Value) (k : Nat) (hk : k < 65) (v : Bool) (hc : cs[k]? = some (.bool v)) (w : World) : (Instr.index 45 (.agg cs) (.int .i64 (k : Int))).run Try.prog w = .ok (.bool v) w := by
  have hn : (0 ≤ (k : Int) ∧ (k : Int) < 65) := by omega
  simp [Instr.index, run_underlying Try.underlying45, asIntOf, hn, go_sem]
  rw [if_pos hk, hc]; rfl
def zB : Array Value := (List.replicate 65 (Value.bool false)).toArray
theorem zero45 (w : World) : (zeroValue 45).run Try.prog w = .ok (.agg zB) w := by kernel_rfl
theorem zB_row (w : World) : (w.alloc (.cells zB 45)).rowIs w.heap.size 45 65 (fun i => .bool ((fun _ => false) i)) :=
  ⟨zB, heap_alloc_new w _, by simp [zB], fun i hi => by rw [zB, List.getElem?_toArray, List.getElem?_replicate, if_pos hi]⟩
theorem zB_ne : ¬ zB = #[] := fun e => by have := congrArg Array.size e; simp [zB] at this
/-- What is told of the nodes seen when k places are told. -/
noncomputable def blA (E : List (Int × Int)) (nd : Int) (k : Nat) : List Int := belTo E nd (k - 1)
theorem rch_in {n : Nat} {E : List (Int × Int)} (hr : ∀ e ∈ E, (1 ≤ e.1 ∧ e.1 ≤ (n : Int)) ∧ (1 ≤ e.2 ∧ e.2 ≤ (n : Int))) {x y : Int} (h : Rch E x y) : 1 ≤ y ∧ y ≤ (n : Int) := by
  cases h with
  | one e => exact (hr _ e).2
  | next _ e => exact (hr _ e).2
theorem blA_yes {n : Nat} {E : List (Int × Int)} (hr : ∀ e ∈ E, (1 ≤ e.1 ∧ e.1 ≤ (n : Int)) ∧ (1 ≤ e.2 ∧ e.2 ≤ (n : Int))) {nd : Int} {k : Nat} (h : Rch E nd (k : Int)) : blA E nd (k + 1) = blA E nd k ++ [(k : Int)] := by
  have := rch_in hr h
  obtain ⟨j, rfl⟩ : ∃ j, k = j + 1 := ⟨k - 1, by omega⟩
  show belTo E nd (j + 1) = belTo E nd j ++ _
  exact belTo_yes h
theorem blA_no {E : List (Int × Int)} {nd : Int} {k : Nat} (h : ¬ Rch E nd (k : Int)) : blA E nd (k + 1) = blA E nd k := by
  cases k with
  | zero => rfl
  | succ j => exact belTo_no h
theorem blA_end {n : Nat} {E : List (Int × Int)} (hr : ∀ e ∈ E, (1 ≤ e.1 ∧ e.1 ≤ (n : Int)) ∧ (1 ≤ e.2 ∧ e.2 ≤ (n : Int))) (hn : n ≤ 64) {nd : Int} : blA E nd 65 = belTo E nd n := by
  have : ∀ j, belTo E nd (n + j) = belTo E nd n := by
    intro j
    induction j with
    | zero => rfl
    | succ j ih =>
      rw [← Nat.add_assoc, belTo_no (fun h => by have := rch_in hr h; omega), ih]
  have h := this (64 - n)
  rwa [show n + (64 - n) = 64 by omega] at h
theorem row9 (w1 : World) (o8 : Obj) (Z0 : Array Value) (o10 : Obj) (h : ((w1.alloc o8).alloc (.cells Z0 45)).rowIs (w1.alloc o8).heap.size 45 65 (fun i => .bool ((fun _ => false) i))) :
    (((w1.alloc o8).alloc (.cells Z0 45)).alloc o10).rowIs (w1.heap.size + 1) 45 65 (fun i => .bool ((fun _ => false) i)) := by
  rw [show (w1.alloc o8).heap.size = w1.heap.size + 1 by simp] at h
  exact h.alloc _
theorem visC_new {w1 : World} {B g N : Nat} {n : Int} {l : List (Int × Int)} {O : Nat → Int} {C : Nat → Value} (h : Web w1 B g n (RF l) O C) (o9 : Obj) :
    VisC (((w1.alloc (.cells #[.pointer (some ⟨g, 0, none⟩)] 39)).alloc o9).alloc (.cells #[.func (.func 23) #[] #[.pointer (some ⟨w1.heap.size, 0, none⟩), .pointer (some ⟨w1.heap.size + 1, 0, none⟩), .pointer (some ⟨w1.heap.size + 1 + 1, 0, none⟩)]] 53)) g w1.heap.size (w1.heap.size + 1) (w1.heap.size + 1 + 1) N l := by
  have hlt := h.row.lt
  have hb : Below w1.heap.size w1 (((w1.alloc (.cells #[.pointer (some ⟨g, 0, none⟩)] 39)).alloc o9).alloc (.cells #[.func (.func 23) #[] #[.pointer (some ⟨w1.heap.size, 0, none⟩), .pointer (some ⟨w1.heap.size + 1, 0, none⟩), .pointer (some ⟨w1.heap.size + 1 + 1, 0, none⟩)]] 53)) :=
    (((Below.refl _ _).alloc (Nat.le_refl _) _).alloc (by simp) _).alloc (by simp; omega) _
  refine ⟨fun x hx => ?_, ?_, ?_, by omega, by omega, by omega⟩
  · have hr : isRow (1 + x) := by unfold isRow; omega
    obtain ⟨a, cap, hc, hI⟩ := h.ints hr
    have hc2 := h.cell (i := 1 + x) (by omega)
    rw [hc] at hc2
    rw [RF_nds l x hx] at hc2 hI
    refine ⟨a, cap, (hb.cell hlt).trans hc2, hI.below hb, fun b off e => ?_⟩
    have := (h.own _ hr).lt b (by rw [hc, e]; rfl)
    omega
  · rw [World.cell?_alloc_lt _ _ _ (by simp; omega), World.cell?_alloc_lt _ _ _ (by simp)]
    exact Own.cell_new _ _ _
  · have := Own.cell_new ((w1.alloc (.cells #[.pointer (some ⟨g, 0, none⟩)] 39)).alloc o9) (.func (.func 23) #[] #[.pointer (some ⟨w1.heap.size, 0, none⟩), .pointer (some ⟨w1.heap.size + 1, 0, none⟩), .pointer (some ⟨w1.heap.size + 1 + 1, 0, none⟩)]) 53
    simpa using this
set_option maxRecDepth 100000 in
set_option maxHeartbeats 4000000 in
theorem Below_core (n : Int) (a : Option Addr) (cap : Nat) (l : List (Int × Int)) (nd : Int) (w : World) (ha : Prs w a l) :
    Calls Try.prog 14 #[.int .i64 n, .slice a l.length cap, .int .i64 nd] w (ListOut (belRes n l nd) w) := by
  have CM := Lib.hid (made_any n a cap l w ha)
  clear ha
  by_cases hg : Good n l
  · have CM2 : Hid (Calls Try.prog 17 #[.int .i64 n, .slice a l.length cap] w fun e w' => e = .returned (.pointer (some ⟨w.heap.size, 0, none⟩)) ∧ Hid (Below w.heap.size w w' ∧ ∃ C, Web w' w.heap.size w.heap.size n (RF l) (OF l) C)) := CM.out.mono fun e w' ⟨h1, h2⟩ => by
      rcases h2 with ⟨_, e1, h3⟩ | ⟨h3, _⟩
      · exact ⟨e1, h1, h3⟩
      · exact absurd hg h3
    have HG := Lib.hid hg
    have CI : Hid (∀ (W : World), W.cell? ⟨w.heap.size, 0, none⟩ = some (.int .i64 n) → _) := fun W h => is_any w.heap.size n nd W h
    clear CM
    cases hin : inW nd n with
    | false =>
      rw [hin] at CI
      have HR : Hid (belRes n l nd = ([], 1)) := by
        show _ = _
        unfold belRes
        rw [if_neg (fun h => inW_no hin h.2)]
      clear hg
      replace hin := Lib.hid hin
      go_enter Try.func14, Try.ntmps14
      go_wp2_with (first | (go_at_call 17; ((with_reducible refine CM2.out.mono ?_); rintro e w1 ⟨rfl, HM⟩; have HB1 := Lib.hid HM.out.1)) | (go_at_call 18; ((with_reducible refine (CI.out _ ?_).mono ?_); (obtain ⟨_, C, hw⟩ := HM.out; exact (hw.alloc _).cell0); rintro e w2 ⟨rfl, rfl⟩)))
      go_ret2
      rw [HR.out]
      exact ⟨_, _, rfl, fun i hi => absurd hi (Nat.not_lt_zero i), below_al HB1.out _⟩
    | true =>
      rw [hin] at CI
      have hin2 := inW_yes hin
      obtain ⟨N, hN⟩ : ∃ N : Nat, n = (N : Int) := ⟨n.toNat, by have := hg.1; omega⟩
      subst hN
      obtain ⟨D, hD⟩ : ∃ D : Nat, nd = (D : Int) := ⟨nd.toNat, by omega⟩
      subst hD
      have hN64 : N ≤ 64 := by have := hg.2.1; omega
      have HP := Lib.hid hg.pairs
      simp only [Int.toNat_natCast] at HP
      have HR : Hid (belRes (N : Int) l (D : Int) = (belTo l (D : Int) N, 0)) := by
        show _ = _
        unfold belRes
        rw [if_pos ⟨hg, hin2⟩, Int.toNat_natCast]
      rw [HR.out]
      have CV : Hid (∀ (g b8 b9 b10 : Nat) (S : Nat → Bool) (W : World), VisC W g b8 b9 b10 N l → W.rowIs b9 45 65 (fun i => .bool (S i)) → _) := fun g b8 b9 b10 S W h1 h2 => visit_any g b8 b9 b10 N l hN64 HG.out.2.2.1 HP.out _ D S W (by omega) (Nat.le_refl _) h1 h2
      obtain ⟨i0, hi, hz0, hz1, hz2⟩ := info_parts info3
      clear hg hin2
      replace hin := Lib.hid hin
      have hzr := zero45
      have hZR := Lib.hid zB_row
      have hNe := zB_ne
      generalize zB = Z0 at *
      go_enter Try.func14, Try.ntmps14
      go_wp2_with (first
        | (go_at_call 17; ((with_reducible refine CM2.out.mono ?_); rintro e w1 ⟨rfl, HM⟩; have HB1 := Lib.hid HM.out.1))
        | (go_at_call 18; ((with_reducible refine (CI.out _ ?_).mono ?_); (obtain ⟨_, C, hw⟩ := HM.out; exact (hw.alloc _).cell0); rintro e w2 ⟨rfl, rfl⟩))
        | (go_at_call 23; go_must ((with_reducible refine (CV.out w.heap.size w1.heap.size (w1.heap.size + 1) (w1.heap.size + 1 + 1) (fun _ => false) _ ?_ ?_).mono ?_); (obtain ⟨_, C, hw⟩ := HM.out; exact visC_new hw _); (exact row9 w1 _ Z0 _ (hZR.out _)); rintro e w3 ⟨rfl, S2, hvs, hsw⟩; have HVS := Lib.hid hvs.out; have HSW := Lib.hid hsw.out; obtain ⟨cs, hcg, hcs, hcf⟩ := hsw.out.row; replace hcf := Lib.hid hcf; clear hvs hsw))
        | (refine wpList_load_row rfl 45 (.tmp 9) rfl (w1.heap.size + 1) rfl 45 cs (0, 0) _ hcg Try.underlying45 rfl ?hsz ?_; (case hsz => rw [hcs]; kernel_rfl)))
      have HB3 : Hid (Below w.heap.size w w3) := by
        exact (below_al (below_al (below_al HB1.out _) _) _).trans (grw_below HSW.out.grow (by have := HB1.out.size; omega) (by have := HB1.out.size; simp; omega))
      have HQ : Hid (∀ k : Nat, S2 k = true ↔ Rch l (D : Int) (k : Int)) := fun k => HVS.out.all (fun e he => by have := (HP.out e he).2; omega) k
      have HEN : Hid (blA l (D : Int) 65 = belTo l (D : Int) N) := blA_end HP.out hN64
      have HYS : Hid (∀ k : Nat, Rch l (D : Int) (k : Int) → blA l (D : Int) (k + 1) = blA l (D : Int) k ++ [(k : Int)]) := fun k h => blA_yes HP.out h
      have HNS : Hid (∀ k : Nat, ¬ Rch l (D : Int) (k : Int) → blA l (D : Int) (k + 1) = blA l (D : Int) k) := fun k h => blA_no h
      have HBL : Hid (∀ k : Nat, k ≤ 65 → (blA l (D : Int) k).length ≤ 65) := fun k hk => Nat.le_trans (belTo_len _ _ _) (by omega)
      have HZ0 : Hid (blA l (D : Int) 0 = []) := rfl
      clear HSW HVS hcg hcs CV CI CM2 HM HB1 hzr hZR hNe
      generalize belTo l (D : Int) N = Bl at *
      generalize blA l (D : Int) = bl at *
      go_loopw [11, 30] (fun v11 v30 wr => ∃ k : Nat, k ≤ 65 ∧ v30 = .int .i64 (k : Int) ∧ Hid (wr.ownsRow w.heap.size 3 1 v11 (bl k).length ((bl k).map (Value.int .i64))) ∧ Hid (Below w.heap.size w wr)) (fun _ v30 _ => 65 - (intOf v30).toNat)
      case atStart => exact ⟨0, by omega, rfl, by rw [HZ0.out]; exact World.ownsRow_nil _ _ _ _, HB3⟩
      case round =>
        obtain ⟨k, hk, rfl, HO, HB⟩ := hrel
        by_cases hlt : k < 65
        · have hlt1 : (k : Int) < 65 := by omega
          have hk0 : (0 : Int) ≤ (k : Int) := by omega
          have hix := fun v h => run_idx cs k hlt v h
          have hcfk := hcf.out k hlt
          have HL := HBL.out k hk
          replace HL := Lib.hid HL
          by_cases hr : Rch l (D : Int) (k : Int)
          · have HS1 := Lib.hid (HYS.out k hr)
            rw [(HQ.out k).2 hr] at hcfk
            have hid := hix true hcfk
            clear hix hcfk hr
            go_wp2_with (at_builtin; go_must (refine Own.list_one rfl (.tmp 35) (.tmp 37) 30 rfl w.heap.size 3 i0 _ 8 Try.underlying30 hi hz0 hz1 hz2 rfl _ _ _ rfl _ _ _ rfl (HO.out.alloc _) (Own.cell_new _ _ _) rfl ?h1 ?h2 ?h3 ?_; (case h1 => have := HL.out; unfold maxLen; omega); (case h2 => have := HL.out; omega); (case h3 => have := HB.out.size; simp; omega); intro v3' w4 hown4 hgrow4; have HB4 := Lib.hid ((below_al HB.out _).grown hgrow4 (below_al HB.out _).size (Own.own_block HO.out (Nat.le_refl _))); have HO4 := Lib.hid hown4; clear hown4 hgrow4))
            go_roundw
            case rel => exact ⟨k + 1, hlt, by go_num, by rw [HS1.out, List.length_append, List.map_append]; exact HO4, HB4⟩
            case measure => simp [intOf]; omega
          · have HS1 := Lib.hid (HNS.out k hr)
            have hs2 : S2 k = false := by
              cases e : S2 k with
              | false => rfl
              | true => exact absurd ((HQ.out k).1 e) hr
            rw [hs2] at hcfk
            have hid := hix false hcfk
            clear hix hcfk hr hs2
            go_wp2
            go_roundw
            case rel => exact ⟨k + 1, hlt, by go_num, by rw [HS1.out]; exact HO, HB⟩
            case measure => simp [intOf]; omega
        · have hke : k = 65 := by omega
          subst hke
          obtain ⟨ao, co, eo, hI⟩ := own_ints HO.out
          have HI := Lib.hid hI
          rw [eo]
          clear eo hI hlt
          go_wp2
          go_ret2
          rw [← HEN.out]
          exact ⟨_, _, rfl, HI.out, HB.out⟩
  · have CM2 : Hid (Calls Try.prog 17 #[.int .i64 n, .slice a l.length cap] w fun e w' => e = .returned (.pointer none) ∧ Hid (Below w.heap.size w w')) := CM.out.mono fun e w' ⟨h1, h2⟩ => by
      rcases h2 with ⟨h3, _⟩ | ⟨_, h3⟩
      · exact absurd h3 hg
      · exact ⟨h3, h1⟩
    have HR : Hid (belRes n l nd = ([], 1)) := by
      show _ = _
      unfold belRes
      rw [if_neg (fun h => hg h.1)]
    clear hg CM
    go_enter Try.func14, Try.ntmps14
    go_wp2_with (go_at_call 17; ((with_reducible refine CM2.out.mono ?_); rintro e w1 ⟨rfl, HM⟩))
    go_ret2
    rw [HR.out]
    exact ⟨_, _, rfl, fun i hi => absurd hi (Nat.not_lt_zero i), below_al HM.out _⟩
end Gra
end Go.Proofs.Ytjdkkldlghdojaa
