/- The web: made, where nodes may be. -/
import Derived.Test.YtjdkkldlghdojaaGraW
namespace Go.Proofs.Ytjdkkldlghdojaa
open Go.RowKit
namespace Gra
set_option maxRecDepth 100000 in
set_option maxHeartbeats 4000000 in
theorem made_yes (n : Int) (a : Option Addr) (cap : Nat) (l : List (Int × Int)) (hn0 : 0 ≤ n) (hn : n ≤ 64) (hl : l.length ≤ 256) (w : World) (ha : Prs w a l) :
    Calls Try.prog 17 #[.int .i64 n, .slice a l.length cap] w (MadeOut n l w) := by
  have HA := Lib.hid ha
  have d1 : decide (n < 0) = false := decide_eq_false (by omega)
  have d2 : decide (64 < n) = false := decide_eq_false (by omega)
  have d3 : decide ((256 : Int) < (l.length : Int)) = false := decide_eq_false (by omega)
  have HN : Hid (0 ≤ n ∧ n ≤ 64 ∧ l.length ≤ 256) := ⟨hn0, hn, hl⟩
  obtain ⟨i0, hi, hz0, hz1, hz2⟩ := info_parts info3
  have HW := Lib.hid (web_new n w)
  have HBW : Hid (Below w.heap.size w (w.alloc (.cells (zW n) 48))) := (Below.refl _ _).alloc (Nat.le_refl _) _
  clear ha
  have hB := zero48
  have hZ := zW_size n
  have hS := zW_set n
  have hNe : ¬ zW 0 = #[] := fun e => by have := congrArg Array.size e; rw [zW_size] at this; cases this
  generalize zW n = Z at *
  generalize zW 0 = Z0 at *
  go_enter Try.func17, Try.ntmps17
  go_wp2
  clear hB hZ hS hNe
  go_loopw [24] (fun v24 wr => ∃ (k : Nat) (C : Nat → Value), k ≤ l.length ∧ v24 = .int .i64 k ∧ Hid (∀ j, j < k → inW (l.getD j (0, 0)).1 n = true ∧ inW (l.getD j (0, 0)).2 n = true) ∧ Hid (Web wr w.heap.size w.heap.size n (RF (l.take k)) (OF (l.take k)) C) ∧ Hid (Below w.heap.size w wr)) (fun v24 _ => l.length - (intOf v24).toNat)
  case atStart => exact ⟨0, _, by omega, rfl, fun j hj => by omega, HW, HBW⟩
  case round =>
    obtain ⟨k, C, hk, rfl, HV, HWr, HB⟩ := hrel
    by_cases hlt : k < l.length
    · have hx := Prs.below HA.out HB.out
      obtain ⟨b, off, ea, hb, c0, c1⟩ := hx k hlt
      rw [ea]
      replace ea := Lib.hid ea
      clear hx
      have hlt1 : (k : Int) < (l.length : Int) := by omega
      have hk0 : (0 : Int) ≤ (k : Int) := by omega
      have HT := Lib.hid (take_snoc l k hlt)
      have HNO : Hid (¬ (inW (l.getD k (0, 0)).1 n = true ∧ inW (l.getD k (0, 0)).2 n = true) → ¬ Good n l) := fun h hg => h (hg.2.2.2 k hlt)
      have HYE : Hid ((inW (l.getD k (0, 0)).1 n = true ∧ inW (l.getD k (0, 0)).2 n = true) → ∀ j, j < k + 1 → inW (l.getD j (0, 0)).1 n = true ∧ inW (l.getD j (0, 0)).2 n = true) := fun h j hj => by
        by_cases e : j = k
        · subst e; exact h
        · exact HV.out j (by omega)
      obtain ⟨p, hp⟩ : ∃ A, Hid ((l.getD k (0, 0)).1 = A) := ⟨_, rfl⟩
      obtain ⟨q, hq⟩ : ∃ A, Hid ((l.getD k (0, 0)).2 = A) := ⟨_, rfl⟩
      rw [hp.out] at c0 HNO HYE HT
      rw [hq.out] at c1 HNO HYE HT
      have gl : w.heap.size < wr.heap.size := HWr.out.row.lt
      cases hp1 : inW p n
      · have HNO2 := Lib.hid (HNO.out (fun h => by rw [hp1] at h; cases h.1))
        have C1 : Hid (∀ W, W.cell? ⟨w.heap.size, 0, none⟩ = some (.int .i64 n) → Calls Try.prog 18 #[.pointer (some ⟨w.heap.size, 0, none⟩), .int .i64 p] W fun e w' => e = .returned (.bool false) ∧ W = w') := fun W h => by have := is_any w.heap.size n p W h; rwa [hp1] at this
        clear HT HYE
        go_wp2_with (go_at_call 18; ((with_reducible refine (C1.out _ (HWr.out.alloc _).cell0).mono ?_); rintro e w1 ⟨rfl, rfl⟩))
        go_ret
        exact ⟨below_al HB.out _, .inr ⟨HNO2.out, rfl⟩⟩
      · cases hq1 : inW q n
        · have HNO2 := Lib.hid (HNO.out (fun h => by rw [hq1] at h; cases h.2))
          have C1 : Hid (∀ W, W.cell? ⟨w.heap.size, 0, none⟩ = some (.int .i64 n) → Calls Try.prog 18 #[.pointer (some ⟨w.heap.size, 0, none⟩), .int .i64 p] W fun e w' => e = .returned (.bool true) ∧ W = w') := fun W h => by have := is_any w.heap.size n p W h; rwa [hp1] at this
          have C2 : Hid (∀ W, W.cell? ⟨w.heap.size, 0, none⟩ = some (.int .i64 n) → Calls Try.prog 18 #[.pointer (some ⟨w.heap.size, 0, none⟩), .int .i64 q] W fun e w' => e = .returned (.bool false) ∧ W = w') := fun W h => by have := is_any w.heap.size n q W h; rwa [hq1] at this
          clear HT HYE
          go_wp2_with (go_at_call 18; ((first | (with_reducible refine (C1.out _ (HWr.out.alloc _).cell0).mono ?_) | (with_reducible refine (C2.out _ (HWr.out.alloc _).cell0).mono ?_)); rintro e w1 ⟨rfl, rfl⟩))
          go_ret
          exact ⟨below_al HB.out _, .inr ⟨HNO2.out, rfl⟩⟩
        · have HY2 := Lib.hid (HYE.out ⟨hp1, hq1⟩)
          have bp := inW_yes hp1
          have bq := inW_yes hq1
          have hn64 := HN.out.2.1
          obtain ⟨X, hX⟩ : ∃ X : Nat, p = (X : Int) := ⟨p.toNat, by omega⟩
          obtain ⟨Y, hY⟩ : ∃ Y : Nat, q = (Y : Int) := ⟨q.toNat, by omega⟩
          subst hX
          subst hY
          have C1 : Hid (∀ W, W.cell? ⟨w.heap.size, 0, none⟩ = some (.int .i64 n) → Calls Try.prog 18 #[.pointer (some ⟨w.heap.size, 0, none⟩), .int .i64 (X : Int)] W fun e w' => e = .returned (.bool true) ∧ W = w') := fun W h => by have := is_any w.heap.size n (X : Int) W h; rwa [hp1] at this
          have C2 : Hid (∀ W, W.cell? ⟨w.heap.size, 0, none⟩ = some (.int .i64 n) → Calls Try.prog 18 #[.pointer (some ⟨w.heap.size, 0, none⟩), .int .i64 (Y : Int)] W fun e w' => e = .returned (.bool true) ∧ W = w') := fun W h => by have := is_any w.heap.size n (Y : Int) W h; rwa [hq1] at this
          have hX0 : (0 : Int) ≤ (X : Int) := by omega
          have hX1 : (X : Int) < 65 := by omega
          have hY0 : (0 : Int) ≤ (Y : Int) := by omega
          have hY1 : (Y : Int) < 65 := by omega
          clear hn64 bp bq
          go_wp2_with (go_at_call 18; ((first | (with_reducible refine (C1.out _ (HWr.out.alloc _).cell0).mono ?_) | (with_reducible refine (C2.out _ (HWr.out.alloc _).cell0).mono ?_)); rintro e w1 ⟨rfl, rfl⟩))
          have kk : (wr.alloc (.cells #[.int .i64 (X : Int), .int .i64 (Y : Int)] 23)).cell? ⟨wr.heap.size, 0, none⟩ = some (.int .i64 (X : Int)) ∧ (wr.alloc (.cells #[.int .i64 (X : Int), .int .i64 (Y : Int)] 23)).cell? ⟨wr.heap.size, 1, none⟩ = some (.int .i64 (Y : Int)) := ⟨by simp, by simp⟩
          have HW1 := Lib.hid (HWr.out.alloc (.cells #[.int .i64 (X : Int), .int .i64 (Y : Int)] 23))
          have HB1 := Lib.hid (below_al HB.out (.cells #[.int .i64 (X : Int), .int .i64 (Y : Int)] 23))
          have hg7W : wr.heap.size < (wr.alloc (.cells #[.int .i64 (X : Int), .int .i64 (Y : Int)] 23)).heap.size := by simp
          have hg7 : w.heap.size ≠ wr.heap.size := Nat.ne_of_lt gl
          have hr1 : isRow (1 + X) := by unfold isRow; omega
          have hr2 : isRow (131 + Y) := by unfold isRow; omega
          have hv7 : (C (1 + X)).ownBlock ≠ some wr.heap.size := fun e => by have := ((HWr.out.own (1 + X) hr1).lt _ e).2; omega
          have HU7 : Hid (isRow (131 + Y) → (C (131 + Y)).ownBlock ≠ some wr.heap.size) := fun hr2 e => by have := ((HWr.out.own (131 + Y) hr2).lt _ e).2; omega
          clear gl C1 C2 HWr HB
          generalize wr.heap.size = G7 at *
          generalize wr.alloc (.cells #[.int .i64 (X : Int), .int .i64 (Y : Int)] 23) = W1 at *
          obtain ⟨k0, k1⟩ := kk
          obtain ⟨V, hV⟩ : ∃ V, Hid (C (1 + X) = V) := ⟨_, rfl⟩
          have kg := HW1.out.cell (i := 1 + X) (by omega)
          have fg := HW1.out.row.frozen (1 + X)
          have HO := Lib.hid (HW1.out.own (1 + X) hr1)
          have hvg := HW1.out.ne (1 + X) hr1
          rw [hV.out] at HO hvg hv7 kg
          have hgW := HW1.out.row.lt
          have HRL : Hid (∀ i, (RF (l.take k) i).length ≤ 256) := fun i => Nat.le_trans (RF_len _ _) (by rw [List.length_take]; have := HN.out.2.2; omega)
          go_cut [] (fun wx => Hid (Mid w n (fun j => if j = 1 + X then RF (l.take k) j ++ [(Y : Int)] else RF (l.take k) j) (OF (l.take k)) (131 + Y) G7 X Y wx))
          case first =>
            go_region_law ((refine step_append_lies _ (by rfl) _ _ _ (by rfl) w.heap.size 3 i0 _ 1 8 Try.underlying30 hi hz0 hz1 hz2 rfl (by omega) V _ _ (by rfl) ((HO.out.alloc _).drew) ⟨W1.heap.size, 0, none⟩ 1 1 [.int .i64 (Y : Int)] (by rfl) (by rfl) (World.news_of_block (cs := #[.int .i64 (Y : Int)]) (t := 3) (fr := (0, 0)) (heap_alloc_new W1 _)) (by simp [Value.oneCell']) (by omega) (by have := HRL.out (1 + X); unfold maxLen; omega) (by have := HRL.out (1 + X); omega) (by have := HB1.out.size; simp; omega) (W1.heap.size + 1) (by simp) ?_; intro gg cap9 w2 hown2 hgrow2 hat2 hlt2; have f2 := push_frozen hgW fg hgrow2 hvg; have kx2 := push_cell hg7W k0 hgrow2 hv7; have ky2 := push_cell hg7W k1 hgrow2 hv7; have kv2 := push_cell hgW kg hgrow2 hvg))
            all_goals (go_wp2_with fail; go_meet; exact mid_step HW1.out hr1 hV.out (by omega) HU7.out HB1.out HO.out hgrow2 hown2 hat2 hg7W hg7 kx2 ky2)
          case rest =>
            obtain ⟨C2, HW2, HU2, HB2, hg72, kx2, ky2⟩ := hcut
            replace HW2 := Lib.hid HW2
            replace HB2 := Lib.hid HB2
            have hU2 := HU2 hr2
            clear HW1 HB1 HO hV kg fg hvg hv7 hgW k0 k1 hg7W HU2 HU7 V
            obtain ⟨R2, hR2⟩ : ∃ R2, Hid ((fun j => if j = 1 + X then RF (l.take k) j ++ [(Y : Int)] else RF (l.take k) j) = R2) := ⟨_, rfl⟩
            rw [hR2.out] at HW2
            obtain ⟨U, hU⟩ : ∃ V, Hid (C2 (131 + Y) = V) := ⟨_, rfl⟩
            have ku := HW2.out.cell (i := 131 + Y) (by omega)
            have fu := HW2.out.row.frozen (131 + Y)
            have HO2 := Lib.hid (HW2.out.own (131 + Y) hr2)
            have hug := HW2.out.ne (131 + Y) hr2
            rw [hU.out] at HO2 hug hU2 ku
            have hgW2 := HW2.out.row.lt
            have HRL2 : Hid ((R2 (131 + Y)).length ≤ 257) := by
              rw [← hR2.out]
              have := HRL.out (131 + Y)
              show (if 131 + Y = 1 + X then _ else _ : List Int).length ≤ 257
              split
              · rw [List.length_append]; simp; omega
              · omega
            go_wp2
            go_cut [] (fun wx => Hid (Mid w n (fun j => if j = 131 + Y then R2 j ++ [(X : Int)] else R2 j) (OF (l.take k)) 0 G7 X Y wx))
            case first =>
              go_region_law ((refine step_append_lies _ (by rfl) _ _ _ (by rfl) w.heap.size 3 i0 _ 1 8 Try.underlying30 hi hz0 hz1 hz2 rfl (by omega) U _ _ (by rfl) ((HO2.out.alloc _).drew) ⟨wc.heap.size, 0, none⟩ 1 1 [.int .i64 (X : Int)] (by rfl) (by rfl) (World.news_of_block (cs := #[.int .i64 (X : Int)]) (t := 3) (fr := (0, 0)) (heap_alloc_new wc _)) (by simp [Value.oneCell']) (by omega) (by have := HRL2.out; unfold maxLen; omega) (by have := HRL2.out; omega) (by have := HB2.out.size; simp; omega) (wc.heap.size + 1) (by simp) ?_; intro gg cap9 w2 hown2 hgrow2 hat2 hlt2; have f3 := push_frozen hgW2 fu hgrow2 hug; have kx3 := push_cell hg72 kx2 hgrow2 hU2; have ky3 := push_cell hg72 ky2 hgrow2 hU2; have kv3 := push_cell hgW2 ku hgrow2 hug))
              all_goals (go_wp2_with fail; go_meet; exact mid_step HW2.out hr2 hU.out (by omega) (fun h => by unfold isRow at h; omega) HB2.out HO2.out hgrow2 hown2 hat2 hg72 hg7 kx3 ky3)
            case rest =>
              obtain ⟨C3, HW3, _, HB3, hg73, kx3, ky3⟩ := hcut
              replace HW3 := Lib.hid HW3
              replace HB3 := Lib.hid HB3
              clear HW2 HB2 HO2 hU ku fu hug hU2 hgW2 kx2 ky2 hg72 ky3 U
              have ko := HW3.out.cell (i := 66 + X) (by omega)
              rw [HW3.out.cO X (by omega)] at ko
              have fo := HW3.out.row.frozen (66 + X)
              have hO1 : OF (l.take k) X ≤ 256 ∧ 0 ≤ OF (l.take k) X := by
                unfold OF
                have h1 := ndsF_len (l.take k) (X : Int)
                rw [List.length_take] at h1
                have := HN.out.2.2
                omega
              obtain ⟨T, hT⟩ : ∃ T : Int, Hid (OF (l.take k) X = T) := ⟨_, rfl⟩
              rw [hT.out] at ko hO1
              obtain ⟨T2, wT, hT2⟩ : ∃ A : Int, wrap64 (T + 1) = A ∧ Hid (A = OF (l.take k) X + 1) := ⟨T + 1, by unfold wrap64; omega, by rw [hT.out]; rfl⟩
              have wT3 : IntKind.i64.wrap (T + 1) = T2 := by rw [wrapEq]; exact wT
              clear hO1
              go_wp2
              go_region
              go_wp2
              go_roundw
              case rel =>
                have HW4 := (HW3.out.setO X (by omega) T2).drew
                refine ⟨k + 1, _, by omega, by go_num, HY2, HW4.congr (fun i hi => ?_) (fun x _ => ?_), (HB3.out.setCell (Nat.le_refl _) _).drew⟩
                · rw [HT.out, RF_step _ X Y (by omega) (by omega) i hi, ← hR2.out]
                · rw [HT.out, OF_step, hT2.out]
              case measure => simp [intOf]; omega
    · have hke : k = l.length := by omega
      have HE : Hid (MadeOut n l w (.returned (.pointer (some ⟨w.heap.size, 0, none⟩))) wr) := by
        refine ⟨HB.out, .inl ⟨⟨HN.out.1, HN.out.2.1, HN.out.2.2, ?_⟩, rfl, C, ?_⟩⟩
        · rw [← hke]; exact HV.out
        · have := HWr.out
          rwa [hke, List.take_length] at this
      have hge : ¬ (k : Int) < (l.length : Int) := by omega
      clear hlt hke
      go_wp2
      go_ret
      exact HE.out
set_option maxRecDepth 100000 in
set_option maxHeartbeats 1000000 in
theorem made_any (n : Int) (a : Option Addr) (cap : Nat) (l : List (Int × Int)) (w : World) (ha : Prs w a l) :
    Calls Try.prog 17 #[.int .i64 n, .slice a l.length cap] w (MadeOut n l w) := by
  by_cases h1 : n < 0
  · have d1 : decide (n < 0) = true := decide_eq_true h1
    have HE : Hid (MadeOut n l w (.returned (.pointer none)) w) := ⟨Below.refl _ _, .inr ⟨fun h => by have := h.1; omega, rfl⟩⟩
    clear ha h1
    go_enter Try.func17, Try.ntmps17
    go_wp2
    go_ret
    exact HE.out
  · by_cases h2 : 64 < n
    · have d1 : decide (n < 0) = false := decide_eq_false h1
      have d2 : decide (64 < n) = true := decide_eq_true h2
      have HE : Hid (MadeOut n l w (.returned (.pointer none)) w) := ⟨Below.refl _ _, .inr ⟨fun h => by have := h.2.1; omega, rfl⟩⟩
      clear ha h1
      go_enter Try.func17, Try.ntmps17
      go_wp2
      go_ret
      exact HE.out
    · by_cases h3 : (256 : Int) < (l.length : Int)
      · have d1 : decide (n < 0) = false := decide_eq_false h1
        have d2 : decide (64 < n) = false := decide_eq_false h2
        have d3 : decide ((256 : Int) < (l.length : Int)) = true := decide_eq_true h3
        have HE : Hid (MadeOut n l w (.returned (.pointer none)) w) := ⟨Below.refl _ _, .inr ⟨fun h => by have := h.2.2.1; omega, rfl⟩⟩
        clear ha h1 h2
        go_enter Try.func17, Try.ntmps17
        go_wp2
        go_ret
        exact HE.out
      · exact made_yes n a cap l (by omega) (by omega) (by omega) w ha
end Gra
end Go.Proofs.Ytjdkkldlghdojaa
