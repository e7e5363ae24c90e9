/- Texts put together: CatN, CatN2, CatX, CatC2. -/
import Derived.Test.YtiabnjmblcogmaaM08
import Derived.Test.YtiabnjmblcogmaaM00
import Derived.Maps.AppendAt
import Derived.Deep.LoopGhost
import Derived.Deep.DeepMust
import Derived.Deep.RegionHeld3
set_option linter.all false
section
namespace Go.Proofs.Ytiabnjmblcogmaa
open Go.RowKit
namespace Cat
open Rec (BlueIn Stk Stks Came stkVals stkVals_append stkVals_length pair_new)
open Gra (Prs)
open Pen (below2 below_al)
/-- One pair behind a row of one's own; where the row lies then. -/
theorem list_pair_at {P : Program} {ops : Array Oper} {rest : List Oper} {o : Oper} {a : Act} {w : World} {Q : Exit → Act → World → Prop} (hgd : o.guard = none) (s x : Operand) (t : TypeId)
    (ho : o.op = .call { callee := .builtin .append, args := #[s, x], argTypes := #[t, t] })
    (base : Nat) (e : TypeId) (i : TypeInfo) (z : Value) (bytes : Nat) (ht : P.underlying t = some (.slice e)) (hi : P.info? e = some i) (hz : i.zero = some z)
    (hsize : i.size = 2) (hby : i.bytes = bytes) (hzs : z.cells.size = 2)
    (v : Value) (n : Nat) (xs : List Value) (hs : a.eval s = v) (ad : Addr) (c : Nat) (u0 u1 : Value) (hx : a.eval x = .slice (some ad) 1 c) (hown : w.ownsRow base e 2 v n xs)
    (hu0 : w.cell? (ad.add 0) = some u0) (hu1 : w.cell? (ad.add 1) = some u1) (h0 : u0.oneCell' = true) (h1 : u1.oneCell' = true) (h63 : n + 1 ≤ maxLen) (hbytes : (n + 1) * bytes ≤ 140737488355328) (hbase : base ≤ w.heap.size)
    (h : ∀ v' w', w'.ownsRow base e 2 v' (n + 1) (xs ++ [u0, u1]) → w.grownBy w' v.ownBlock → (v'.ownBlock = v.ownBlock ∨ v'.ownBlock = some w.heap.size) → wpList P ops Q rest (a.put o.dst v') w') : wpList P ops Q (o :: rest) a w :=
  wpList_append_own_at w hgd s x t ho base e i z 2 bytes ht hi hz hsize hby hzs (by decide) v n xs hs hown ad 1 c [u0, u1] hx rfl
    (fun j u hj => by
      match j, hj with
      | 0, hj => simp at hj; subst hj; exact hu0
      | 1, hj => simp at hj; subst hj; exact hu1
      | j + 2, hj => simp at hj) (fun u hw => by simp at hw; rcases hw with rfl | rfl <;> assumption) h63 hbytes hbase
    (fun v' w' hown' hgrow _ hat => h v' w' hown' hgrow hat)
theorem needsOf_len (l : List BlueIn) (n : Nat) (h : ∀ i, i < l.length → (l.getD i nob).needs.length ≤ n) : (needsOf l).length ≤ l.length * n := by
  induction l with
  | nil => simp [needsOf]
  | cons b l ih =>
    have h0 := h 0 (by simp)
    have ih' := ih fun i hi => by have := h (i + 1) (by simpa using hi); simpa using this
    have e : needsOf (b :: l) = b.needs.map (fun s => (b.makes, s.1)) ++ needsOf l := rfl
    rw [e, List.length_append, List.length_map, List.length_cons]
    have h1 : b.needs.length ≤ n := by simpa using h0
    have : (l.length + 1) * n = l.length * n + n := Nat.succ_mul _ _
    omega
theorem needsOf_take {l : List BlueIn} {i : Nat} (hl : l.length ≤ 20) (h : ∀ i, i < l.length → (l.getD i nob).needs.length ≤ 12) : (needsOf (l.take i)).length ≤ 240 := by
  have h2 := needsOf_len (l.take i) 12 fun k hk => by
    have hk2 : k < l.length := by rw [List.length_take] at hk; omega
    have := h k hk2
    rw [List.getD_eq_getElem?_getD] at this ⊢
    rw [List.getElem?_take_of_lt (by rw [List.length_take] at hk; omega)]
    exact this
  have h3 : (l.take i).length ≤ 20 := by rw [List.length_take]; omega
  have := Nat.mul_le_mul_right 12 h3
  omega
theorem pair_new2 {w : World} {g : Nat} (hg : w.heap.size = g) (u0 u1 : Value) (t : TypeId) : (w.alloc (.cells #[u0, u1] t)).cell? ((⟨g, 0, none⟩ : Addr).add 0) = some u0 ∧ (w.alloc (.cells #[u0, u1] t)).cell? ((⟨g, 0, none⟩ : Addr).add 1) = some u1 := by
  subst hg; exact pair_new _ _ _ _
theorem pairinfo : (Try.prog.info? 28).map (fun i => (i.zero, i.size, i.bytes)) = some (some (.agg #[.int .i64 0, .int .i64 0]), 2, 16) := by kernel_rfl
/-- A cell of another block stays. -/
theorem cell_grown {w w' : World} {o : Option Nat} {g i : Nat} {v : Value} (h : w.grownBy w' o) (hg : g < w.heap.size) (hne : o ≠ some g) (hc : w.cell? ⟨g, i, none⟩ = some v) : w'.cell? ⟨g, i, none⟩ = some v := by
  unfold World.cell? at hc ⊢
  rw [h.block g hg (fun e => hne (by rw [e]))]
  exact hc
theorem ne_of_at {o : Option Nat} {o' : Option Nat} {H g : Nat} (h : o' = o ∨ o' = some H) (ho : o ≠ some g) (hg : g < H) : o' ≠ some g := by
  rcases h with rfl | rfl
  · exact ho
  · intro e; cases e; omega
set_option maxRecDepth 100000 in
set_option maxHeartbeats 4000000 in
theorem Needs_any (c : CatIn) (w : World) (hc : Cam w c) :
    Calls Try.prog 57 #[.agg c.val] w fun e w' => ∃ v, e = .returned v ∧ Hid (w'.ownsRow (w.heap.size + 1) 28 2 v (needsOf c.blues).length (stkVals (needsOf c.blues))) ∧ Hid (Below w.heap.size w w') := by
  obtain ⟨i0, hi, hz0, hz1, hz2⟩ := info_parts pairinfo
  have HC := Lib.hid hc
  obtain ⟨R, hR⟩ : ∃ R, Hid (needsOf c.blues = R) := ⟨_, rfl⟩
  rw [hR.out]
  obtain ⟨L, hL⟩ : ∃ L, c.blues = L := ⟨_, rfl⟩
  have HBl : Hid (Blues w c.baddr L) := by rw [← hL]; exact hc.lies.1
  have HSt : Hid (∀ i, i < L.length → Stks w (L.getD i nob).addr (L.getD i nob).needs ∧ (L.getD i nob).needs.length ≤ 12) := by rw [← hL]; exact fun i hi => ⟨hc.lies.2.2 i hi, hc.small.2.2 i hi⟩
  have HL20 : Hid (L.length ≤ 20) := by rw [← hL]; exact hc.small.1
  have hl20 : (L.length : Int) ≤ 20 := by have := HL20.out; omega
  unfold CatIn.val
  rw [hL] at hR ⊢
  generalize c.baddr = ba at *
  clear hc HC hL
  go_enter Try.func57, Try.ntmps57
  go_wp2
  go_loopg [3, 11] L.length (fun gk v3 v11 wr => ∃ i : Nat, Hid (gk + i = L.length) ∧ v11 = .int .i64 (i : Int) ∧ Hid (wr.ownsRow (w.heap.size + 1) 28 2 v3 (needsOf (L.take i)).length (stkVals (needsOf (L.take i)))) ∧ Hid (Below w.heap.size w wr) ∧ Hid (w.heap.size + 1 ≤ wr.heap.size))
  case atStart => exact ⟨0, (by show _ = _; omega), rfl, World.ownsRow_nil _ _ _ _, below_al (Below.refl _ _) _, (by show _ ≤ _; simp)⟩
  case round =>
    obtain ⟨i, hi2, rfl, HO, HB, HS⟩ := hrel
    by_cases hlt : i < L.length
    · obtain ⟨Gn, hGn⟩ : ∃ Gn, Hid (gk = Gn + 1) := ⟨gk - 1, by have := hi2.out; show _ = _; omega⟩
      obtain ⟨b, off, rfl, hbl, c0, c1, c2, c3, c4, c5, c6⟩ := (HBl.out.below HB.out) i hlt
      have hlt1 : (i : Int) < (L.length : Int) := by omega
      have hi00 : (0 : Int) ≤ (i : Int) := by omega
      have HST := Lib.hid (HSt.out i hlt)
      have HSN := Lib.hid (needsOf_snoc L i hlt)
      have HTL : Hid ((needsOf (L.take i)).length ≤ 240) := needsOf_take HL20.out fun k hk => (HSt.out k hk).2
      generalize (L.getD i nob).makes = M at *
      generalize (L.getD i nob).per = X1 at *
      generalize (L.getD i nob).time = X2 at *
      generalize (L.getD i nob).addr = A at *
      generalize (L.getD i nob).needs = D at *
      generalize (L.getD i nob).cap = C at *
      generalize (L.getD i nob).copy = X4 at *
      generalize (L.getD i nob).study = X5 at *
      generalize (L.getD i nob).most = X6 at *
      generalize needsOf (L.take i) = T at *
      have hd12 : (D.length : Int) ≤ 12 := by have := HST.out.2; omega
      obtain ⟨g0, hg0⟩ : ∃ g0, Hid (wr.heap.size = g0) := ⟨_, rfl⟩
      go_wp2
      rw [hg0.out]
      go_loopg [3, 18] D.length (fun dk v3 v18 wx => ∃ j : Nat, Hid (dk + j = D.length) ∧ v18 = .int .i64 (j : Int) ∧ Hid (wx.ownsRow (w.heap.size + 1) 28 2 v3 (T ++ (D.take j).map fun s => (M, s.1)).length (stkVals (T ++ (D.take j).map fun s => (M, s.1)))) ∧ Hid (Below w.heap.size w wx ∧ w.heap.size + 1 ≤ wx.heap.size) ∧ Hid (wx.cell? ⟨g0, 0, none⟩ = some (.int .i64 M) ∧ v3.ownBlock ≠ some g0 ∧ g0 < wx.heap.size))
      case atStart =>
        refine ⟨0, (by show _ = _; omega), rfl, ?_, ?_, ?_⟩
        · simp only [List.take_zero, List.map_nil, List.append_nil]
          exact HO.out.alloc _
        · exact ⟨below_al HB.out _, by have := HS.out; simp; omega⟩
        · rw [← hg0.out]
          refine ⟨by go_simp, fun e => ?_, by simp⟩
          have := (HO.out.lt _ e).2
          omega
      case round =>
        obtain ⟨j, hj2, rfl, HO1, HB1, HG1⟩ := hrel
        by_cases hlj : j < D.length
        · obtain ⟨Gd, hGd⟩ : ∃ Gd, Hid (gk = Gd + 1) := ⟨gk - 1, by have := hj2.out; show _ = _; omega⟩
          obtain ⟨b2, off2, rfl, hbl2, d0, d1⟩ := (HST.out.1.below HB1.out.1) j hlj
          have hlj1 : (j : Int) < (D.length : Int) := by omega
          have hj00 : (0 : Int) ≤ (j : Int) := by omega
          have HNS := Lib.hid (needs_snoc M D j hlj)
          have HLL : Hid ((T ++ (D.take j).map fun s => (M, s.1)).length ≤ 252) := by
            have := HTL.out
            have := HST.out.2
            show _ ≤ _
            rw [List.length_append, List.length_map, List.length_take]
            omega
          generalize (D.getD j (0, 0)).1 = Y at *
          generalize (D.getD j (0, 0)).2 = Z at *
          have g0c := HG1.out.1
          have g0l := HG1.out.2.2
          go_wp2_with (at_builtin; go_must (refine list_pair_at rfl (.tmp 22) (.tmp 28) 94 rfl (w.heap.size + 1) 28 i0 _ 16 Try.underlying94 hi hz0 hz1 hz2 rfl _ _ _ rfl _ _ (.int .i64 M) (.int .i64 Y) rfl ((HO1.out.alloc _).alloc _) (pair_new2 (by simp) _ _ _).1 (pair_new2 (by simp) _ _ _).2 rfl rfl ?h1 ?h2 ?h3 ?_; (case h1 => have := HLL.out; unfold maxLen; omega); (case h2 => have := HLL.out; omega); (case h3 => have := HB1.out.2; simp; omega); intro v3' w2 hown2 hgrow2 hat2; have HO2 := Lib.hid hown2; have HGW := Lib.hid hgrow2; have HAT := Lib.hid hat2; clear hown2 hgrow2 hat2))
          have HB2 := Lib.hid ((below_al (below_al HB1.out.1 _) _).grown HGW.out (below_al (below_al HB1.out.1 _) _).size (fun k hk => Nat.le_of_succ_le (HO1.out.lt k hk).1))
          go_roundg Gd
          case measure => have := hGd.out; omega
          case rel =>
            refine ⟨j + 1, (by have := hGd.out; have := hj2.out; show _ = _; omega), by go_num, ?_, ⟨HB2.out, ?_⟩, ?_⟩
            · have h := HO2.out
              rw [HNS.out, ← List.append_assoc, stkVals_append, List.length_append (bs := [(M, Y)])]
              exact h
            · have := HGW.out.size
              have h2 := HB1.out.2
              rw [World.size_alloc, World.size_alloc] at this
              omega
            · have hs := HGW.out.size
              rw [World.size_alloc, World.size_alloc] at hs
              refine ⟨cell_grown HGW.out (by rw [World.size_alloc, World.size_alloc]; omega) HG1.out.2.1 (by go_simp), ne_of_at HAT.out HG1.out.2.1 (by rw [World.size_alloc, World.size_alloc]; omega), by omega⟩
        · have hje : j = D.length := by have := hj2.out; omega
          subst hje
          rw [List.take_length] at HO1
          have hge : ¬ (D.length : Int) < (D.length : Int) := by omega
          go_wp2
          go_roundg Gn
          case measure => have := hGn.out; omega
          case rel =>
            refine ⟨i + 1, (by have := hGn.out; have := hi2.out; show _ = _; omega), by go_num, ?_, HB1.out.1, HB1.out.2⟩
            rw [HSN.out]
            exact HO1.out
    · have hie : i = L.length := by have := hi2.out; omega
      subst hie
      rw [List.take_length] at HO
      have hge : ¬ (L.length : Int) < (L.length : Int) := by omega
      go_wp2
      go_ret
      rw [hR.out] at HO
      exact ⟨_, rfl, HO, HB⟩
end Cat
end Go.Proofs.Ytiabnjmblcogmaa
end
section
namespace Go.Proofs.Ytiabnjmblcogmaa
open Go.RowKit
namespace Cat
open Rec (BlueIn Stk Stks Came stkVals stkVals_append stkVals_length pair_new)
open Gra (Prs)
open Pen (below2 below_al)
set_option maxRecDepth 100000 in
set_option maxHeartbeats 4000000 in
theorem refNeeds_any (c : CatIn) (w : World) (hc : Cam w c) :
    Calls Try.prog 63 #[.agg c.val] w fun e w' => ∃ v, e = .returned v ∧ Hid (w'.ownsRow (w.heap.size + 1) 28 2 v (needsOf c.blues).length (stkVals (needsOf c.blues))) ∧ Hid (Below w.heap.size w w') := by
  obtain ⟨i0, hi, hz0, hz1, hz2⟩ := info_parts pairinfo
  have HC := Lib.hid hc
  obtain ⟨R, hR⟩ : ∃ R, Hid (needsOf c.blues = R) := ⟨_, rfl⟩
  rw [hR.out]
  obtain ⟨L, hL⟩ : ∃ L, c.blues = L := ⟨_, rfl⟩
  have HBl : Hid (Blues w c.baddr L) := by rw [← hL]; exact hc.lies.1
  have HSt : Hid (∀ i, i < L.length → Stks w (L.getD i nob).addr (L.getD i nob).needs ∧ (L.getD i nob).needs.length ≤ 12) := by rw [← hL]; exact fun i hi => ⟨hc.lies.2.2 i hi, hc.small.2.2 i hi⟩
  have HL20 : Hid (L.length ≤ 20) := by rw [← hL]; exact hc.small.1
  have hl20 : (L.length : Int) ≤ 20 := by have := HL20.out; omega
  unfold CatIn.val
  rw [hL] at hR ⊢
  generalize c.baddr = ba at *
  generalize c.bcap = bc at *
  obtain ⟨g9, hg9⟩ : ∃ g9, w.heap.size = g9 := ⟨_, rfl⟩
  clear hc HC hL
  go_enter Try.func63, Try.ntmps63
  go_wp2
  go_loopg [3, 4] L.length (fun gk v3 v4 wr => ∃ i : Nat, Hid (gk + i = L.length) ∧ v4 = .int .i64 (i : Int) ∧ Hid (wr.ownsRow (g9 + 1) 28 2 v3 (needsOf (L.take i)).length (stkVals (needsOf (L.take i)))) ∧ Hid (Below w.heap.size w wr) ∧ Hid (g9 + 1 ≤ wr.heap.size) ∧ Hid (wr.cell? ⟨g9, 1, none⟩ = some (.slice ba L.length bc)))
  case atStart => exact ⟨0, (by show _ = _; omega), rfl, World.ownsRow_nil _ _ _ _, below_al (Below.refl _ _) _, (by show _ ≤ _; simp; omega), (by show _ = _; rw [← hg9]; go_simp)⟩
  case round =>
    obtain ⟨i, hi2, rfl, HO, HB, HS, HX⟩ := hrel
    have hx := HX.out
    by_cases hlt : i < L.length
    · obtain ⟨Gn, hGn⟩ : ∃ Gn, Hid (gk = Gn + 1) := ⟨gk - 1, by have := hi2.out; show _ = _; omega⟩
      obtain ⟨b, off, rfl, hbl, c0, c1, c2, c3, c4, c5, c6⟩ := HBl.out i hlt
      have hlt1 : (i : Int) < (L.length : Int) := by omega
      have hi00 : (0 : Int) ≤ (i : Int) := by omega
      have HST := Lib.hid (HSt.out i hlt)
      have HSN := Lib.hid (needsOf_snoc L i hlt)
      have HTL : Hid ((needsOf (L.take i)).length ≤ 240) := needsOf_take HL20.out fun k hk => (HSt.out k hk).2
      have HCC := Lib.hid (And.intro hbl (And.intro c0 c3))
      clear c0 c1 c2 c3 c4 c5 c6
      generalize (L.getD i nob).makes = M at *
      generalize (L.getD i nob).addr = A at *
      generalize (L.getD i nob).needs = D at *
      generalize (L.getD i nob).cap = C at *
      generalize needsOf (L.take i) = T at *
      have hd12 : (D.length : Int) ≤ 12 := by have := HST.out.2; omega
      go_wp2
      go_loopg [3, 5] D.length (fun gk v3 v5 wx => ∃ j : Nat, Hid (gk + j = D.length) ∧ v5 = .int .i64 (j : Int) ∧ Hid (wx.ownsRow (g9 + 1) 28 2 v3 (T ++ (D.take j).map fun s => (M, s.1)).length (stkVals (T ++ (D.take j).map fun s => (M, s.1)))) ∧ Hid (Below w.heap.size w wx) ∧ Hid (g9 + 1 ≤ wx.heap.size) ∧ Hid (wx.cell? ⟨g9, 1, none⟩ = some (.slice (some ⟨b, off, none⟩) L.length bc)))
      case atStart =>
        refine ⟨0, (by show _ = _; omega), rfl, ?_, HB, HS, HX⟩
        simp only [List.take_zero, List.map_nil, List.append_nil]
        exact HO
      case round =>
        obtain ⟨j, hj2, rfl, HO1, HB1, HS1, HX1⟩ := hrel
        have hx1 := HX1.out
        have hbl1 : b < wr.heap.size := Nat.lt_of_lt_of_le HCC.out.1 HB1.out.size
        have e0 := (HB1.out.cell (p := ⟨b, off + i * 7, none⟩) HCC.out.1).trans HCC.out.2.1
        have e3 := (HB1.out.cell (p := ⟨b, off + i * 7 + 3, none⟩) HCC.out.1).trans HCC.out.2.2
        by_cases hlj : j < D.length
        · obtain ⟨Gd, hGd⟩ : ∃ Gd, Hid (gk = Gd + 1) := ⟨gk - 1, by have := hj2.out; show _ = _; omega⟩
          obtain ⟨b2, off2, rfl, hbl2, d0, d1⟩ := (HST.out.1.below HB1.out) j hlj
          have hlj1 : (j : Int) < (D.length : Int) := by omega
          have hj00 : (0 : Int) ≤ (j : Int) := by omega
          have HNS := Lib.hid (needs_snoc M D j hlj)
          have HLL : Hid ((T ++ (D.take j).map fun s => (M, s.1)).length ≤ 252) := by
            have := HTL.out
            have := HST.out.2
            show _ ≤ _
            rw [List.length_append, List.length_map, List.length_take]
            omega
          obtain ⟨NL, hNL⟩ : ∃ NL, Hid ((T ++ (D.take j).map fun s => (M, s.1)) = NL) := ⟨_, rfl⟩
          rw [hNL.out] at HO1 HLL
          generalize (D.getD j (0, 0)).1 = Y at *
          generalize (D.getD j (0, 0)).2 = Z at *
          go_wp2
          go_region_law ((refine step_append_lies _ (by rfl) _ _ _ (by rfl) (g9 + 1) 28 i0 _ 2 16 Try.underlying94 hi hz0 hz1 hz2 rfl (by omega) _ _ _ (by simp [Act.eval]) ((HO1.out.alloc _).drew) ⟨wr.heap.size, 0, none⟩ 1 1 [.int .i64 M, .int .i64 Y] (by simp [Act.eval]) (by rfl) (World.news_of_block (cs := #[.int .i64 M, .int .i64 Y]) (t := 28) (fr := (0, 0)) (heap_alloc_new wr _)) (by simp [Value.oneCell']) (by omega) (by have := HLL.out; unfold maxLen; omega) (by have := HLL.out; omega) (by have := HS1.out; simp; omega) (wr.heap.size + 1) (by simp) ?_; intro gg cap9 w2 hown2 hgrow2 hat2 hlt2; have HO2 := Lib.hid hown2; have HGW := Lib.hid hgrow2; clear hown2 hgrow2 hat2 hlt2))
          all_goals (go_wp2; go_roundg Gd)
          all_goals first
            | (have := hGd.out; omega)
            | skip
          all_goals
            have HB2 := Lib.hid (((below_al HB1.out _).drew).grown HGW.out (below_al HB1.out _).size (fun k hk => (by have := (HO1.out.lt k hk).1; omega)))
            have hs : wr.heap.size + 1 ≤ w2.heap.size := (by have := HGW.out.size; simpa using this)
            have hne : ∀ k, Value.ownBlock _ = some k → k ≠ g9 := fun k hk => (by have := (HO1.out.lt k hk).1; omega)
            refine ⟨j + 1, (by have := hGd.out; have := hj2.out; show _ = _; omega), by go_num, ?_, HB2, (by have := HS1.out; show _ ≤ _; omega), ?_⟩
            · have h := HO2.out
              rw [HNS.out, ← List.append_assoc, hNL.out, stkVals_append, List.length_append]
              exact h
            · exact cell_grown HGW.out (by have := HS1.out; simp; omega) (fun e => hne _ e rfl) ((((Below.refl wr.heap.size wr).alloc (Nat.le_refl _) _).cell (p := ⟨g9, 1, none⟩) (by show g9 < _; have := HS1.out; omega)).trans HX1.out)
        · have hje : j = D.length := by have := hj2.out; omega
          subst hje
          rw [List.take_length] at HO1
          have hge : ¬ (D.length : Int) < (D.length : Int) := by omega
          go_wp2
          go_roundg Gn
          case measure => have := hGn.out; omega
          case rel =>
            refine ⟨i + 1, (by have := hGn.out; have := hi2.out; show _ = _; omega), by go_num, ?_, HB1, HS1, HX1⟩
            rw [HSN.out]
            exact HO1
    · have hie : i = L.length := by have := hi2.out; omega
      subst hie
      rw [List.take_length] at HO
      have hge : ¬ (L.length : Int) < (L.length : Int) := by omega
      go_wp2
      go_ret
      rw [hR.out] at HO
      exact ⟨_, rfl, HO, by rw [← hg9]; exact HB⟩
end Cat
end Go.Proofs.Ytiabnjmblcogmaa
end
section
namespace Go.Proofs.Ytiabnjmblcogmaa
open Go.RowKit
namespace Cat
open Pen (below2 below_al)
open In (Ints)
/-- Is a number greater than eight? -/
def over (l : List Int) : Bool := l.any fun x => decide (8 < x)
theorem over_snoc (l : List Int) (k : Nat) (h : k < l.length) : over (l.take (k + 1)) = (over (l.take k) || decide (8 < l.getD k 0)) := by
  rw [getD_take l 0 k h]; simp [over]
set_option maxHeartbeats 1000000 in
theorem max_any (a : Option Addr) (cap : Nat) (l : List Int) (hl : l.length ≤ 64) (h0 : 0 < l.length) (w : World) (ha : Ints .i64 w a l) :
    Calls Try.prog 58 #[.slice a l.length cap] w fun e w' => (∃ m : Int, e = .returned (.int .i64 m) ∧ Hid (decide (8 < m) = over l)) ∧ w = w' := by
  have HA := Lib.hid ha
  obtain ⟨b, off, rfl, hbl, hcc⟩ := ha 0 h0
  have H1 := Lib.hid (over_snoc l 0 h0)
  obtain ⟨n, hn⟩ : ∃ n, Hid (l.length = n) := ⟨_, rfl⟩
  rw [hn.out] at h0 hl ⊢
  have h01 : ¬ (n : Int) < 1 := by omega
  have h02 : (0 : Int) < (n : Int) := by omega
  have hl64 : (n : Int) ≤ 64 := by omega
  have H0 := Lib.hid h0
  generalize l.getD 0 0 = X at *
  rw [Nat.add_zero] at hcc
  clear ha h0
  go_enter Try.func58, Try.ntmps58
  go_wp2
  go_loop [3, 4] (fun v3 v4 => ∃ (k : Nat) (m : Int), k + 1 ≤ n ∧ v4 = .int .i64 ((k + 1 : Nat) : Int) ∧ v3 = .int .i64 m ∧ Hid (decide (8 < m) = over (l.take (k + 1)))) (fun _ v4 => n - (intOf v4).toNat)
  case atStart => exact ⟨0, X, (by have := H0.out; omega), rfl, rfl, (by show _ = _; rw [H1.out]; simp [over])⟩
  case round =>
    obtain ⟨k, m, hk, rfl, rfl, HM⟩ := hrel
    obtain ⟨K, hK⟩ : ∃ K, k + 1 = K := ⟨_, rfl⟩
    rw [hK] at hk HM ⊢
    by_cases hlt : K < n
    · obtain ⟨b2, off2, e2, hbl2, hc2⟩ := HA.out K (by rw [hn.out]; exact hlt)
      cases e2
      have hlt1 : (K : Int) < (n : Int) := by omega
      have hk0 : (0 : Int) ≤ (K : Int) := by omega
      have HN := Lib.hid (over_snoc l K (by rw [hn.out]; exact hlt))
      have HL : Hid (K < n) := hlt
      generalize l.getD K 0 = Y at *
      clear hK
      go_wp2
      go_round
      case rel =>
        refine ⟨K, if m < Y then Y else m, by have := HL.out; omega, by go_num, by first | rfl | (congr 1; split <;> rfl), ?_⟩
        show _ = _
        rw [HN.out, ← HM.out]
        by_cases h : m < Y
        · rw [if_pos h]
          by_cases h8 : 8 < Y
          · rw [decide_eq_true h8]; simp
          · rw [decide_eq_false h8, decide_eq_false (by omega)]; rfl
        · rw [if_neg h]
          by_cases h8 : 8 < m
          · rw [decide_eq_true h8]; rfl
          · rw [decide_eq_false h8, decide_eq_false (by omega)]; rfl
      case measure => simp [intOf]; have := HL.out; omega
    · have hge : ¬ (K : Int) < (n : Int) := by omega
      have HL : Hid (l.take K = l) := by show _ = _; rw [List.take_of_length_le (by have := hn.out; omega)]
      rw [HL.out] at HM
      clear hlt hK
      go_wp2
      go_ret
      exact ⟨⟨m, rfl, HM⟩, rfl⟩
end Cat
end Go.Proofs.Ytiabnjmblcogmaa
end
section
namespace Go.Proofs.Ytiabnjmblcogmaa
open Go.RowKit
namespace Cat
open Rec (BlueIn Stk Stks Came bchk inB stks_of_own)
open Gra (Prs deepRes ListOut)
open Pen (below2 below_al below_dN)
open In (Ints)
theorem deepRes_len (n : Int) (l : List (Int × Int)) (h : (deepRes n l).2 = 0) : (deepRes n l).1.length = n.toNat := by
  unfold deepRes at h ⊢
  split at h
  · split at h
    · cases h
    · rename_i h1 h2
      rw [if_pos h1, if_neg h2]
      show (Gra.dpA _ _ _).length = _
      rw [Gra.dpA_len, List.length_replicate]
  · cases h
theorem prs_of_own {w : World} {base : Nat} {T : TypeId} {v : Value} {l : List (Int × Int)} (h : w.ownsRow base T 2 v l.length (Rec.stkVals l)) : ∃ a cap, v = .slice a l.length cap ∧ Prs w a l := stks_of_own h
/-- What a check of a catalogue answers. -/
def chkC (c : CatIn) : Int := if okC c then (if (deepRes c.types (needsOf c.blues)).2 ≠ 0 then (deepRes c.types (needsOf c.blues)).2 else if over (deepRes c.types (needsOf c.blues)).1 then 5 else 0) else 1
/-- A catalogue's box. -/
def Box (w : World) (c : CatIn) (W : World) : Prop := Below w.heap.size w W ∧ w.heap.size < W.heap.size ∧ (W.cell? ⟨w.heap.size, 0, none⟩ = some (.int .i64 c.types) ∧ W.cell? ⟨w.heap.size, 1, none⟩ = some (.slice c.baddr c.blues.length c.bcap) ∧ W.cell? ⟨w.heap.size, 2, none⟩ = some (.int .i64 c.places) ∧ W.cell? ⟨w.heap.size, 3, none⟩ = some (.slice c.yaddr c.bays.length c.ycap) ∧ W.cell? ⟨w.heap.size, 4, none⟩ = some (.int .i64 c.chars) ∧ W.cell? ⟨w.heap.size, 5, none⟩ = some (.int .i64 c.broker) ∧ W.cell? ⟨w.heap.size, 6, none⟩ = some (.int .i64 c.least) ∧ W.cell? ⟨w.heap.size, 7, none⟩ = some (.int .i64 c.sales))
theorem box_new (w : World) (c : CatIn) (t : TypeId) : Box w c (w.alloc (.cells c.val t)) := by
  refine ⟨below_al (Below.refl _ _) _, by simp, ?_⟩
  unfold CatIn.val
  refine ⟨?_, ?_, ?_, ?_, ?_, ?_, ?_, ?_⟩ <;> go_simp
theorem box_next {w W W' : World} {c : CatIn} (h : Box w c W) (hb : Below W.heap.size W W') : Box w c W' := by
  obtain ⟨h1, h2, c0, c1, c2, c3, c4, c5, c6, c7⟩ := h
  exact ⟨below2 h1 hb, Nat.lt_of_lt_of_le h2 hb.size, (hb.cell h2).trans c0, (hb.cell h2).trans c1, (hb.cell h2).trans c2, (hb.cell h2).trans c3, (hb.cell h2).trans c4, (hb.cell h2).trans c5, (hb.cell h2).trans c6, (hb.cell h2).trans c7⟩
theorem box_b {w W : World} {c : CatIn} (h : Box w c W) : Below w.heap.size w W := h.1
theorem box_drew {w W : World} {c : CatIn} (h : Box w c W) : Box w c W.drew := ⟨⟨h.1.os, h.1.tape, h.1.output, h.1.size, h.1.block⟩, h.2.1, h.2.2⟩
abbrev Flat (w : World) (c : CatIn) (W : World) : Prop := W.cell? ⟨w.heap.size, 0, none⟩ = some (.int .i64 c.types) ∧ W.cell? ⟨w.heap.size, 1, none⟩ = some (.slice c.baddr c.blues.length c.bcap) ∧ W.cell? ⟨w.heap.size, 2, none⟩ = some (.int .i64 c.places) ∧ W.cell? ⟨w.heap.size, 3, none⟩ = some (.slice c.yaddr c.bays.length c.ycap) ∧ W.cell? ⟨w.heap.size, 4, none⟩ = some (.int .i64 c.chars) ∧ W.cell? ⟨w.heap.size, 5, none⟩ = some (.int .i64 c.broker) ∧ W.cell? ⟨w.heap.size, 6, none⟩ = some (.int .i64 c.least) ∧ W.cell? ⟨w.heap.size, 7, none⟩ = some (.int .i64 c.sales) ∧ Hid (Box w c W)
theorem box_flat {w W : World} {c : CatIn} (h : Hid (Box w c W)) : W.cell? ⟨w.heap.size, 0, none⟩ = some (.int .i64 c.types) ∧ W.cell? ⟨w.heap.size, 1, none⟩ = some (.slice c.baddr c.blues.length c.bcap) ∧ W.cell? ⟨w.heap.size, 2, none⟩ = some (.int .i64 c.places) ∧ W.cell? ⟨w.heap.size, 3, none⟩ = some (.slice c.yaddr c.bays.length c.ycap) ∧ W.cell? ⟨w.heap.size, 4, none⟩ = some (.int .i64 c.chars) ∧ W.cell? ⟨w.heap.size, 5, none⟩ = some (.int .i64 c.broker) ∧ W.cell? ⟨w.heap.size, 6, none⟩ = some (.int .i64 c.least) ∧ W.cell? ⟨w.heap.size, 7, none⟩ = some (.int .i64 c.sales) ∧ Hid (Box w c W) := by
  obtain ⟨h1, h2, c0, c1, c2, c3, c4, c5, c6, c7⟩ := h.out
  exact ⟨c0, c1, c2, c3, c4, c5, c6, c7, h⟩
set_option maxRecDepth 100000 in
set_option maxHeartbeats 4000000 in
theorem Check_any (c : CatIn) (w : World) (hc : Cam w c) :
    Calls Try.prog 36 #[.agg c.val] w fun e w' => e = .returned (.int .i64 (chkC c)) ∧ Below w.heap.size w w' := by
  have HS : Hid (chkC c = if okC c then (if (deepRes c.types (needsOf c.blues)).2 ≠ 0 then (deepRes c.types (needsOf c.blues)).2 else if over (deepRes c.types (needsOf c.blues)).1 then 5 else 0) else 1) := rfl
  have CS : Hid (∀ W, Below w.heap.size w W → Calls Try.prog 55 #[.agg c.val] W fun e w' => e = .returned (.bool (okC c)) ∧ Below W.heap.size W w') := fun W h => sizes_any c W (hc.below h)
  have CN : Hid (∀ W, Below w.heap.size w W → Calls Try.prog 57 #[.agg c.val] W fun e w' => ∃ v, e = .returned v ∧ Hid (w'.ownsRow (W.heap.size + 1) 28 2 v (needsOf c.blues).length (Rec.stkVals (needsOf c.blues))) ∧ Hid (Below W.heap.size W w')) := fun W h => Needs_any c W (hc.below h)
  have CD : Hid (∀ W a k, Prs W a (needsOf c.blues) → Calls Try.prog 56 #[.int .i64 c.types, .slice a (needsOf c.blues).length k] W (ListOut (deepRes c.types (needsOf c.blues)) W)) := fun W a k h => Gra.Deep_core _ _ _ _ _ h
  have HLn := Lib.hid (deepRes_len c.types (needsOf c.blues))
  have HT : Hid (okC c = true → 1 ≤ c.types ∧ c.types ≤ 32) := fun h => by
    unfold okC at h
    rw [Bool.and_eq_true] at h
    have := h.1
    unfold inB at this
    rw [Bool.and_eq_true, decide_eq_true_eq, decide_eq_true_eq] at this
    exact this
  have HB0 := Lib.hid (box_new w c 27)
  clear hc
  generalize needsOf c.blues = Nd at *
  generalize deepRes c.types Nd = D at *
  obtain ⟨D, E⟩ := D
  simp only at HS HLn
  cases hok : okC c
  · have HR : Hid (chkC c = 1) := by show _ = _; rw [HS.out, hok]; rfl
    rw [HR.out]
    rw [hok] at CS
    clear HS HR
    unfold CatIn.val at *
    go_enter Try.func36, Try.ntmps36
    go_wp2_with (go_at_call 55; ((with_reducible refine (CS.out _ (below_al (Below.refl _ _) _)).mono ?_); rintro e w1 ⟨rfl, hb1⟩))
    go_ret
    exact ⟨rfl, below2 (below_al (Below.refl _ _) _) hb1⟩
  · rw [hok, if_pos rfl] at HS
    rw [hok] at CS
    have HT2 := Lib.hid (HT.out hok)
    clear HT hok
    unfold CatIn.val at *
    by_cases hE : E = 0
    · subst hE
      have CM : Hid (∀ W a k, Ints .i64 W a D → Calls Try.prog 58 #[.slice a D.length k] W fun e w' => (∃ m : Int, e = .returned (.int .i64 m) ∧ Hid (decide (8 < m) = over D)) ∧ W = w') := fun W a k h => max_any a k D (by rw [HLn.out rfl]; have := HT2.out; omega) (by rw [HLn.out rfl]; have := HT2.out; omega) W h
      cases hov : over D
      · skip
        have HR : Hid (chkC c = 0) := by show _ = _; rw [HS.out, if_neg (by simp), hov]; rfl
        rw [HR.out]
        rw [hov] at CM
        clear HS HR hov
        go_enter Try.func36, Try.ntmps36
        go_wp2_with (go_at_call 55; ((with_reducible refine (CS.out _ (box_b HB0.out)).mono ?_); rintro e w1 ⟨rfl, hb1⟩; have HB1 := Lib.hid (box_drew (box_next HB0.out hb1))))
        go_region_held3 (Flat w c) (first | exact box_flat HB3 | exact box_flat HB2 | exact box_flat HB1)
          (first
          | (go_at_call 56; (have tok := HB2; (with_reducible refine (CD.out _ _ _ hP2).mono ?_); rintro e w3 ⟨a3, k3, rfl, hi3, hb3⟩; clear tok; have HB3 := Lib.hid (box_next HB2.out hb3)))
          | (go_at_call 57; (have tok := HB1; (with_reducible refine (CN.out _ (box_b HB1.out)).mono ?_); rintro e w2 ⟨v2, rfl, hO2, hb2⟩; obtain ⟨a2, k2, rfl, hP2⟩ := prs_of_own hO2.out; clear tok; have HB2 := Lib.hid (box_next HB1.out hb2.out))))
        go_wp2_with (go_at_call 58; ((with_reducible refine (CM.out _ _ _ hi3).mono ?_); rintro e w4 ⟨⟨m, rfl, hm⟩, rfl⟩; have dm := hm.out))
        go_ret
        exact ⟨rfl, box_b HB3.out⟩
      · skip
        have HR : Hid (chkC c = 5) := by show _ = _; rw [HS.out, if_neg (by simp), hov]; rfl
        rw [HR.out]
        rw [hov] at CM
        clear HS HR hov
        go_enter Try.func36, Try.ntmps36
        go_wp2_with (go_at_call 55; ((with_reducible refine (CS.out _ (box_b HB0.out)).mono ?_); rintro e w1 ⟨rfl, hb1⟩; have HB1 := Lib.hid (box_drew (box_next HB0.out hb1))))
        go_region_held3 (Flat w c) (first | exact box_flat HB3 | exact box_flat HB2 | exact box_flat HB1)
          (first
          | (go_at_call 56; (have tok := HB2; (with_reducible refine (CD.out _ _ _ hP2).mono ?_); rintro e w3 ⟨a3, k3, rfl, hi3, hb3⟩; clear tok; have HB3 := Lib.hid (box_next HB2.out hb3)))
          | (go_at_call 57; (have tok := HB1; (with_reducible refine (CN.out _ (box_b HB1.out)).mono ?_); rintro e w2 ⟨v2, rfl, hO2, hb2⟩; obtain ⟨a2, k2, rfl, hP2⟩ := prs_of_own hO2.out; clear tok; have HB2 := Lib.hid (box_next HB1.out hb2.out))))
        go_wp2_with (go_at_call 58; ((with_reducible refine (CM.out _ _ _ hi3).mono ?_); rintro e w4 ⟨⟨m, rfl, hm⟩, rfl⟩; have dm := hm.out))
        go_ret
        exact ⟨rfl, box_b HB3.out⟩
    · have HR : Hid (chkC c = E) := by show _ = _; rw [HS.out, if_pos hE]
      rw [HR.out]
      have dE : (E == 0) = false := beq_eq_false_iff_ne.2 hE
      clear HS HR HLn
      go_enter Try.func36, Try.ntmps36
      go_wp2_with (go_at_call 55; ((with_reducible refine (CS.out _ (box_b HB0.out)).mono ?_); rintro e w1 ⟨rfl, hb1⟩; have HB1 := Lib.hid (box_drew (box_next HB0.out hb1))))
      go_region_held3 (Flat w c) (first | exact box_flat HB3 | exact box_flat HB2 | exact box_flat HB1)
        (first
        | (go_at_call 56; (have tok := HB2; (with_reducible refine (CD.out _ _ _ hP2).mono ?_); rintro e w3 ⟨a3, k3, rfl, hi3, hb3⟩; clear tok; have HB3 := Lib.hid (box_next HB2.out hb3)))
        | (go_at_call 57; (have tok := HB1; (with_reducible refine (CN.out _ (box_b HB1.out)).mono ?_); rintro e w2 ⟨v2, rfl, hO2, hb2⟩; obtain ⟨a2, k2, rfl, hP2⟩ := prs_of_own hO2.out; clear tok; have HB2 := Lib.hid (box_next HB1.out hb2.out))))
      go_wp2
      go_ret
      exact ⟨rfl, box_b HB3.out⟩
end Cat
end Go.Proofs.Ytiabnjmblcogmaa
end
