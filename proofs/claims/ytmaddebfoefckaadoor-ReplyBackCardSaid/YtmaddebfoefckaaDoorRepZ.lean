/- Replies as words: the document's walk. -/
import Derived.Test.YtmaddebfoefckaaDoorRepY
set_option linter.unusedSimpArgs false
set_option linter.unusedVariables false
namespace Go.Proofs.YtmaddebfoefckaaDoor
open Go.RowKit Go.Great Go.Sort
namespace Rep
open Pen (bs bs_append uintB intB I64 intS uintS doneS)
open Go.Lib (decDigits itoa)
theorem wpAnyU_named {P : Program} {md : Region.Mode} {ops : Array Oper} {Q : Exit → Act → World → Prop} {S : World → Prop} {D : Nat → Bool} {fuel : Nat} {listed : Array Bool} {a : Act} {w : World} (h : ∀ W, W = w → Ord.wpAnyU P md ops Q S D fuel listed a W) : Ord.wpAnyU P md ops Q S D fuel listed a w := h w rfl
theorem words_cell (w : World) (k : Nat) (hk : k < 15) : (w.alloc (.cells ((wdL.map fun l => Value.string (bs l)).toArray) 9)).cell? ⟨w.heap.size, k, none⟩ = some (.string (bs (wdL.getD k []))) := by
  have e2 : (wdL.map fun l => Value.string (bs l)).toArray[k]? = some (.string (bs (wdL.getD k []))) := by
    rw [List.getElem?_toArray, List.getElem?_map, List.getD_eq_getElem?_getD, List.getElem?_eq_getElem (by rw [wd_len]; exact hk)]
    rfl
  have := heap_alloc_new w (.cells ((wdL.map fun l => Value.string (bs l)).toArray) 9)
  unfold World.cell?
  rw [this]
  simpa using e2
/-- Names and numbers stand in blocks. -/
structure Lists (w : World) (gN gI : Nat) (r : RepIn) : Prop where
  ltN : gN < w.heap.size
  ltI : gI < w.heap.size
  n0 : w.cell? ⟨gN, 0, none⟩ = some (.string (bs nmId))
  n1 : w.cell? ⟨gN, 1, none⟩ = some (.string (bs nmN))
  n2 : w.cell? ⟨gN, 2, none⟩ = some (.string (bs nmSt))
  n3 : w.cell? ⟨gN, 3, none⟩ = some (.string (bs nmTi))
  i0 : w.cell? ⟨gI, 0, none⟩ = some (.int .i64 r.id)
  i1 : w.cell? ⟨gI, 1, none⟩ = some (.int .i64 r.n)
  i2 : w.cell? ⟨gI, 2, none⟩ = some (.int .i64 r.st)
  i3 : w.cell? ⟨gI, 3, none⟩ = some (.int .i64 r.ti)
theorem Lists.below {w w' : World} {gN gI : Nat} {r : RepIn} (h : Lists w gN gI r) (hb : Below w.heap.size w w') : Lists w' gN gI r :=
  ⟨Nat.lt_of_lt_of_le h.ltN hb.size, Nat.lt_of_lt_of_le h.ltI hb.size, (hb.cell (p := ⟨gN, 0, none⟩) h.ltN).trans h.n0, (hb.cell (p := ⟨gN, 1, none⟩) h.ltN).trans h.n1, (hb.cell (p := ⟨gN, 2, none⟩) h.ltN).trans h.n2, (hb.cell (p := ⟨gN, 3, none⟩) h.ltN).trans h.n3, (hb.cell (p := ⟨gI, 0, none⟩) h.ltI).trans h.i0, (hb.cell (p := ⟨gI, 1, none⟩) h.ltI).trans h.i1, (hb.cell (p := ⟨gI, 2, none⟩) h.ltI).trans h.i2, (hb.cell (p := ⟨gI, 3, none⟩) h.ltI).trans h.i3⟩
theorem new4 (w : World) (t : TypeId) (a b c d : Value) : (w.alloc (.cells #[a, b, c, d] t)).cell? ⟨w.heap.size, 0, none⟩ = some a ∧ (w.alloc (.cells #[a, b, c, d] t)).cell? ⟨w.heap.size, 1, none⟩ = some b ∧ (w.alloc (.cells #[a, b, c, d] t)).cell? ⟨w.heap.size, 2, none⟩ = some c ∧ (w.alloc (.cells #[a, b, c, d] t)).cell? ⟨w.heap.size, 3, none⟩ = some d := by
  refine ⟨?_, ?_, ?_, ?_⟩ <;> (rw [World.cell?_alloc_at _ _ _ _ (by simp)]; rfl)
theorem lists_ni (w : World) (r : RepIn) (t u : TypeId) : Lists ((w.alloc (.cells #[.string (bs nmId), .string (bs nmN), .string (bs nmSt), .string (bs nmTi)] t)).alloc (.cells #[.int .i64 r.id, .int .i64 r.n, .int .i64 r.st, .int .i64 r.ti] u)) w.heap.size (w.heap.size + 1) r := by
  obtain ⟨a0, a1, a2, a3⟩ := new4 w t (.string (bs nmId)) (.string (bs nmN)) (.string (bs nmSt)) (.string (bs nmTi))
  obtain ⟨b0, b1, b2, b3⟩ := new4 (w.alloc (.cells #[.string (bs nmId), .string (bs nmN), .string (bs nmSt), .string (bs nmTi)] t)) u (.int .i64 r.id) (.int .i64 r.n) (.int .i64 r.st) (.int .i64 r.ti)
  have hs : (w.alloc (.cells #[.string (bs nmId), .string (bs nmN), .string (bs nmSt), .string (bs nmTi)] t)).heap.size = w.heap.size + 1 := by simp
  have hb := (below_al (Below.refl (w.alloc (.cells #[.string (bs nmId), .string (bs nmN), .string (bs nmSt), .string (bs nmTi)] t)).heap.size _) (.cells #[.int .i64 r.id, .int .i64 r.n, .int .i64 r.st, .int .i64 r.ti] u))
  have hl : w.heap.size < (w.alloc (.cells #[.string (bs nmId), .string (bs nmN), .string (bs nmSt), .string (bs nmTi)] t)).heap.size := by omega
  rw [hs] at b0 b1 b2 b3
  exact ⟨by simp; omega, by simp, (hb.cell (p := ⟨w.heap.size, 0, none⟩) hl).trans a0, (hb.cell (p := ⟨w.heap.size, 1, none⟩) hl).trans a1, (hb.cell (p := ⟨w.heap.size, 2, none⟩) hl).trans a2, (hb.cell (p := ⟨w.heap.size, 3, none⟩) hl).trans a3, b0, b1, b2, b3⟩
theorem lists_in (w : World) (r : RepIn) (t u : TypeId) : Lists ((w.alloc (.cells #[.int .i64 r.id, .int .i64 r.n, .int .i64 r.st, .int .i64 r.ti] u)).alloc (.cells #[.string (bs nmId), .string (bs nmN), .string (bs nmSt), .string (bs nmTi)] t)) (w.heap.size + 1) w.heap.size r := by
  obtain ⟨a0, a1, a2, a3⟩ := new4 w u (.int .i64 r.id) (.int .i64 r.n) (.int .i64 r.st) (.int .i64 r.ti)
  obtain ⟨b0, b1, b2, b3⟩ := new4 (w.alloc (.cells #[.int .i64 r.id, .int .i64 r.n, .int .i64 r.st, .int .i64 r.ti] u)) t (.string (bs nmId)) (.string (bs nmN)) (.string (bs nmSt)) (.string (bs nmTi))
  have hs : (w.alloc (.cells #[.int .i64 r.id, .int .i64 r.n, .int .i64 r.st, .int .i64 r.ti] u)).heap.size = w.heap.size + 1 := by simp
  have hb := (below_al (Below.refl (w.alloc (.cells #[.int .i64 r.id, .int .i64 r.n, .int .i64 r.st, .int .i64 r.ti] u)).heap.size _) (.cells #[.string (bs nmId), .string (bs nmN), .string (bs nmSt), .string (bs nmTi)] t))
  have hl : w.heap.size < (w.alloc (.cells #[.int .i64 r.id, .int .i64 r.n, .int .i64 r.st, .int .i64 r.ti] u)).heap.size := by omega
  rw [hs] at b0 b1 b2 b3
  exact ⟨by simp, by simp; omega, b0, b1, b2, b3, (hb.cell (p := ⟨w.heap.size, 0, none⟩) hl).trans a0, (hb.cell (p := ⟨w.heap.size, 1, none⟩) hl).trans a1, (hb.cell (p := ⟨w.heap.size, 2, none⟩) hl).trans a2, (hb.cell (p := ⟨w.heap.size, 3, none⟩) hl).trans a3⟩
set_option maxRecDepth 100000 in
set_option maxHeartbeats 8000000 in
theorem refText_any (r : RepIn) (hr : Rok r) (w : World) : Calls Tryd.prog 11 #[.agg r.val] w fun x w' => x = .returned (.string (bs (textV r))) ∧ Below w.heap.size w w' := by
  have HST := Lib.hid (rp_new (w := w) rfl r)
  have CB : Hid (∀ W, Calls Tryd.prog 17 #[.agg r.val] W fun x w' => x = .returned (.bool (decide (May r))) ∧ Below W.heap.size W w') := fun W => refMay_any r W
  have CW : Hid (∀ W, Calls Tryd.prog 29 #[] W fun x w' => x = .returned (.slice (some ⟨W.heap.size, 0, none⟩) 15 15) ∧ Hid (∀ k, k < 15 → w'.cell? ⟨W.heap.size, k, none⟩ = some (.string (bs (wdL.getD k [])))) ∧ Below W.heap.size W w') := fun W => (words_any W).mono fun e w' ⟨h1, h2⟩ => ⟨h1, by rw [h2]; exact fun k hk => words_cell W k hk, by rw [h2]; exact below_al (Below.refl _ _) _⟩
  have CI : Hid (∀ x, I64 x → ∀ W, Calls Tryd.prog 30 #[.int .i64 x] W fun e w' => e = .returned (.string (bs (itoa x))) ∧ Below W.heap.size W w') := fun x h W => number_any x h W
  obtain ⟨TV, hTV⟩ : ∃ T, Hid (textV r = T) := ⟨_, rfl⟩
  rw [hTV.out]
  by_cases hm : May r
  · have dm : decide (May r) = true := decide_eq_true hm
    rw [dm] at CB
    obtain ⟨E, hE⟩ : ∃ E : Nat, r.err = (E : Int) := ⟨r.err.toNat, by have := hm.1; omega⟩
    have hE15 : E < 15 := by have := hm.2.1; omega
    have hE1 : (E : Int) < 15 := by omega
    have hE0 : (0 : Int) ≤ (E : Int) := by omega
    obtain ⟨WD, hWD⟩ : ∃ WD, Hid (wdL.getD E [] = WD) := ⟨_, rfl⟩
    by_cases hz : r.err = 0
    · have hE00 : E = 0 := by omega
      have dz : ((E : Int) != 0) = false := by rw [hE00]; rfl
      obtain ⟨T1, hT1⟩ : ∃ S, S = [111, 107] ++ part nmId r.id := ⟨_, rfl⟩
      obtain ⟨T2, hT2⟩ : ∃ S, S = T1 ++ part nmN r.n := ⟨_, rfl⟩
      obtain ⟨T3, hT3⟩ : ∃ S, S = T2 ++ part nmSt r.st := ⟨_, rfl⟩
      obtain ⟨T4, hT4⟩ : ∃ S, S = T3 ++ part nmTi r.ti := ⟨_, rfl⟩
      have HG : Hid (Grows r T1 T2 T3 T4) := ⟨hT1, hT2, hT3, hT4⟩
      obtain ⟨L1, L2, L3, L4⟩ := HG.out.len hr
      clear hT1 hT2 hT3 hT4
      have HV : Hid (TV = T4) := by show _ = _; rw [← hTV.out]; unfold textV; rw [if_pos hm, if_pos hz]; exact grows_ok HG.out
      obtain ⟨-, r1, r2, r3, r4⟩ := hr
      obtain ⟨T0, hT0⟩ : ∃ T : List UInt8, Hid (T = [111, 107]) := ⟨_, rfl⟩
      have L0 : T0.length ≤ 200 := by rw [hT0.out]; decide
      have HG0 : Hid (T1 = T0 ++ part nmId r.id) := by show _ = _; rw [hT0.out]; exact HG.out.t1
      have hT0b : ByteArray.mk #[111, 107] = bs T0 := by rw [hT0.out]; rfl
      clear hm dm hT0 hE00 hz
      go_enter Tryd.func11, Tryd.ntmps11
      go_upto_region 1 with fail
      apply wp_region_lit
      refine load_rep rfl (.tmp 1) rfl w.heap.size rfl r HST.out ?_
      go_upto_region 7 with (first | (go_at_call 17; (with_reducible refine (CB.out _).mono ?_); rintro e w1 ⟨rfl, hb1⟩; have HS1 := Lib.hid (HST.out.below hb1); have HW1 := Lib.hid (below2 (below_al (Below.refl w.heap.size w) _) hb1); clear hb1) | (go_at_call 29; (with_reducible refine (CW.out _).mono ?_); rintro e w2 ⟨rfl, HC2, hb2⟩; have HS2 := Lib.hid (HS1.out.below hb2); have HW2 := Lib.hid (below2 HW1.out hb2); obtain ⟨g0, -⟩ := HS2.out.five; have c2 : w2.cell? ⟨w1.heap.size, E, none⟩ = some (.string (bs WD)) := (by rw [← hWD.out]; exact HC2.out E hE15); rw [hE] at g0; clear hb2))
      try rw [hT0b]
      have hHeld : Rp w2.drew w.heap.size r := HS2.out.drew
      have HW2d : Hid (Below w.heap.size w w2.drew) := below_dN HW2.out 1
      refine Ord.wp_region_U (fun W' => Rp W' w.heap.size r) [] (by kernel_rfl) ?_
      refine take_at (i := 1) (v := ?_) 21 rfl rfl (by kernel_rfl) (by kernel_rfl) (by kernel_rfl) (by kernel_rfl) (by kernel_rfl) (by kernel_rfl) (by kernel_rfl) (fun _ _ _ h => h) (Or.inl ⟨by kernel_rfl, ?_⟩) hHeld ?_
      rotate_left
      · intro w hSw; (try dsimp only at hSw); (try obtain ⟨f0, f1, f2, f3, f4⟩ := Rp.five hSw); go_simp; (try with_reducible rfl)
      try simp only [Act.put, List.setIfInBounds_toArray, List.set_cons_zero, List.set_cons_succ]
      refine take_at (i := 2) (v := ?_) 22 rfl rfl (by kernel_rfl) (by kernel_rfl) (by kernel_rfl) (by kernel_rfl) (by kernel_rfl) (by kernel_rfl) (by kernel_rfl) (fun _ _ _ h => h) (Or.inl ⟨by kernel_rfl, ?_⟩) hHeld ?_
      rotate_left
      · intro w hSw; (try dsimp only at hSw); (try obtain ⟨f0, f1, f2, f3, f4⟩ := Rp.five hSw); go_simp; (try with_reducible rfl)
      try simp only [Act.put, List.setIfInBounds_toArray, List.set_cons_zero, List.set_cons_succ]
      refine take_at (i := 3) (v := ?_) 23 rfl rfl (by kernel_rfl) (by kernel_rfl) (by kernel_rfl) (by kernel_rfl) (by kernel_rfl) (by kernel_rfl) (by kernel_rfl) (fun _ _ _ h => h) (Or.inl ⟨by kernel_rfl, ?_⟩) hHeld ?_
      rotate_left
      · intro w hSw; (try dsimp only at hSw); (try obtain ⟨f0, f1, f2, f3, f4⟩ := Rp.five hSw); go_simp; (try with_reducible rfl)
      try simp only [Act.put, List.setIfInBounds_toArray, List.set_cons_zero, List.set_cons_succ]
      refine take_at (i := 4) (v := ?_) 24 rfl rfl (by kernel_rfl) (by kernel_rfl) (by kernel_rfl) (by kernel_rfl) (by kernel_rfl) (by kernel_rfl) (by kernel_rfl) (fun _ _ _ h => h) (Or.inl ⟨by kernel_rfl, ?_⟩) hHeld ?_
      rotate_left
      · intro w hSw; (try dsimp only at hSw); (try obtain ⟨f0, f1, f2, f3, f4⟩ := Rp.five hSw); go_simp; (try with_reducible rfl)
      try simp only [Act.put, List.setIfInBounds_toArray, List.set_cons_zero, List.set_cons_succ]
      refine take_at (i := 5) (v := ?_) 25 rfl rfl (by kernel_rfl) (by kernel_rfl) (by kernel_rfl) (by kernel_rfl) (by kernel_rfl) (by kernel_rfl) (by kernel_rfl) (fun _ _ _ h => h) (Or.inl ⟨by kernel_rfl, ?_⟩) hHeld ?_
      rotate_left
      · intro w hSw; (try dsimp only at hSw); (try obtain ⟨f0, f1, f2, f3, f4⟩ := Rp.five hSw); go_simp; (try with_reducible rfl)
      try simp only [Act.put, List.setIfInBounds_toArray, List.set_cons_zero, List.set_cons_succ]
      refine take_at (i := 6) (v := ?_) 26 rfl rfl (by kernel_rfl) (by kernel_rfl) (by kernel_rfl) (by kernel_rfl) (by kernel_rfl) (by kernel_rfl) (by kernel_rfl) (fun _ _ _ h => h) (Or.inl ⟨by kernel_rfl, ?_⟩) hHeld ?_
      rotate_left
      · intro w hSw; (try dsimp only at hSw); (try obtain ⟨f0, f1, f2, f3, f4⟩ := Rp.five hSw); go_simp; (try with_reducible rfl)
      try simp only [Act.put, List.setIfInBounds_toArray, List.set_cons_zero, List.set_cons_succ]
      refine take_at (i := 7) (v := ?_) 27 rfl rfl (by kernel_rfl) (by kernel_rfl) (by kernel_rfl) (by kernel_rfl) (by kernel_rfl) (by kernel_rfl) (by kernel_rfl) (fun _ _ _ h => h) (Or.inl ⟨by kernel_rfl, ?_⟩) hHeld ?_
      rotate_left
      · intro w hSw; (try dsimp only at hSw); (try obtain ⟨f0, f1, f2, f3, f4⟩ := Rp.five hSw); go_simp; (try with_reducible rfl)
      try simp only [Act.put, List.setIfInBounds_toArray, List.set_cons_zero, List.set_cons_succ]
      refine take_at (i := 8) (v := ?_) 28 rfl rfl (by kernel_rfl) (by kernel_rfl) (by kernel_rfl) (by kernel_rfl) (by kernel_rfl) (by kernel_rfl) (by kernel_rfl) (fun _ _ _ h => h) (Or.inl ⟨by kernel_rfl, ?_⟩) hHeld ?_
      rotate_left
      · intro w hSw; (try dsimp only at hSw); (try obtain ⟨f0, f1, f2, f3, f4⟩ := Rp.five hSw); go_simp; (try with_reducible rfl)
      try simp only [Act.put, List.setIfInBounds_toArray, List.set_cons_zero, List.set_cons_succ]
      refine Ord.wpAnyU_two (i := 0) (j := 9) (by kernel_rfl) rfl rfl (fun K hK => ?_) (fun K hK => ?_)
      · go_simp
        have hH1 : Rp (w2.drew.alloc (.cells #[.string (bs nmId), .string (bs nmN), .string (bs nmSt), .string (bs nmTi)] 9)) w.heap.size r := hHeld.below (below_al (Below.refl _ _) _)
        refine hK.out _ _ (fun _ => hH1) ?_
        clear hK K
        try simp only [Act.put, List.setIfInBounds_toArray, List.set_cons_zero, List.set_cons_succ]
        clear hHeld
        have hHeld := hH1
        refine take_at (i := 10) (v := ?_) 5 rfl rfl (by kernel_rfl) (by kernel_rfl) (by kernel_rfl) (by kernel_rfl) (by kernel_rfl) (by kernel_rfl) (by kernel_rfl) (fun _ _ _ h => h) (Or.inl ⟨by kernel_rfl, ?_⟩) hHeld ?_
        rotate_left
        · intro w hSw; (try dsimp only at hSw); skip; go_simp; (try with_reducible rfl)
        try simp only [Act.put, List.setIfInBounds_toArray, List.set_cons_zero, List.set_cons_succ]
        have hH1 := hHeld
        refine Ord.wpAnyU_one (i := 9) (by kernel_rfl) rfl (fun K hK => ?_)
        go_simp
        skip
        refine hK.out _ _ (fun _ => hH1.below (below_al (Below.refl _ _) _)) ?_
        clear hK K
        try simp only [Act.put, List.setIfInBounds_toArray, List.set_cons_zero, List.set_cons_succ]
        refine wpAnyU_named fun w5 hw5 => ?_
        have HL5 : Hid (Lists w5 w2.heap.size (w2.heap.size + 1) r) := by rw [hw5]; exact lists_ni w2.drew r _ _
        have HW5 : Hid (Below w.heap.size w w5) := by rw [hw5]; exact below_al (below_al HW2d.out _) _
        have HS5 : Rp w5 w.heap.size r := by rw [hw5]; exact hH1.below (below_al (Below.refl _ _) _)
        clear hw5
        obtain ⟨gI, hgP⟩ : ∃ g, w2.heap.size + 1 = g := ⟨_, rfl⟩
        rw [hgP] at HL5
        try rw [hgP]
        clear hgP
        obtain ⟨gN, hgP⟩ : ∃ g, w2.heap.size = g := ⟨_, rfl⟩
        rw [hgP] at HL5
        try rw [hgP]
        clear hgP
        refine Ord.wpAnyU_one (i := 11) (by kernel_rfl) rfl (fun K hK => ?_)
        go_simp
        refine hK.out _ _ (fun _ => HS5) ?_
        clear hK K
        try simp only [Act.put, List.setIfInBounds_toArray, List.set_cons_zero, List.set_cons_succ]
        refine Ord.wpAnyU_done (by kernel_rfl) ?_ _
        clear HS5
        go_wp2
        go_loopw [4, 7] (fun s i wr => ((i = .int .i64 0 ∧ s = .string (bs T0)) ∨ (i = .int .i64 1 ∧ s = .string (bs T1)) ∨ (i = .int .i64 2 ∧ s = .string (bs T2)) ∨ (i = .int .i64 3 ∧ s = .string (bs T3)) ∨ (i = .int .i64 4 ∧ s = .string (bs T4))) ∧ Hid (Below w5.heap.size w5 wr)) (fun _ i _ => 4 - (intOf i).toNat)
        case atStart => exact ⟨.inl ⟨rfl, rfl⟩, Below.refl _ _⟩
        case round =>
          obtain ⟨hk, HWr⟩ := hrel
          have HLr := Lib.hid (HL5.out.below HWr.out)
          rcases hk with ⟨rfl, rfl⟩ | hk
          · have cI := HLr.out.i0
            by_cases hx : r.id = 0
            · have dx : (r.id != 0) = false := by rw [hx]; rfl
              have e1 : Hid (T1 = T0) := by show _ = _; rw [HG0.out]; exact part_no _ hx _
              rw [hx] at cI dx
              go_wp2
              go_roundw
              case rel => exact ⟨.inr (.inl ⟨rfl, by rw [e1.out]⟩), HWr⟩
              case measure => simp [intOf]
            · have dx : (r.id != 0) = true := bne_iff_ne.2 hx
              have cN := HLr.out.n0
              obtain ⟨B1, hB1⟩ : ∃ A : List UInt8, Hid (T0 ++ ([32] : List UInt8) = A) := ⟨_, Lib.hid rfl⟩
              obtain ⟨B2, hB2⟩ : ∃ A : List UInt8, Hid (B1 ++ nmId = A) := ⟨_, Lib.hid rfl⟩
              obtain ⟨B3, hB3⟩ : ∃ A : List UInt8, Hid (B2 ++ ([61] : List UInt8) = A) := ⟨_, Lib.hid rfl⟩
              have li := Lib.itoa_length_le r.id r1.1 r1.2
              have hn : (nmId : List UInt8).length ≤ 10 := by decide
              have a1 : B1.length ≤ 201 := by rw [← hB1.out, List.length_append]; simp; omega
              have a2 : B2.length ≤ 211 := by rw [← hB2.out, List.length_append]; omega
              have a3 : B3.length ≤ 212 := by rw [← hB3.out, List.length_append]; simp; omega
              have y1 : ¬ 9223372036854775807 < (bs T0).size + 1 := fits (A := T0) (B := [32]) (by omega) (by simp)
              have y2 := fits (A := B1) (B := nmId) (by omega) (by omega)
              have y3 : ¬ 9223372036854775807 < (bs B2).size + 1 := fits (A := B2) (B := [61]) (by omega) (by simp)
              have y4 := fits (A := B3) (B := itoa r.id) (by omega) (by omega)
              have q1 : bs T0 ++ ByteArray.mk #[32] = bs B1 := (bs_append T0 [32]).trans (by rw [hB1.out])
              have q2 : bs B1 ++ bs nmId = bs B2 := (bs_append _ _).trans (by rw [hB2.out])
              have q3 : bs B2 ++ ByteArray.mk #[61] = bs B3 := (bs_append B2 [61]).trans (by rw [hB3.out])
              have q4 : bs B3 ++ bs (itoa r.id) = bs T1 := (bs_append _ _).trans (by rw [HG0.out, ← hB3.out, ← hB2.out, ← hB1.out]; unfold part; rw [if_neg hx]; simp)
              have CIx : Hid (∀ W, Calls Tryd.prog 30 #[.int .i64 r.id] W fun e w' => e = .returned (.string (bs (itoa r.id))) ∧ Below W.heap.size W w') := CI.out _ r1
              have hlN := HLr.out.ltN
              have hlI := HLr.out.ltI
              clear hB1 hB2 hB3 li hn a1 a2 a3
              generalize itoa r.id = IT at *
              generalize hXN : bs nmId = XN at *
              go_upto_region 12 with fail
              have hHeld : wr.drew.cell? ⟨gN, 0, none⟩ = some (.string XN) ∧ wr.drew.cell? ⟨gI, 0, none⟩ = some (.int .i64 r.id) := ⟨cN, cI⟩
              have HWd : Hid (Below w5.heap.size w5 wr.drew) := below_dN HWr.out 1
              refine Ord.wp_region_U (fun W' => W'.cell? ⟨gN, 0, none⟩ = some (.string XN) ∧ W'.cell? ⟨gI, 0, none⟩ = some (.int .i64 r.id)) [] (by kernel_rfl) ?_
              refine take_at (i := 0) (v := ?_) 39 rfl rfl (by kernel_rfl) (by kernel_rfl) (by kernel_rfl) (by kernel_rfl) (by kernel_rfl) (by kernel_rfl) (by kernel_rfl) (fun _ _ _ h => h) (Or.inl ⟨by kernel_rfl, ?_⟩) hHeld ?_
              rotate_left
              · intro w hSw; (try dsimp only at hSw); (try obtain ⟨f0, f1⟩ := hSw); go_simp; (try with_reducible rfl)
              try simp only [Act.put, List.setIfInBounds_toArray, List.set_cons_zero, List.set_cons_succ]
              refine take_at (i := 1) (v := ?_) 40 rfl rfl (by kernel_rfl) (by kernel_rfl) (by kernel_rfl) (by kernel_rfl) (by kernel_rfl) (by kernel_rfl) (by kernel_rfl) (fun _ _ _ h => h) (Or.inl ⟨by kernel_rfl, ?_⟩) hHeld ?_
              rotate_left
              · intro w hSw; (try dsimp only at hSw); (try obtain ⟨f0, f1⟩ := hSw); go_simp; (try with_reducible rfl)
              try simp only [Act.put, List.setIfInBounds_toArray, List.set_cons_zero, List.set_cons_succ]
              refine take_at (i := 2) (v := ?_) 41 rfl rfl (by kernel_rfl) (by kernel_rfl) (by kernel_rfl) (by kernel_rfl) (by kernel_rfl) (by kernel_rfl) (by kernel_rfl) (fun _ _ _ h => h) (Or.inl ⟨by kernel_rfl, ?_⟩) hHeld ?_
              rotate_left
              · intro w hSw; (try dsimp only at hSw); (try obtain ⟨f0, f1⟩ := hSw); go_simp; (try with_reducible rfl)
              try simp only [Act.put, List.setIfInBounds_toArray, List.set_cons_zero, List.set_cons_succ]
              refine take_at (i := 3) (v := ?_) 42 rfl rfl (by kernel_rfl) (by kernel_rfl) (by kernel_rfl) (by kernel_rfl) (by kernel_rfl) (by kernel_rfl) (by kernel_rfl) (fun _ _ _ h => h) (Or.inl ⟨by kernel_rfl, ?_⟩) hHeld ?_
              rotate_left
              · intro w hSw; (try dsimp only at hSw); (try obtain ⟨f0, f1⟩ := hSw); go_simp; (try with_reducible rfl)
              try simp only [Act.put, List.setIfInBounds_toArray, List.set_cons_zero, List.set_cons_succ]
              refine take_at (i := 4) (v := ?_) 43 rfl rfl (by kernel_rfl) (by kernel_rfl) (by kernel_rfl) (by kernel_rfl) (by kernel_rfl) (by kernel_rfl) (by kernel_rfl) (fun _ _ _ h => h) (Or.inl ⟨by kernel_rfl, ?_⟩) hHeld ?_
              rotate_left
              · intro w hSw; (try dsimp only at hSw); (try obtain ⟨f0, f1⟩ := hSw); go_simp; (try with_reducible rfl)
              try simp only [Act.put, List.setIfInBounds_toArray, List.set_cons_zero, List.set_cons_succ]
              refine take_at (i := 5) (v := ?_) 44 rfl rfl (by kernel_rfl) (by kernel_rfl) (by kernel_rfl) (by kernel_rfl) (by kernel_rfl) (by kernel_rfl) (by kernel_rfl) (fun _ _ _ h => h) (Or.inl ⟨by kernel_rfl, ?_⟩) hHeld ?_
              rotate_left
              · intro w hSw; (try dsimp only at hSw); (try obtain ⟨f0, f1⟩ := hSw); go_simp; (try with_reducible rfl)
              try simp only [Act.put, List.setIfInBounds_toArray, List.set_cons_zero, List.set_cons_succ]
              refine take_at (i := 6) (v := ?_) 45 rfl rfl (by kernel_rfl) (by kernel_rfl) (by kernel_rfl) (by kernel_rfl) (by kernel_rfl) (by kernel_rfl) (by kernel_rfl) (fun _ _ _ h => h) (Or.inl ⟨by kernel_rfl, ?_⟩) hHeld ?_
              rotate_left
              · intro w hSw; (try dsimp only at hSw); (try obtain ⟨f0, f1⟩ := hSw); go_simp; (try with_reducible rfl)
              try simp only [Act.put, List.setIfInBounds_toArray, List.set_cons_zero, List.set_cons_succ]
              refine take_at (i := 7) (v := ?_) 46 rfl rfl (by kernel_rfl) (by kernel_rfl) (by kernel_rfl) (by kernel_rfl) (by kernel_rfl) (by kernel_rfl) (by kernel_rfl) (fun _ _ _ h => h) (Or.inl ⟨by kernel_rfl, ?_⟩) hHeld ?_
              rotate_left
              · intro w hSw; (try dsimp only at hSw); (try obtain ⟨f0, f1⟩ := hSw); go_simp; (try with_reducible rfl)
              try simp only [Act.put, List.setIfInBounds_toArray, List.set_cons_zero, List.set_cons_succ]
              refine take_at (i := 8) (v := ?_) 47 rfl rfl (by kernel_rfl) (by kernel_rfl) (by kernel_rfl) (by kernel_rfl) (by kernel_rfl) (by kernel_rfl) (by kernel_rfl) (fun _ _ _ h => h) (Or.inl ⟨by kernel_rfl, ?_⟩) hHeld ?_
              rotate_left
              · intro w hSw; (try dsimp only at hSw); (try obtain ⟨f0, f1⟩ := hSw); go_simp; (try with_reducible rfl)
              try simp only [Act.put, List.setIfInBounds_toArray, List.set_cons_zero, List.set_cons_succ]
              refine take_at (i := 9) (v := ?_) 48 rfl rfl (by kernel_rfl) (by kernel_rfl) (by kernel_rfl) (by kernel_rfl) (by kernel_rfl) (by kernel_rfl) (by kernel_rfl) (fun _ _ _ h => h) (Or.inl ⟨by kernel_rfl, ?_⟩) hHeld ?_
              rotate_left
              · intro w hSw; (try dsimp only at hSw); (try obtain ⟨f0, f1⟩ := hSw); go_simp; (try with_reducible rfl)
              try simp only [Act.put, List.setIfInBounds_toArray, List.set_cons_zero, List.set_cons_succ]
              refine take_at (i := 10) (v := ?_) 49 rfl rfl (by kernel_rfl) (by kernel_rfl) (by kernel_rfl) (by kernel_rfl) (by kernel_rfl) (by kernel_rfl) (by kernel_rfl) (fun _ _ _ h => h) (Or.inl ⟨by kernel_rfl, ?_⟩) hHeld ?_
              rotate_left
              · intro w hSw; (try dsimp only at hSw); (try obtain ⟨f0, f1⟩ := hSw); go_simp; (try with_reducible rfl)
              try simp only [Act.put, List.setIfInBounds_toArray, List.set_cons_zero, List.set_cons_succ]
              refine take_at (i := 11) (v := ?_) 50 rfl rfl (by kernel_rfl) (by kernel_rfl) (by kernel_rfl) (by kernel_rfl) (by kernel_rfl) (by kernel_rfl) (by kernel_rfl) (fun _ _ _ h => h) (Or.inl ⟨by kernel_rfl, ?_⟩) hHeld ?_
              rotate_left
              · intro w hSw; (try dsimp only at hSw); (try obtain ⟨f0, f1⟩ := hSw); go_simp; (try with_reducible rfl)
              try simp only [Act.put, List.setIfInBounds_toArray, List.set_cons_zero, List.set_cons_succ]
              refine Ord.wpAnyU_one (i := 12) (by kernel_rfl) rfl (fun K hK => ?_)
              go_simp
              go_wp2_with (go_at_call 30; (with_reducible refine (CIx.out _).mono ?_); rintro e w6 ⟨rfl, hb6⟩; have hs6 : _ ∧ _ := ⟨(hb6.cell (p := ⟨gN, 0, none⟩) hlN).trans hHeld.1, (hb6.cell (p := ⟨gI, 0, none⟩) hlI).trans hHeld.2⟩; have HW6 : Hid (Below w5.heap.size w5 w6) := below2 HWd.out hb6; clear hb6)
              refine hK.out _ _ (fun _ => hs6) ?_
              clear hK K
              try simp only [Act.put, List.setIfInBounds_toArray, List.set_cons_zero, List.set_cons_succ]
              clear hHeld
              have hHeld := hs6
              refine take_at (i := 13) (v := ?_) 52 rfl rfl (by kernel_rfl) (by kernel_rfl) (by kernel_rfl) (by kernel_rfl) (by kernel_rfl) (by kernel_rfl) (by kernel_rfl) (fun _ _ _ h => h) (Or.inl ⟨by kernel_rfl, ?_⟩) hHeld ?_
              rotate_left
              · intro w hSw; (try dsimp only at hSw); skip; go_simp; (try with_reducible rfl)
              try simp only [Act.put, List.setIfInBounds_toArray, List.set_cons_zero, List.set_cons_succ]
              refine Ord.wpAnyU_one (i := 14) (by kernel_rfl) rfl (fun K hK => ?_)
              go_simp
              refine hK.out _ _ (fun _ => hs6) ?_
              clear hK K
              try simp only [Act.put, List.setIfInBounds_toArray, List.set_cons_zero, List.set_cons_succ]
              refine Ord.wpAnyU_done (by kernel_rfl) ?_ _
              go_wp2
              go_roundw
              case rel => exact ⟨.inr (.inl ⟨rfl, rfl⟩), HW6⟩
              case measure => simp [intOf]
          rcases hk with ⟨rfl, rfl⟩ | hk
          · have cI := HLr.out.i1
            by_cases hx : r.n = 0
            · have dx : (r.n != 0) = false := by rw [hx]; rfl
              have e1 : Hid (T2 = T1) := by show _ = _; rw [HG.out.t2]; exact part_no _ hx _
              rw [hx] at cI dx
              go_wp2
              go_roundw
              case rel => exact ⟨.inr (.inr (.inl ⟨rfl, by rw [e1.out]⟩)), HWr⟩
              case measure => simp [intOf]
            · have dx : (r.n != 0) = true := bne_iff_ne.2 hx
              have cN := HLr.out.n1
              obtain ⟨B1, hB1⟩ : ∃ A : List UInt8, Hid (T1 ++ ([32] : List UInt8) = A) := ⟨_, Lib.hid rfl⟩
              obtain ⟨B2, hB2⟩ : ∃ A : List UInt8, Hid (B1 ++ nmN = A) := ⟨_, Lib.hid rfl⟩
              obtain ⟨B3, hB3⟩ : ∃ A : List UInt8, Hid (B2 ++ ([61] : List UInt8) = A) := ⟨_, Lib.hid rfl⟩
              have li := Lib.itoa_length_le r.n r2.1 r2.2
              have hn : (nmN : List UInt8).length ≤ 10 := by decide
              have a1 : B1.length ≤ 201 := by rw [← hB1.out, List.length_append]; simp; omega
              have a2 : B2.length ≤ 211 := by rw [← hB2.out, List.length_append]; omega
              have a3 : B3.length ≤ 212 := by rw [← hB3.out, List.length_append]; simp; omega
              have y1 : ¬ 9223372036854775807 < (bs T1).size + 1 := fits (A := T1) (B := [32]) (by omega) (by simp)
              have y2 := fits (A := B1) (B := nmN) (by omega) (by omega)
              have y3 : ¬ 9223372036854775807 < (bs B2).size + 1 := fits (A := B2) (B := [61]) (by omega) (by simp)
              have y4 := fits (A := B3) (B := itoa r.n) (by omega) (by omega)
              have q1 : bs T1 ++ ByteArray.mk #[32] = bs B1 := (bs_append T1 [32]).trans (by rw [hB1.out])
              have q2 : bs B1 ++ bs nmN = bs B2 := (bs_append _ _).trans (by rw [hB2.out])
              have q3 : bs B2 ++ ByteArray.mk #[61] = bs B3 := (bs_append B2 [61]).trans (by rw [hB3.out])
              have q4 : bs B3 ++ bs (itoa r.n) = bs T2 := (bs_append _ _).trans (by rw [HG.out.t2, ← hB3.out, ← hB2.out, ← hB1.out]; unfold part; rw [if_neg hx]; simp)
              have CIx : Hid (∀ W, Calls Tryd.prog 30 #[.int .i64 r.n] W fun e w' => e = .returned (.string (bs (itoa r.n))) ∧ Below W.heap.size W w') := CI.out _ r2
              have hlN := HLr.out.ltN
              have hlI := HLr.out.ltI
              clear hB1 hB2 hB3 li hn a1 a2 a3
              generalize itoa r.n = IT at *
              generalize hXN : bs nmN = XN at *
              go_upto_region 12 with fail
              have hHeld : wr.drew.cell? ⟨gN, 1, none⟩ = some (.string XN) ∧ wr.drew.cell? ⟨gI, 1, none⟩ = some (.int .i64 r.n) := ⟨cN, cI⟩
              have HWd : Hid (Below w5.heap.size w5 wr.drew) := below_dN HWr.out 1
              refine Ord.wp_region_U (fun W' => W'.cell? ⟨gN, 1, none⟩ = some (.string XN) ∧ W'.cell? ⟨gI, 1, none⟩ = some (.int .i64 r.n)) [] (by kernel_rfl) ?_
              refine take_at (i := 0) (v := ?_) 39 rfl rfl (by kernel_rfl) (by kernel_rfl) (by kernel_rfl) (by kernel_rfl) (by kernel_rfl) (by kernel_rfl) (by kernel_rfl) (fun _ _ _ h => h) (Or.inl ⟨by kernel_rfl, ?_⟩) hHeld ?_
              rotate_left
              · intro w hSw; (try dsimp only at hSw); (try obtain ⟨f0, f1⟩ := hSw); go_simp; (try with_reducible rfl)
              try simp only [Act.put, List.setIfInBounds_toArray, List.set_cons_zero, List.set_cons_succ]
              refine take_at (i := 1) (v := ?_) 40 rfl rfl (by kernel_rfl) (by kernel_rfl) (by kernel_rfl) (by kernel_rfl) (by kernel_rfl) (by kernel_rfl) (by kernel_rfl) (fun _ _ _ h => h) (Or.inl ⟨by kernel_rfl, ?_⟩) hHeld ?_
              rotate_left
              · intro w hSw; (try dsimp only at hSw); (try obtain ⟨f0, f1⟩ := hSw); go_simp; (try with_reducible rfl)
              try simp only [Act.put, List.setIfInBounds_toArray, List.set_cons_zero, List.set_cons_succ]
              refine take_at (i := 2) (v := ?_) 41 rfl rfl (by kernel_rfl) (by kernel_rfl) (by kernel_rfl) (by kernel_rfl) (by kernel_rfl) (by kernel_rfl) (by kernel_rfl) (fun _ _ _ h => h) (Or.inl ⟨by kernel_rfl, ?_⟩) hHeld ?_
              rotate_left
              · intro w hSw; (try dsimp only at hSw); (try obtain ⟨f0, f1⟩ := hSw); go_simp; (try with_reducible rfl)
              try simp only [Act.put, List.setIfInBounds_toArray, List.set_cons_zero, List.set_cons_succ]
              refine take_at (i := 3) (v := ?_) 42 rfl rfl (by kernel_rfl) (by kernel_rfl) (by kernel_rfl) (by kernel_rfl) (by kernel_rfl) (by kernel_rfl) (by kernel_rfl) (fun _ _ _ h => h) (Or.inl ⟨by kernel_rfl, ?_⟩) hHeld ?_
              rotate_left
              · intro w hSw; (try dsimp only at hSw); (try obtain ⟨f0, f1⟩ := hSw); go_simp; (try with_reducible rfl)
              try simp only [Act.put, List.setIfInBounds_toArray, List.set_cons_zero, List.set_cons_succ]
              refine take_at (i := 4) (v := ?_) 43 rfl rfl (by kernel_rfl) (by kernel_rfl) (by kernel_rfl) (by kernel_rfl) (by kernel_rfl) (by kernel_rfl) (by kernel_rfl) (fun _ _ _ h => h) (Or.inl ⟨by kernel_rfl, ?_⟩) hHeld ?_
              rotate_left
              · intro w hSw; (try dsimp only at hSw); (try obtain ⟨f0, f1⟩ := hSw); go_simp; (try with_reducible rfl)
              try simp only [Act.put, List.setIfInBounds_toArray, List.set_cons_zero, List.set_cons_succ]
              refine take_at (i := 5) (v := ?_) 44 rfl rfl (by kernel_rfl) (by kernel_rfl) (by kernel_rfl) (by kernel_rfl) (by kernel_rfl) (by kernel_rfl) (by kernel_rfl) (fun _ _ _ h => h) (Or.inl ⟨by kernel_rfl, ?_⟩) hHeld ?_
              rotate_left
              · intro w hSw; (try dsimp only at hSw); (try obtain ⟨f0, f1⟩ := hSw); go_simp; (try with_reducible rfl)
              try simp only [Act.put, List.setIfInBounds_toArray, List.set_cons_zero, List.set_cons_succ]
              refine take_at (i := 6) (v := ?_) 45 rfl rfl (by kernel_rfl) (by kernel_rfl) (by kernel_rfl) (by kernel_rfl) (by kernel_rfl) (by kernel_rfl) (by kernel_rfl) (fun _ _ _ h => h) (Or.inl ⟨by kernel_rfl, ?_⟩) hHeld ?_
              rotate_left
              · intro w hSw; (try dsimp only at hSw); (try obtain ⟨f0, f1⟩ := hSw); go_simp; (try with_reducible rfl)
              try simp only [Act.put, List.setIfInBounds_toArray, List.set_cons_zero, List.set_cons_succ]
              refine take_at (i := 7) (v := ?_) 46 rfl rfl (by kernel_rfl) (by kernel_rfl) (by kernel_rfl) (by kernel_rfl) (by kernel_rfl) (by kernel_rfl) (by kernel_rfl) (fun _ _ _ h => h) (Or.inl ⟨by kernel_rfl, ?_⟩) hHeld ?_
              rotate_left
              · intro w hSw; (try dsimp only at hSw); (try obtain ⟨f0, f1⟩ := hSw); go_simp; (try with_reducible rfl)
              try simp only [Act.put, List.setIfInBounds_toArray, List.set_cons_zero, List.set_cons_succ]
              refine take_at (i := 8) (v := ?_) 47 rfl rfl (by kernel_rfl) (by kernel_rfl) (by kernel_rfl) (by kernel_rfl) (by kernel_rfl) (by kernel_rfl) (by kernel_rfl) (fun _ _ _ h => h) (Or.inl ⟨by kernel_rfl, ?_⟩) hHeld ?_
              rotate_left
              · intro w hSw; (try dsimp only at hSw); (try obtain ⟨f0, f1⟩ := hSw); go_simp; (try with_reducible rfl)
              try simp only [Act.put, List.setIfInBounds_toArray, List.set_cons_zero, List.set_cons_succ]
              refine take_at (i := 9) (v := ?_) 48 rfl rfl (by kernel_rfl) (by kernel_rfl) (by kernel_rfl) (by kernel_rfl) (by kernel_rfl) (by kernel_rfl) (by kernel_rfl) (fun _ _ _ h => h) (Or.inl ⟨by kernel_rfl, ?_⟩) hHeld ?_
              rotate_left
              · intro w hSw; (try dsimp only at hSw); (try obtain ⟨f0, f1⟩ := hSw); go_simp; (try with_reducible rfl)
              try simp only [Act.put, List.setIfInBounds_toArray, List.set_cons_zero, List.set_cons_succ]
              refine take_at (i := 10) (v := ?_) 49 rfl rfl (by kernel_rfl) (by kernel_rfl) (by kernel_rfl) (by kernel_rfl) (by kernel_rfl) (by kernel_rfl) (by kernel_rfl) (fun _ _ _ h => h) (Or.inl ⟨by kernel_rfl, ?_⟩) hHeld ?_
              rotate_left
              · intro w hSw; (try dsimp only at hSw); (try obtain ⟨f0, f1⟩ := hSw); go_simp; (try with_reducible rfl)
              try simp only [Act.put, List.setIfInBounds_toArray, List.set_cons_zero, List.set_cons_succ]
              refine take_at (i := 11) (v := ?_) 50 rfl rfl (by kernel_rfl) (by kernel_rfl) (by kernel_rfl) (by kernel_rfl) (by kernel_rfl) (by kernel_rfl) (by kernel_rfl) (fun _ _ _ h => h) (Or.inl ⟨by kernel_rfl, ?_⟩) hHeld ?_
              rotate_left
              · intro w hSw; (try dsimp only at hSw); (try obtain ⟨f0, f1⟩ := hSw); go_simp; (try with_reducible rfl)
              try simp only [Act.put, List.setIfInBounds_toArray, List.set_cons_zero, List.set_cons_succ]
              refine Ord.wpAnyU_one (i := 12) (by kernel_rfl) rfl (fun K hK => ?_)
              go_simp
              go_wp2_with (go_at_call 30; (with_reducible refine (CIx.out _).mono ?_); rintro e w6 ⟨rfl, hb6⟩; have hs6 : _ ∧ _ := ⟨(hb6.cell (p := ⟨gN, 1, none⟩) hlN).trans hHeld.1, (hb6.cell (p := ⟨gI, 1, none⟩) hlI).trans hHeld.2⟩; have HW6 : Hid (Below w5.heap.size w5 w6) := below2 HWd.out hb6; clear hb6)
              refine hK.out _ _ (fun _ => hs6) ?_
              clear hK K
              try simp only [Act.put, List.setIfInBounds_toArray, List.set_cons_zero, List.set_cons_succ]
              clear hHeld
              have hHeld := hs6
              refine take_at (i := 13) (v := ?_) 52 rfl rfl (by kernel_rfl) (by kernel_rfl) (by kernel_rfl) (by kernel_rfl) (by kernel_rfl) (by kernel_rfl) (by kernel_rfl) (fun _ _ _ h => h) (Or.inl ⟨by kernel_rfl, ?_⟩) hHeld ?_
              rotate_left
              · intro w hSw; (try dsimp only at hSw); skip; go_simp; (try with_reducible rfl)
              try simp only [Act.put, List.setIfInBounds_toArray, List.set_cons_zero, List.set_cons_succ]
              refine Ord.wpAnyU_one (i := 14) (by kernel_rfl) rfl (fun K hK => ?_)
              go_simp
              refine hK.out _ _ (fun _ => hs6) ?_
              clear hK K
              try simp only [Act.put, List.setIfInBounds_toArray, List.set_cons_zero, List.set_cons_succ]
              refine Ord.wpAnyU_done (by kernel_rfl) ?_ _
              go_wp2
              go_roundw
              case rel => exact ⟨.inr (.inr (.inl ⟨rfl, rfl⟩)), HW6⟩
              case measure => simp [intOf]
          rcases hk with ⟨rfl, rfl⟩ | hk
          · have cI := HLr.out.i2
            by_cases hx : r.st = 0
            · have dx : (r.st != 0) = false := by rw [hx]; rfl
              have e1 : Hid (T3 = T2) := by show _ = _; rw [HG.out.t3]; exact part_no _ hx _
              rw [hx] at cI dx
              go_wp2
              go_roundw
              case rel => exact ⟨.inr (.inr (.inr (.inl ⟨rfl, by rw [e1.out]⟩))), HWr⟩
              case measure => simp [intOf]
            · have dx : (r.st != 0) = true := bne_iff_ne.2 hx
              have cN := HLr.out.n2
              obtain ⟨B1, hB1⟩ : ∃ A : List UInt8, Hid (T2 ++ ([32] : List UInt8) = A) := ⟨_, Lib.hid rfl⟩
              obtain ⟨B2, hB2⟩ : ∃ A : List UInt8, Hid (B1 ++ nmSt = A) := ⟨_, Lib.hid rfl⟩
              obtain ⟨B3, hB3⟩ : ∃ A : List UInt8, Hid (B2 ++ ([61] : List UInt8) = A) := ⟨_, Lib.hid rfl⟩
              have li := Lib.itoa_length_le r.st r3.1 r3.2
              have hn : (nmSt : List UInt8).length ≤ 10 := by decide
              have a1 : B1.length ≤ 201 := by rw [← hB1.out, List.length_append]; simp; omega
              have a2 : B2.length ≤ 211 := by rw [← hB2.out, List.length_append]; omega
              have a3 : B3.length ≤ 212 := by rw [← hB3.out, List.length_append]; simp; omega
              have y1 : ¬ 9223372036854775807 < (bs T2).size + 1 := fits (A := T2) (B := [32]) (by omega) (by simp)
              have y2 := fits (A := B1) (B := nmSt) (by omega) (by omega)
              have y3 : ¬ 9223372036854775807 < (bs B2).size + 1 := fits (A := B2) (B := [61]) (by omega) (by simp)
              have y4 := fits (A := B3) (B := itoa r.st) (by omega) (by omega)
              have q1 : bs T2 ++ ByteArray.mk #[32] = bs B1 := (bs_append T2 [32]).trans (by rw [hB1.out])
              have q2 : bs B1 ++ bs nmSt = bs B2 := (bs_append _ _).trans (by rw [hB2.out])
              have q3 : bs B2 ++ ByteArray.mk #[61] = bs B3 := (bs_append B2 [61]).trans (by rw [hB3.out])
              have q4 : bs B3 ++ bs (itoa r.st) = bs T3 := (bs_append _ _).trans (by rw [HG.out.t3, ← hB3.out, ← hB2.out, ← hB1.out]; unfold part; rw [if_neg hx]; simp)
              have CIx : Hid (∀ W, Calls Tryd.prog 30 #[.int .i64 r.st] W fun e w' => e = .returned (.string (bs (itoa r.st))) ∧ Below W.heap.size W w') := CI.out _ r3
              have hlN := HLr.out.ltN
              have hlI := HLr.out.ltI
              clear hB1 hB2 hB3 li hn a1 a2 a3
              generalize itoa r.st = IT at *
              generalize hXN : bs nmSt = XN at *
              go_upto_region 12 with fail
              have hHeld : wr.drew.cell? ⟨gN, 2, none⟩ = some (.string XN) ∧ wr.drew.cell? ⟨gI, 2, none⟩ = some (.int .i64 r.st) := ⟨cN, cI⟩
              have HWd : Hid (Below w5.heap.size w5 wr.drew) := below_dN HWr.out 1
              refine Ord.wp_region_U (fun W' => W'.cell? ⟨gN, 2, none⟩ = some (.string XN) ∧ W'.cell? ⟨gI, 2, none⟩ = some (.int .i64 r.st)) [] (by kernel_rfl) ?_
              refine take_at (i := 0) (v := ?_) 39 rfl rfl (by kernel_rfl) (by kernel_rfl) (by kernel_rfl) (by kernel_rfl) (by kernel_rfl) (by kernel_rfl) (by kernel_rfl) (fun _ _ _ h => h) (Or.inl ⟨by kernel_rfl, ?_⟩) hHeld ?_
              rotate_left
              · intro w hSw; (try dsimp only at hSw); (try obtain ⟨f0, f1⟩ := hSw); go_simp; (try with_reducible rfl)
              try simp only [Act.put, List.setIfInBounds_toArray, List.set_cons_zero, List.set_cons_succ]
              refine take_at (i := 1) (v := ?_) 40 rfl rfl (by kernel_rfl) (by kernel_rfl) (by kernel_rfl) (by kernel_rfl) (by kernel_rfl) (by kernel_rfl) (by kernel_rfl) (fun _ _ _ h => h) (Or.inl ⟨by kernel_rfl, ?_⟩) hHeld ?_
              rotate_left
              · intro w hSw; (try dsimp only at hSw); (try obtain ⟨f0, f1⟩ := hSw); go_simp; (try with_reducible rfl)
              try simp only [Act.put, List.setIfInBounds_toArray, List.set_cons_zero, List.set_cons_succ]
              refine take_at (i := 2) (v := ?_) 41 rfl rfl (by kernel_rfl) (by kernel_rfl) (by kernel_rfl) (by kernel_rfl) (by kernel_rfl) (by kernel_rfl) (by kernel_rfl) (fun _ _ _ h => h) (Or.inl ⟨by kernel_rfl, ?_⟩) hHeld ?_
              rotate_left
              · intro w hSw; (try dsimp only at hSw); (try obtain ⟨f0, f1⟩ := hSw); go_simp; (try with_reducible rfl)
              try simp only [Act.put, List.setIfInBounds_toArray, List.set_cons_zero, List.set_cons_succ]
              refine take_at (i := 3) (v := ?_) 42 rfl rfl (by kernel_rfl) (by kernel_rfl) (by kernel_rfl) (by kernel_rfl) (by kernel_rfl) (by kernel_rfl) (by kernel_rfl) (fun _ _ _ h => h) (Or.inl ⟨by kernel_rfl, ?_⟩) hHeld ?_
              rotate_left
              · intro w hSw; (try dsimp only at hSw); (try obtain ⟨f0, f1⟩ := hSw); go_simp; (try with_reducible rfl)
              try simp only [Act.put, List.setIfInBounds_toArray, List.set_cons_zero, List.set_cons_succ]
              refine take_at (i := 4) (v := ?_) 43 rfl rfl (by kernel_rfl) (by kernel_rfl) (by kernel_rfl) (by kernel_rfl) (by kernel_rfl) (by kernel_rfl) (by kernel_rfl) (fun _ _ _ h => h) (Or.inl ⟨by kernel_rfl, ?_⟩) hHeld ?_
              rotate_left
              · intro w hSw; (try dsimp only at hSw); (try obtain ⟨f0, f1⟩ := hSw); go_simp; (try with_reducible rfl)
              try simp only [Act.put, List.setIfInBounds_toArray, List.set_cons_zero, List.set_cons_succ]
              refine take_at (i := 5) (v := ?_) 44 rfl rfl (by kernel_rfl) (by kernel_rfl) (by kernel_rfl) (by kernel_rfl) (by kernel_rfl) (by kernel_rfl) (by kernel_rfl) (fun _ _ _ h => h) (Or.inl ⟨by kernel_rfl, ?_⟩) hHeld ?_
              rotate_left
              · intro w hSw; (try dsimp only at hSw); (try obtain ⟨f0, f1⟩ := hSw); go_simp; (try with_reducible rfl)
              try simp only [Act.put, List.setIfInBounds_toArray, List.set_cons_zero, List.set_cons_succ]
              refine take_at (i := 6) (v := ?_) 45 rfl rfl (by kernel_rfl) (by kernel_rfl) (by kernel_rfl) (by kernel_rfl) (by kernel_rfl) (by kernel_rfl) (by kernel_rfl) (fun _ _ _ h => h) (Or.inl ⟨by kernel_rfl, ?_⟩) hHeld ?_
              rotate_left
              · intro w hSw; (try dsimp only at hSw); (try obtain ⟨f0, f1⟩ := hSw); go_simp; (try with_reducible rfl)
              try simp only [Act.put, List.setIfInBounds_toArray, List.set_cons_zero, List.set_cons_succ]
              refine take_at (i := 7) (v := ?_) 46 rfl rfl (by kernel_rfl) (by kernel_rfl) (by kernel_rfl) (by kernel_rfl) (by kernel_rfl) (by kernel_rfl) (by kernel_rfl) (fun _ _ _ h => h) (Or.inl ⟨by kernel_rfl, ?_⟩) hHeld ?_
              rotate_left
              · intro w hSw; (try dsimp only at hSw); (try obtain ⟨f0, f1⟩ := hSw); go_simp; (try with_reducible rfl)
              try simp only [Act.put, List.setIfInBounds_toArray, List.set_cons_zero, List.set_cons_succ]
              refine take_at (i := 8) (v := ?_) 47 rfl rfl (by kernel_rfl) (by kernel_rfl) (by kernel_rfl) (by kernel_rfl) (by kernel_rfl) (by kernel_rfl) (by kernel_rfl) (fun _ _ _ h => h) (Or.inl ⟨by kernel_rfl, ?_⟩) hHeld ?_
              rotate_left
              · intro w hSw; (try dsimp only at hSw); (try obtain ⟨f0, f1⟩ := hSw); go_simp; (try with_reducible rfl)
              try simp only [Act.put, List.setIfInBounds_toArray, List.set_cons_zero, List.set_cons_succ]
              refine take_at (i := 9) (v := ?_) 48 rfl rfl (by kernel_rfl) (by kernel_rfl) (by kernel_rfl) (by kernel_rfl) (by kernel_rfl) (by kernel_rfl) (by kernel_rfl) (fun _ _ _ h => h) (Or.inl ⟨by kernel_rfl, ?_⟩) hHeld ?_
              rotate_left
              · intro w hSw; (try dsimp only at hSw); (try obtain ⟨f0, f1⟩ := hSw); go_simp; (try with_reducible rfl)
              try simp only [Act.put, List.setIfInBounds_toArray, List.set_cons_zero, List.set_cons_succ]
              refine take_at (i := 10) (v := ?_) 49 rfl rfl (by kernel_rfl) (by kernel_rfl) (by kernel_rfl) (by kernel_rfl) (by kernel_rfl) (by kernel_rfl) (by kernel_rfl) (fun _ _ _ h => h) (Or.inl ⟨by kernel_rfl, ?_⟩) hHeld ?_
              rotate_left
              · intro w hSw; (try dsimp only at hSw); (try obtain ⟨f0, f1⟩ := hSw); go_simp; (try with_reducible rfl)
              try simp only [Act.put, List.setIfInBounds_toArray, List.set_cons_zero, List.set_cons_succ]
              refine take_at (i := 11) (v := ?_) 50 rfl rfl (by kernel_rfl) (by kernel_rfl) (by kernel_rfl) (by kernel_rfl) (by kernel_rfl) (by kernel_rfl) (by kernel_rfl) (fun _ _ _ h => h) (Or.inl ⟨by kernel_rfl, ?_⟩) hHeld ?_
              rotate_left
              · intro w hSw; (try dsimp only at hSw); (try obtain ⟨f0, f1⟩ := hSw); go_simp; (try with_reducible rfl)
              try simp only [Act.put, List.setIfInBounds_toArray, List.set_cons_zero, List.set_cons_succ]
              refine Ord.wpAnyU_one (i := 12) (by kernel_rfl) rfl (fun K hK => ?_)
              go_simp
              go_wp2_with (go_at_call 30; (with_reducible refine (CIx.out _).mono ?_); rintro e w6 ⟨rfl, hb6⟩; have hs6 : _ ∧ _ := ⟨(hb6.cell (p := ⟨gN, 2, none⟩) hlN).trans hHeld.1, (hb6.cell (p := ⟨gI, 2, none⟩) hlI).trans hHeld.2⟩; have HW6 : Hid (Below w5.heap.size w5 w6) := below2 HWd.out hb6; clear hb6)
              refine hK.out _ _ (fun _ => hs6) ?_
              clear hK K
              try simp only [Act.put, List.setIfInBounds_toArray, List.set_cons_zero, List.set_cons_succ]
              clear hHeld
              have hHeld := hs6
              refine take_at (i := 13) (v := ?_) 52 rfl rfl (by kernel_rfl) (by kernel_rfl) (by kernel_rfl) (by kernel_rfl) (by kernel_rfl) (by kernel_rfl) (by kernel_rfl) (fun _ _ _ h => h) (Or.inl ⟨by kernel_rfl, ?_⟩) hHeld ?_
              rotate_left
              · intro w hSw; (try dsimp only at hSw); skip; go_simp; (try with_reducible rfl)
              try simp only [Act.put, List.setIfInBounds_toArray, List.set_cons_zero, List.set_cons_succ]
              refine Ord.wpAnyU_one (i := 14) (by kernel_rfl) rfl (fun K hK => ?_)
              go_simp
              refine hK.out _ _ (fun _ => hs6) ?_
              clear hK K
              try simp only [Act.put, List.setIfInBounds_toArray, List.set_cons_zero, List.set_cons_succ]
              refine Ord.wpAnyU_done (by kernel_rfl) ?_ _
              go_wp2
              go_roundw
              case rel => exact ⟨.inr (.inr (.inr (.inl ⟨rfl, rfl⟩))), HW6⟩
              case measure => simp [intOf]
          rcases hk with ⟨rfl, rfl⟩ | hk
          · have cI := HLr.out.i3
            by_cases hx : r.ti = 0
            · have dx : (r.ti != 0) = false := by rw [hx]; rfl
              have e1 : Hid (T4 = T3) := by show _ = _; rw [HG.out.t4]; exact part_no _ hx _
              rw [hx] at cI dx
              go_wp2
              go_roundw
              case rel => exact ⟨.inr (.inr (.inr (.inr (⟨rfl, by rw [e1.out]⟩)))), HWr⟩
              case measure => simp [intOf]
            · have dx : (r.ti != 0) = true := bne_iff_ne.2 hx
              have cN := HLr.out.n3
              obtain ⟨B1, hB1⟩ : ∃ A : List UInt8, Hid (T3 ++ ([32] : List UInt8) = A) := ⟨_, Lib.hid rfl⟩
              obtain ⟨B2, hB2⟩ : ∃ A : List UInt8, Hid (B1 ++ nmTi = A) := ⟨_, Lib.hid rfl⟩
              obtain ⟨B3, hB3⟩ : ∃ A : List UInt8, Hid (B2 ++ ([61] : List UInt8) = A) := ⟨_, Lib.hid rfl⟩
              have li := Lib.itoa_length_le r.ti r4.1 r4.2
              have hn : (nmTi : List UInt8).length ≤ 10 := by decide
              have a1 : B1.length ≤ 201 := by rw [← hB1.out, List.length_append]; simp; omega
              have a2 : B2.length ≤ 211 := by rw [← hB2.out, List.length_append]; omega
              have a3 : B3.length ≤ 212 := by rw [← hB3.out, List.length_append]; simp; omega
              have y1 : ¬ 9223372036854775807 < (bs T3).size + 1 := fits (A := T3) (B := [32]) (by omega) (by simp)
              have y2 := fits (A := B1) (B := nmTi) (by omega) (by omega)
              have y3 : ¬ 9223372036854775807 < (bs B2).size + 1 := fits (A := B2) (B := [61]) (by omega) (by simp)
              have y4 := fits (A := B3) (B := itoa r.ti) (by omega) (by omega)
              have q1 : bs T3 ++ ByteArray.mk #[32] = bs B1 := (bs_append T3 [32]).trans (by rw [hB1.out])
              have q2 : bs B1 ++ bs nmTi = bs B2 := (bs_append _ _).trans (by rw [hB2.out])
              have q3 : bs B2 ++ ByteArray.mk #[61] = bs B3 := (bs_append B2 [61]).trans (by rw [hB3.out])
              have q4 : bs B3 ++ bs (itoa r.ti) = bs T4 := (bs_append _ _).trans (by rw [HG.out.t4, ← hB3.out, ← hB2.out, ← hB1.out]; unfold part; rw [if_neg hx]; simp)
              have CIx : Hid (∀ W, Calls Tryd.prog 30 #[.int .i64 r.ti] W fun e w' => e = .returned (.string (bs (itoa r.ti))) ∧ Below W.heap.size W w') := CI.out _ r4
              have hlN := HLr.out.ltN
              have hlI := HLr.out.ltI
              clear hB1 hB2 hB3 li hn a1 a2 a3
              generalize itoa r.ti = IT at *
              generalize hXN : bs nmTi = XN at *
              go_upto_region 12 with fail
              have hHeld : wr.drew.cell? ⟨gN, 3, none⟩ = some (.string XN) ∧ wr.drew.cell? ⟨gI, 3, none⟩ = some (.int .i64 r.ti) := ⟨cN, cI⟩
              have HWd : Hid (Below w5.heap.size w5 wr.drew) := below_dN HWr.out 1
              refine Ord.wp_region_U (fun W' => W'.cell? ⟨gN, 3, none⟩ = some (.string XN) ∧ W'.cell? ⟨gI, 3, none⟩ = some (.int .i64 r.ti)) [] (by kernel_rfl) ?_
              refine take_at (i := 0) (v := ?_) 39 rfl rfl (by kernel_rfl) (by kernel_rfl) (by kernel_rfl) (by kernel_rfl) (by kernel_rfl) (by kernel_rfl) (by kernel_rfl) (fun _ _ _ h => h) (Or.inl ⟨by kernel_rfl, ?_⟩) hHeld ?_
              rotate_left
              · intro w hSw; (try dsimp only at hSw); (try obtain ⟨f0, f1⟩ := hSw); go_simp; (try with_reducible rfl)
              try simp only [Act.put, List.setIfInBounds_toArray, List.set_cons_zero, List.set_cons_succ]
              refine take_at (i := 1) (v := ?_) 40 rfl rfl (by kernel_rfl) (by kernel_rfl) (by kernel_rfl) (by kernel_rfl) (by kernel_rfl) (by kernel_rfl) (by kernel_rfl) (fun _ _ _ h => h) (Or.inl ⟨by kernel_rfl, ?_⟩) hHeld ?_
              rotate_left
              · intro w hSw; (try dsimp only at hSw); (try obtain ⟨f0, f1⟩ := hSw); go_simp; (try with_reducible rfl)
              try simp only [Act.put, List.setIfInBounds_toArray, List.set_cons_zero, List.set_cons_succ]
              refine take_at (i := 2) (v := ?_) 41 rfl rfl (by kernel_rfl) (by kernel_rfl) (by kernel_rfl) (by kernel_rfl) (by kernel_rfl) (by kernel_rfl) (by kernel_rfl) (fun _ _ _ h => h) (Or.inl ⟨by kernel_rfl, ?_⟩) hHeld ?_
              rotate_left
              · intro w hSw; (try dsimp only at hSw); (try obtain ⟨f0, f1⟩ := hSw); go_simp; (try with_reducible rfl)
              try simp only [Act.put, List.setIfInBounds_toArray, List.set_cons_zero, List.set_cons_succ]
              refine take_at (i := 3) (v := ?_) 42 rfl rfl (by kernel_rfl) (by kernel_rfl) (by kernel_rfl) (by kernel_rfl) (by kernel_rfl) (by kernel_rfl) (by kernel_rfl) (fun _ _ _ h => h) (Or.inl ⟨by kernel_rfl, ?_⟩) hHeld ?_
              rotate_left
              · intro w hSw; (try dsimp only at hSw); (try obtain ⟨f0, f1⟩ := hSw); go_simp; (try with_reducible rfl)
              try simp only [Act.put, List.setIfInBounds_toArray, List.set_cons_zero, List.set_cons_succ]
              refine take_at (i := 4) (v := ?_) 43 rfl rfl (by kernel_rfl) (by kernel_rfl) (by kernel_rfl) (by kernel_rfl) (by kernel_rfl) (by kernel_rfl) (by kernel_rfl) (fun _ _ _ h => h) (Or.inl ⟨by kernel_rfl, ?_⟩) hHeld ?_
              rotate_left
              · intro w hSw; (try dsimp only at hSw); (try obtain ⟨f0, f1⟩ := hSw); go_simp; (try with_reducible rfl)
              try simp only [Act.put, List.setIfInBounds_toArray, List.set_cons_zero, List.set_cons_succ]
              refine take_at (i := 5) (v := ?_) 44 rfl rfl (by kernel_rfl) (by kernel_rfl) (by kernel_rfl) (by kernel_rfl) (by kernel_rfl) (by kernel_rfl) (by kernel_rfl) (fun _ _ _ h => h) (Or.inl ⟨by kernel_rfl, ?_⟩) hHeld ?_
              rotate_left
              · intro w hSw; (try dsimp only at hSw); (try obtain ⟨f0, f1⟩ := hSw); go_simp; (try with_reducible rfl)
              try simp only [Act.put, List.setIfInBounds_toArray, List.set_cons_zero, List.set_cons_succ]
              refine take_at (i := 6) (v := ?_) 45 rfl rfl (by kernel_rfl) (by kernel_rfl) (by kernel_rfl) (by kernel_rfl) (by kernel_rfl) (by kernel_rfl) (by kernel_rfl) (fun _ _ _ h => h) (Or.inl ⟨by kernel_rfl, ?_⟩) hHeld ?_
              rotate_left
              · intro w hSw; (try dsimp only at hSw); (try obtain ⟨f0, f1⟩ := hSw); go_simp; (try with_reducible rfl)
              try simp only [Act.put, List.setIfInBounds_toArray, List.set_cons_zero, List.set_cons_succ]
              refine take_at (i := 7) (v := ?_) 46 rfl rfl (by kernel_rfl) (by kernel_rfl) (by kernel_rfl) (by kernel_rfl) (by kernel_rfl) (by kernel_rfl) (by kernel_rfl) (fun _ _ _ h => h) (Or.inl ⟨by kernel_rfl, ?_⟩) hHeld ?_
              rotate_left
              · intro w hSw; (try dsimp only at hSw); (try obtain ⟨f0, f1⟩ := hSw); go_simp; (try with_reducible rfl)
              try simp only [Act.put, List.setIfInBounds_toArray, List.set_cons_zero, List.set_cons_succ]
              refine take_at (i := 8) (v := ?_) 47 rfl rfl (by kernel_rfl) (by kernel_rfl) (by kernel_rfl) (by kernel_rfl) (by kernel_rfl) (by kernel_rfl) (by kernel_rfl) (fun _ _ _ h => h) (Or.inl ⟨by kernel_rfl, ?_⟩) hHeld ?_
              rotate_left
              · intro w hSw; (try dsimp only at hSw); (try obtain ⟨f0, f1⟩ := hSw); go_simp; (try with_reducible rfl)
              try simp only [Act.put, List.setIfInBounds_toArray, List.set_cons_zero, List.set_cons_succ]
              refine take_at (i := 9) (v := ?_) 48 rfl rfl (by kernel_rfl) (by kernel_rfl) (by kernel_rfl) (by kernel_rfl) (by kernel_rfl) (by kernel_rfl) (by kernel_rfl) (fun _ _ _ h => h) (Or.inl ⟨by kernel_rfl, ?_⟩) hHeld ?_
              rotate_left
              · intro w hSw; (try dsimp only at hSw); (try obtain ⟨f0, f1⟩ := hSw); go_simp; (try with_reducible rfl)
              try simp only [Act.put, List.setIfInBounds_toArray, List.set_cons_zero, List.set_cons_succ]
              refine take_at (i := 10) (v := ?_) 49 rfl rfl (by kernel_rfl) (by kernel_rfl) (by kernel_rfl) (by kernel_rfl) (by kernel_rfl) (by kernel_rfl) (by kernel_rfl) (fun _ _ _ h => h) (Or.inl ⟨by kernel_rfl, ?_⟩) hHeld ?_
              rotate_left
              · intro w hSw; (try dsimp only at hSw); (try obtain ⟨f0, f1⟩ := hSw); go_simp; (try with_reducible rfl)
              try simp only [Act.put, List.setIfInBounds_toArray, List.set_cons_zero, List.set_cons_succ]
              refine take_at (i := 11) (v := ?_) 50 rfl rfl (by kernel_rfl) (by kernel_rfl) (by kernel_rfl) (by kernel_rfl) (by kernel_rfl) (by kernel_rfl) (by kernel_rfl) (fun _ _ _ h => h) (Or.inl ⟨by kernel_rfl, ?_⟩) hHeld ?_
              rotate_left
              · intro w hSw; (try dsimp only at hSw); (try obtain ⟨f0, f1⟩ := hSw); go_simp; (try with_reducible rfl)
              try simp only [Act.put, List.setIfInBounds_toArray, List.set_cons_zero, List.set_cons_succ]
              refine Ord.wpAnyU_one (i := 12) (by kernel_rfl) rfl (fun K hK => ?_)
              go_simp
              go_wp2_with (go_at_call 30; (with_reducible refine (CIx.out _).mono ?_); rintro e w6 ⟨rfl, hb6⟩; have hs6 : _ ∧ _ := ⟨(hb6.cell (p := ⟨gN, 3, none⟩) hlN).trans hHeld.1, (hb6.cell (p := ⟨gI, 3, none⟩) hlI).trans hHeld.2⟩; have HW6 : Hid (Below w5.heap.size w5 w6) := below2 HWd.out hb6; clear hb6)
              refine hK.out _ _ (fun _ => hs6) ?_
              clear hK K
              try simp only [Act.put, List.setIfInBounds_toArray, List.set_cons_zero, List.set_cons_succ]
              clear hHeld
              have hHeld := hs6
              refine take_at (i := 13) (v := ?_) 52 rfl rfl (by kernel_rfl) (by kernel_rfl) (by kernel_rfl) (by kernel_rfl) (by kernel_rfl) (by kernel_rfl) (by kernel_rfl) (fun _ _ _ h => h) (Or.inl ⟨by kernel_rfl, ?_⟩) hHeld ?_
              rotate_left
              · intro w hSw; (try dsimp only at hSw); skip; go_simp; (try with_reducible rfl)
              try simp only [Act.put, List.setIfInBounds_toArray, List.set_cons_zero, List.set_cons_succ]
              refine Ord.wpAnyU_one (i := 14) (by kernel_rfl) rfl (fun K hK => ?_)
              go_simp
              refine hK.out _ _ (fun _ => hs6) ?_
              clear hK K
              try simp only [Act.put, List.setIfInBounds_toArray, List.set_cons_zero, List.set_cons_succ]
              refine Ord.wpAnyU_done (by kernel_rfl) ?_ _
              go_wp2
              go_roundw
              case rel => exact ⟨.inr (.inr (.inr (.inr (⟨rfl, rfl⟩)))), HW6⟩
              case measure => simp [intOf]
          obtain ⟨rfl, rfl⟩ := hk
          go_wp2
          go_ret
          exact ⟨by rw [HV.out]; rfl, HW5.out.trans (HWr.out.mono HW5.out.size)⟩
      · go_simp
        have hH1 : Rp (w2.drew.alloc (.cells #[.int .i64 r.id, .int .i64 r.n, .int .i64 r.st, .int .i64 r.ti] 3)) w.heap.size r := hHeld.below (below_al (Below.refl _ _) _)
        refine hK.out _ _ (fun _ => hH1) ?_
        clear hK K
        try simp only [Act.put, List.setIfInBounds_toArray, List.set_cons_zero, List.set_cons_succ]
        refine Ord.wpAnyU_one (i := 0) (by kernel_rfl) rfl (fun K hK => ?_)
        go_simp
        skip
        refine hK.out _ _ (fun _ => hH1.below (below_al (Below.refl _ _) _)) ?_
        clear hK K
        try simp only [Act.put, List.setIfInBounds_toArray, List.set_cons_zero, List.set_cons_succ]
        refine wpAnyU_named fun w5 hw5 => ?_
        have HL5 : Hid (Lists w5 (w2.heap.size + 1) w2.heap.size r) := by rw [hw5]; exact lists_in w2.drew r _ _
        have HW5 : Hid (Below w.heap.size w w5) := by rw [hw5]; exact below_al (below_al HW2d.out _) _
        have HS5 : Rp w5 w.heap.size r := by rw [hw5]; exact hH1.below (below_al (Below.refl _ _) _)
        clear hw5
        obtain ⟨gN, hgP⟩ : ∃ g, w2.heap.size + 1 = g := ⟨_, rfl⟩
        rw [hgP] at HL5
        try rw [hgP]
        clear hgP
        obtain ⟨gI, hgP⟩ : ∃ g, w2.heap.size = g := ⟨_, rfl⟩
        rw [hgP] at HL5
        try rw [hgP]
        clear hgP
        refine Ord.wpAnyU_one (i := 10) (by kernel_rfl) rfl (fun K hK => ?_)
        go_simp
        refine hK.out _ _ (fun _ => HS5) ?_
        clear hK K
        try simp only [Act.put, List.setIfInBounds_toArray, List.set_cons_zero, List.set_cons_succ]
        refine Ord.wpAnyU_one (i := 11) (by kernel_rfl) rfl (fun K hK => ?_)
        go_simp
        refine hK.out _ _ (fun _ => HS5) ?_
        clear hK K
        try simp only [Act.put, List.setIfInBounds_toArray, List.set_cons_zero, List.set_cons_succ]
        refine Ord.wpAnyU_done (by kernel_rfl) ?_ _
        clear HS5
        go_wp2
        go_loopw [4, 7] (fun s i wr => ((i = .int .i64 0 ∧ s = .string (bs T0)) ∨ (i = .int .i64 1 ∧ s = .string (bs T1)) ∨ (i = .int .i64 2 ∧ s = .string (bs T2)) ∨ (i = .int .i64 3 ∧ s = .string (bs T3)) ∨ (i = .int .i64 4 ∧ s = .string (bs T4))) ∧ Hid (Below w5.heap.size w5 wr)) (fun _ i _ => 4 - (intOf i).toNat)
        case atStart => exact ⟨.inl ⟨rfl, rfl⟩, Below.refl _ _⟩
        case round =>
          obtain ⟨hk, HWr⟩ := hrel
          have HLr := Lib.hid (HL5.out.below HWr.out)
          rcases hk with ⟨rfl, rfl⟩ | hk
          · have cI := HLr.out.i0
            by_cases hx : r.id = 0
            · have dx : (r.id != 0) = false := by rw [hx]; rfl
              have e1 : Hid (T1 = T0) := by show _ = _; rw [HG0.out]; exact part_no _ hx _
              rw [hx] at cI dx
              go_wp2
              go_roundw
              case rel => exact ⟨.inr (.inl ⟨rfl, by rw [e1.out]⟩), HWr⟩
              case measure => simp [intOf]
            · have dx : (r.id != 0) = true := bne_iff_ne.2 hx
              have cN := HLr.out.n0
              obtain ⟨B1, hB1⟩ : ∃ A : List UInt8, Hid (T0 ++ ([32] : List UInt8) = A) := ⟨_, Lib.hid rfl⟩
              obtain ⟨B2, hB2⟩ : ∃ A : List UInt8, Hid (B1 ++ nmId = A) := ⟨_, Lib.hid rfl⟩
              obtain ⟨B3, hB3⟩ : ∃ A : List UInt8, Hid (B2 ++ ([61] : List UInt8) = A) := ⟨_, Lib.hid rfl⟩
              have li := Lib.itoa_length_le r.id r1.1 r1.2
              have hn : (nmId : List UInt8).length ≤ 10 := by decide
              have a1 : B1.length ≤ 201 := by rw [← hB1.out, List.length_append]; simp; omega
              have a2 : B2.length ≤ 211 := by rw [← hB2.out, List.length_append]; omega
              have a3 : B3.length ≤ 212 := by rw [← hB3.out, List.length_append]; simp; omega
              have y1 : ¬ 9223372036854775807 < (bs T0).size + 1 := fits (A := T0) (B := [32]) (by omega) (by simp)
              have y2 := fits (A := B1) (B := nmId) (by omega) (by omega)
              have y3 : ¬ 9223372036854775807 < (bs B2).size + 1 := fits (A := B2) (B := [61]) (by omega) (by simp)
              have y4 := fits (A := B3) (B := itoa r.id) (by omega) (by omega)
              have q1 : bs T0 ++ ByteArray.mk #[32] = bs B1 := (bs_append T0 [32]).trans (by rw [hB1.out])
              have q2 : bs B1 ++ bs nmId = bs B2 := (bs_append _ _).trans (by rw [hB2.out])
              have q3 : bs B2 ++ ByteArray.mk #[61] = bs B3 := (bs_append B2 [61]).trans (by rw [hB3.out])
              have q4 : bs B3 ++ bs (itoa r.id) = bs T1 := (bs_append _ _).trans (by rw [HG0.out, ← hB3.out, ← hB2.out, ← hB1.out]; unfold part; rw [if_neg hx]; simp)
              have CIx : Hid (∀ W, Calls Tryd.prog 30 #[.int .i64 r.id] W fun e w' => e = .returned (.string (bs (itoa r.id))) ∧ Below W.heap.size W w') := CI.out _ r1
              have hlN := HLr.out.ltN
              have hlI := HLr.out.ltI
              clear hB1 hB2 hB3 li hn a1 a2 a3
              generalize itoa r.id = IT at *
              generalize hXN : bs nmId = XN at *
              go_upto_region 12 with fail
              have hHeld : wr.drew.cell? ⟨gN, 0, none⟩ = some (.string XN) ∧ wr.drew.cell? ⟨gI, 0, none⟩ = some (.int .i64 r.id) := ⟨cN, cI⟩
              have HWd : Hid (Below w5.heap.size w5 wr.drew) := below_dN HWr.out 1
              refine Ord.wp_region_U (fun W' => W'.cell? ⟨gN, 0, none⟩ = some (.string XN) ∧ W'.cell? ⟨gI, 0, none⟩ = some (.int .i64 r.id)) [] (by kernel_rfl) ?_
              refine take_at (i := 0) (v := ?_) 39 rfl rfl (by kernel_rfl) (by kernel_rfl) (by kernel_rfl) (by kernel_rfl) (by kernel_rfl) (by kernel_rfl) (by kernel_rfl) (fun _ _ _ h => h) (Or.inl ⟨by kernel_rfl, ?_⟩) hHeld ?_
              rotate_left
              · intro w hSw; (try dsimp only at hSw); (try obtain ⟨f0, f1⟩ := hSw); go_simp; (try with_reducible rfl)
              try simp only [Act.put, List.setIfInBounds_toArray, List.set_cons_zero, List.set_cons_succ]
              refine take_at (i := 1) (v := ?_) 40 rfl rfl (by kernel_rfl) (by kernel_rfl) (by kernel_rfl) (by kernel_rfl) (by kernel_rfl) (by kernel_rfl) (by kernel_rfl) (fun _ _ _ h => h) (Or.inl ⟨by kernel_rfl, ?_⟩) hHeld ?_
              rotate_left
              · intro w hSw; (try dsimp only at hSw); (try obtain ⟨f0, f1⟩ := hSw); go_simp; (try with_reducible rfl)
              try simp only [Act.put, List.setIfInBounds_toArray, List.set_cons_zero, List.set_cons_succ]
              refine take_at (i := 2) (v := ?_) 41 rfl rfl (by kernel_rfl) (by kernel_rfl) (by kernel_rfl) (by kernel_rfl) (by kernel_rfl) (by kernel_rfl) (by kernel_rfl) (fun _ _ _ h => h) (Or.inl ⟨by kernel_rfl, ?_⟩) hHeld ?_
              rotate_left
              · intro w hSw; (try dsimp only at hSw); (try obtain ⟨f0, f1⟩ := hSw); go_simp; (try with_reducible rfl)
              try simp only [Act.put, List.setIfInBounds_toArray, List.set_cons_zero, List.set_cons_succ]
              refine take_at (i := 3) (v := ?_) 42 rfl rfl (by kernel_rfl) (by kernel_rfl) (by kernel_rfl) (by kernel_rfl) (by kernel_rfl) (by kernel_rfl) (by kernel_rfl) (fun _ _ _ h => h) (Or.inl ⟨by kernel_rfl, ?_⟩) hHeld ?_
              rotate_left
              · intro w hSw; (try dsimp only at hSw); (try obtain ⟨f0, f1⟩ := hSw); go_simp; (try with_reducible rfl)
              try simp only [Act.put, List.setIfInBounds_toArray, List.set_cons_zero, List.set_cons_succ]
              refine take_at (i := 4) (v := ?_) 43 rfl rfl (by kernel_rfl) (by kernel_rfl) (by kernel_rfl) (by kernel_rfl) (by kernel_rfl) (by kernel_rfl) (by kernel_rfl) (fun _ _ _ h => h) (Or.inl ⟨by kernel_rfl, ?_⟩) hHeld ?_
              rotate_left
              · intro w hSw; (try dsimp only at hSw); (try obtain ⟨f0, f1⟩ := hSw); go_simp; (try with_reducible rfl)
              try simp only [Act.put, List.setIfInBounds_toArray, List.set_cons_zero, List.set_cons_succ]
              refine take_at (i := 5) (v := ?_) 44 rfl rfl (by kernel_rfl) (by kernel_rfl) (by kernel_rfl) (by kernel_rfl) (by kernel_rfl) (by kernel_rfl) (by kernel_rfl) (fun _ _ _ h => h) (Or.inl ⟨by kernel_rfl, ?_⟩) hHeld ?_
              rotate_left
              · intro w hSw; (try dsimp only at hSw); (try obtain ⟨f0, f1⟩ := hSw); go_simp; (try with_reducible rfl)
              try simp only [Act.put, List.setIfInBounds_toArray, List.set_cons_zero, List.set_cons_succ]
              refine take_at (i := 6) (v := ?_) 45 rfl rfl (by kernel_rfl) (by kernel_rfl) (by kernel_rfl) (by kernel_rfl) (by kernel_rfl) (by kernel_rfl) (by kernel_rfl) (fun _ _ _ h => h) (Or.inl ⟨by kernel_rfl, ?_⟩) hHeld ?_
              rotate_left
              · intro w hSw; (try dsimp only at hSw); (try obtain ⟨f0, f1⟩ := hSw); go_simp; (try with_reducible rfl)
              try simp only [Act.put, List.setIfInBounds_toArray, List.set_cons_zero, List.set_cons_succ]
              refine take_at (i := 7) (v := ?_) 46 rfl rfl (by kernel_rfl) (by kernel_rfl) (by kernel_rfl) (by kernel_rfl) (by kernel_rfl) (by kernel_rfl) (by kernel_rfl) (fun _ _ _ h => h) (Or.inl ⟨by kernel_rfl, ?_⟩) hHeld ?_
              rotate_left
              · intro w hSw; (try dsimp only at hSw); (try obtain ⟨f0, f1⟩ := hSw); go_simp; (try with_reducible rfl)
              try simp only [Act.put, List.setIfInBounds_toArray, List.set_cons_zero, List.set_cons_succ]
              refine take_at (i := 8) (v := ?_) 47 rfl rfl (by kernel_rfl) (by kernel_rfl) (by kernel_rfl) (by kernel_rfl) (by kernel_rfl) (by kernel_rfl) (by kernel_rfl) (fun _ _ _ h => h) (Or.inl ⟨by kernel_rfl, ?_⟩) hHeld ?_
              rotate_left
              · intro w hSw; (try dsimp only at hSw); (try obtain ⟨f0, f1⟩ := hSw); go_simp; (try with_reducible rfl)
              try simp only [Act.put, List.setIfInBounds_toArray, List.set_cons_zero, List.set_cons_succ]
              refine take_at (i := 9) (v := ?_) 48 rfl rfl (by kernel_rfl) (by kernel_rfl) (by kernel_rfl) (by kernel_rfl) (by kernel_rfl) (by kernel_rfl) (by kernel_rfl) (fun _ _ _ h => h) (Or.inl ⟨by kernel_rfl, ?_⟩) hHeld ?_
              rotate_left
              · intro w hSw; (try dsimp only at hSw); (try obtain ⟨f0, f1⟩ := hSw); go_simp; (try with_reducible rfl)
              try simp only [Act.put, List.setIfInBounds_toArray, List.set_cons_zero, List.set_cons_succ]
              refine take_at (i := 10) (v := ?_) 49 rfl rfl (by kernel_rfl) (by kernel_rfl) (by kernel_rfl) (by kernel_rfl) (by kernel_rfl) (by kernel_rfl) (by kernel_rfl) (fun _ _ _ h => h) (Or.inl ⟨by kernel_rfl, ?_⟩) hHeld ?_
              rotate_left
              · intro w hSw; (try dsimp only at hSw); (try obtain ⟨f0, f1⟩ := hSw); go_simp; (try with_reducible rfl)
              try simp only [Act.put, List.setIfInBounds_toArray, List.set_cons_zero, List.set_cons_succ]
              refine take_at (i := 11) (v := ?_) 50 rfl rfl (by kernel_rfl) (by kernel_rfl) (by kernel_rfl) (by kernel_rfl) (by kernel_rfl) (by kernel_rfl) (by kernel_rfl) (fun _ _ _ h => h) (Or.inl ⟨by kernel_rfl, ?_⟩) hHeld ?_
              rotate_left
              · intro w hSw; (try dsimp only at hSw); (try obtain ⟨f0, f1⟩ := hSw); go_simp; (try with_reducible rfl)
              try simp only [Act.put, List.setIfInBounds_toArray, List.set_cons_zero, List.set_cons_succ]
              refine Ord.wpAnyU_one (i := 12) (by kernel_rfl) rfl (fun K hK => ?_)
              go_simp
              go_wp2_with (go_at_call 30; (with_reducible refine (CIx.out _).mono ?_); rintro e w6 ⟨rfl, hb6⟩; have hs6 : _ ∧ _ := ⟨(hb6.cell (p := ⟨gN, 0, none⟩) hlN).trans hHeld.1, (hb6.cell (p := ⟨gI, 0, none⟩) hlI).trans hHeld.2⟩; have HW6 : Hid (Below w5.heap.size w5 w6) := below2 HWd.out hb6; clear hb6)
              refine hK.out _ _ (fun _ => hs6) ?_
              clear hK K
              try simp only [Act.put, List.setIfInBounds_toArray, List.set_cons_zero, List.set_cons_succ]
              clear hHeld
              have hHeld := hs6
              refine take_at (i := 13) (v := ?_) 52 rfl rfl (by kernel_rfl) (by kernel_rfl) (by kernel_rfl) (by kernel_rfl) (by kernel_rfl) (by kernel_rfl) (by kernel_rfl) (fun _ _ _ h => h) (Or.inl ⟨by kernel_rfl, ?_⟩) hHeld ?_
              rotate_left
              · intro w hSw; (try dsimp only at hSw); skip; go_simp; (try with_reducible rfl)
              try simp only [Act.put, List.setIfInBounds_toArray, List.set_cons_zero, List.set_cons_succ]
              refine Ord.wpAnyU_one (i := 14) (by kernel_rfl) rfl (fun K hK => ?_)
              go_simp
              refine hK.out _ _ (fun _ => hs6) ?_
              clear hK K
              try simp only [Act.put, List.setIfInBounds_toArray, List.set_cons_zero, List.set_cons_succ]
              refine Ord.wpAnyU_done (by kernel_rfl) ?_ _
              go_wp2
              go_roundw
              case rel => exact ⟨.inr (.inl ⟨rfl, rfl⟩), HW6⟩
              case measure => simp [intOf]
          rcases hk with ⟨rfl, rfl⟩ | hk
          · have cI := HLr.out.i1
            by_cases hx : r.n = 0
            · have dx : (r.n != 0) = false := by rw [hx]; rfl
              have e1 : Hid (T2 = T1) := by show _ = _; rw [HG.out.t2]; exact part_no _ hx _
              rw [hx] at cI dx
              go_wp2
              go_roundw
              case rel => exact ⟨.inr (.inr (.inl ⟨rfl, by rw [e1.out]⟩)), HWr⟩
              case measure => simp [intOf]
            · have dx : (r.n != 0) = true := bne_iff_ne.2 hx
              have cN := HLr.out.n1
              obtain ⟨B1, hB1⟩ : ∃ A : List UInt8, Hid (T1 ++ ([32] : List UInt8) = A) := ⟨_, Lib.hid rfl⟩
              obtain ⟨B2, hB2⟩ : ∃ A : List UInt8, Hid (B1 ++ nmN = A) := ⟨_, Lib.hid rfl⟩
              obtain ⟨B3, hB3⟩ : ∃ A : List UInt8, Hid (B2 ++ ([61] : List UInt8) = A) := ⟨_, Lib.hid rfl⟩
              have li := Lib.itoa_length_le r.n r2.1 r2.2
              have hn : (nmN : List UInt8).length ≤ 10 := by decide
              have a1 : B1.length ≤ 201 := by rw [← hB1.out, List.length_append]; simp; omega
              have a2 : B2.length ≤ 211 := by rw [← hB2.out, List.length_append]; omega
              have a3 : B3.length ≤ 212 := by rw [← hB3.out, List.length_append]; simp; omega
              have y1 : ¬ 9223372036854775807 < (bs T1).size + 1 := fits (A := T1) (B := [32]) (by omega) (by simp)
              have y2 := fits (A := B1) (B := nmN) (by omega) (by omega)
              have y3 : ¬ 9223372036854775807 < (bs B2).size + 1 := fits (A := B2) (B := [61]) (by omega) (by simp)
              have y4 := fits (A := B3) (B := itoa r.n) (by omega) (by omega)
              have q1 : bs T1 ++ ByteArray.mk #[32] = bs B1 := (bs_append T1 [32]).trans (by rw [hB1.out])
              have q2 : bs B1 ++ bs nmN = bs B2 := (bs_append _ _).trans (by rw [hB2.out])
              have q3 : bs B2 ++ ByteArray.mk #[61] = bs B3 := (bs_append B2 [61]).trans (by rw [hB3.out])
              have q4 : bs B3 ++ bs (itoa r.n) = bs T2 := (bs_append _ _).trans (by rw [HG.out.t2, ← hB3.out, ← hB2.out, ← hB1.out]; unfold part; rw [if_neg hx]; simp)
              have CIx : Hid (∀ W, Calls Tryd.prog 30 #[.int .i64 r.n] W fun e w' => e = .returned (.string (bs (itoa r.n))) ∧ Below W.heap.size W w') := CI.out _ r2
              have hlN := HLr.out.ltN
              have hlI := HLr.out.ltI
              clear hB1 hB2 hB3 li hn a1 a2 a3
              generalize itoa r.n = IT at *
              generalize hXN : bs nmN = XN at *
              go_upto_region 12 with fail
              have hHeld : wr.drew.cell? ⟨gN, 1, none⟩ = some (.string XN) ∧ wr.drew.cell? ⟨gI, 1, none⟩ = some (.int .i64 r.n) := ⟨cN, cI⟩
              have HWd : Hid (Below w5.heap.size w5 wr.drew) := below_dN HWr.out 1
              refine Ord.wp_region_U (fun W' => W'.cell? ⟨gN, 1, none⟩ = some (.string XN) ∧ W'.cell? ⟨gI, 1, none⟩ = some (.int .i64 r.n)) [] (by kernel_rfl) ?_
              refine take_at (i := 0) (v := ?_) 39 rfl rfl (by kernel_rfl) (by kernel_rfl) (by kernel_rfl) (by kernel_rfl) (by kernel_rfl) (by kernel_rfl) (by kernel_rfl) (fun _ _ _ h => h) (Or.inl ⟨by kernel_rfl, ?_⟩) hHeld ?_
              rotate_left
              · intro w hSw; (try dsimp only at hSw); (try obtain ⟨f0, f1⟩ := hSw); go_simp; (try with_reducible rfl)
              try simp only [Act.put, List.setIfInBounds_toArray, List.set_cons_zero, List.set_cons_succ]
              refine take_at (i := 1) (v := ?_) 40 rfl rfl (by kernel_rfl) (by kernel_rfl) (by kernel_rfl) (by kernel_rfl) (by kernel_rfl) (by kernel_rfl) (by kernel_rfl) (fun _ _ _ h => h) (Or.inl ⟨by kernel_rfl, ?_⟩) hHeld ?_
              rotate_left
              · intro w hSw; (try dsimp only at hSw); (try obtain ⟨f0, f1⟩ := hSw); go_simp; (try with_reducible rfl)
              try simp only [Act.put, List.setIfInBounds_toArray, List.set_cons_zero, List.set_cons_succ]
              refine take_at (i := 2) (v := ?_) 41 rfl rfl (by kernel_rfl) (by kernel_rfl) (by kernel_rfl) (by kernel_rfl) (by kernel_rfl) (by kernel_rfl) (by kernel_rfl) (fun _ _ _ h => h) (Or.inl ⟨by kernel_rfl, ?_⟩) hHeld ?_
              rotate_left
              · intro w hSw; (try dsimp only at hSw); (try obtain ⟨f0, f1⟩ := hSw); go_simp; (try with_reducible rfl)
              try simp only [Act.put, List.setIfInBounds_toArray, List.set_cons_zero, List.set_cons_succ]
              refine take_at (i := 3) (v := ?_) 42 rfl rfl (by kernel_rfl) (by kernel_rfl) (by kernel_rfl) (by kernel_rfl) (by kernel_rfl) (by kernel_rfl) (by kernel_rfl) (fun _ _ _ h => h) (Or.inl ⟨by kernel_rfl, ?_⟩) hHeld ?_
              rotate_left
              · intro w hSw; (try dsimp only at hSw); (try obtain ⟨f0, f1⟩ := hSw); go_simp; (try with_reducible rfl)
              try simp only [Act.put, List.setIfInBounds_toArray, List.set_cons_zero, List.set_cons_succ]
              refine take_at (i := 4) (v := ?_) 43 rfl rfl (by kernel_rfl) (by kernel_rfl) (by kernel_rfl) (by kernel_rfl) (by kernel_rfl) (by kernel_rfl) (by kernel_rfl) (fun _ _ _ h => h) (Or.inl ⟨by kernel_rfl, ?_⟩) hHeld ?_
              rotate_left
              · intro w hSw; (try dsimp only at hSw); (try obtain ⟨f0, f1⟩ := hSw); go_simp; (try with_reducible rfl)
              try simp only [Act.put, List.setIfInBounds_toArray, List.set_cons_zero, List.set_cons_succ]
              refine take_at (i := 5) (v := ?_) 44 rfl rfl (by kernel_rfl) (by kernel_rfl) (by kernel_rfl) (by kernel_rfl) (by kernel_rfl) (by kernel_rfl) (by kernel_rfl) (fun _ _ _ h => h) (Or.inl ⟨by kernel_rfl, ?_⟩) hHeld ?_
              rotate_left
              · intro w hSw; (try dsimp only at hSw); (try obtain ⟨f0, f1⟩ := hSw); go_simp; (try with_reducible rfl)
              try simp only [Act.put, List.setIfInBounds_toArray, List.set_cons_zero, List.set_cons_succ]
              refine take_at (i := 6) (v := ?_) 45 rfl rfl (by kernel_rfl) (by kernel_rfl) (by kernel_rfl) (by kernel_rfl) (by kernel_rfl) (by kernel_rfl) (by kernel_rfl) (fun _ _ _ h => h) (Or.inl ⟨by kernel_rfl, ?_⟩) hHeld ?_
              rotate_left
              · intro w hSw; (try dsimp only at hSw); (try obtain ⟨f0, f1⟩ := hSw); go_simp; (try with_reducible rfl)
              try simp only [Act.put, List.setIfInBounds_toArray, List.set_cons_zero, List.set_cons_succ]
              refine take_at (i := 7) (v := ?_) 46 rfl rfl (by kernel_rfl) (by kernel_rfl) (by kernel_rfl) (by kernel_rfl) (by kernel_rfl) (by kernel_rfl) (by kernel_rfl) (fun _ _ _ h => h) (Or.inl ⟨by kernel_rfl, ?_⟩) hHeld ?_
              rotate_left
              · intro w hSw; (try dsimp only at hSw); (try obtain ⟨f0, f1⟩ := hSw); go_simp; (try with_reducible rfl)
              try simp only [Act.put, List.setIfInBounds_toArray, List.set_cons_zero, List.set_cons_succ]
              refine take_at (i := 8) (v := ?_) 47 rfl rfl (by kernel_rfl) (by kernel_rfl) (by kernel_rfl) (by kernel_rfl) (by kernel_rfl) (by kernel_rfl) (by kernel_rfl) (fun _ _ _ h => h) (Or.inl ⟨by kernel_rfl, ?_⟩) hHeld ?_
              rotate_left
              · intro w hSw; (try dsimp only at hSw); (try obtain ⟨f0, f1⟩ := hSw); go_simp; (try with_reducible rfl)
              try simp only [Act.put, List.setIfInBounds_toArray, List.set_cons_zero, List.set_cons_succ]
              refine take_at (i := 9) (v := ?_) 48 rfl rfl (by kernel_rfl) (by kernel_rfl) (by kernel_rfl) (by kernel_rfl) (by kernel_rfl) (by kernel_rfl) (by kernel_rfl) (fun _ _ _ h => h) (Or.inl ⟨by kernel_rfl, ?_⟩) hHeld ?_
              rotate_left
              · intro w hSw; (try dsimp only at hSw); (try obtain ⟨f0, f1⟩ := hSw); go_simp; (try with_reducible rfl)
              try simp only [Act.put, List.setIfInBounds_toArray, List.set_cons_zero, List.set_cons_succ]
              refine take_at (i := 10) (v := ?_) 49 rfl rfl (by kernel_rfl) (by kernel_rfl) (by kernel_rfl) (by kernel_rfl) (by kernel_rfl) (by kernel_rfl) (by kernel_rfl) (fun _ _ _ h => h) (Or.inl ⟨by kernel_rfl, ?_⟩) hHeld ?_
              rotate_left
              · intro w hSw; (try dsimp only at hSw); (try obtain ⟨f0, f1⟩ := hSw); go_simp; (try with_reducible rfl)
              try simp only [Act.put, List.setIfInBounds_toArray, List.set_cons_zero, List.set_cons_succ]
              refine take_at (i := 11) (v := ?_) 50 rfl rfl (by kernel_rfl) (by kernel_rfl) (by kernel_rfl) (by kernel_rfl) (by kernel_rfl) (by kernel_rfl) (by kernel_rfl) (fun _ _ _ h => h) (Or.inl ⟨by kernel_rfl, ?_⟩) hHeld ?_
              rotate_left
              · intro w hSw; (try dsimp only at hSw); (try obtain ⟨f0, f1⟩ := hSw); go_simp; (try with_reducible rfl)
              try simp only [Act.put, List.setIfInBounds_toArray, List.set_cons_zero, List.set_cons_succ]
              refine Ord.wpAnyU_one (i := 12) (by kernel_rfl) rfl (fun K hK => ?_)
              go_simp
              go_wp2_with (go_at_call 30; (with_reducible refine (CIx.out _).mono ?_); rintro e w6 ⟨rfl, hb6⟩; have hs6 : _ ∧ _ := ⟨(hb6.cell (p := ⟨gN, 1, none⟩) hlN).trans hHeld.1, (hb6.cell (p := ⟨gI, 1, none⟩) hlI).trans hHeld.2⟩; have HW6 : Hid (Below w5.heap.size w5 w6) := below2 HWd.out hb6; clear hb6)
              refine hK.out _ _ (fun _ => hs6) ?_
              clear hK K
              try simp only [Act.put, List.setIfInBounds_toArray, List.set_cons_zero, List.set_cons_succ]
              clear hHeld
              have hHeld := hs6
              refine take_at (i := 13) (v := ?_) 52 rfl rfl (by kernel_rfl) (by kernel_rfl) (by kernel_rfl) (by kernel_rfl) (by kernel_rfl) (by kernel_rfl) (by kernel_rfl) (fun _ _ _ h => h) (Or.inl ⟨by kernel_rfl, ?_⟩) hHeld ?_
              rotate_left
              · intro w hSw; (try dsimp only at hSw); skip; go_simp; (try with_reducible rfl)
              try simp only [Act.put, List.setIfInBounds_toArray, List.set_cons_zero, List.set_cons_succ]
              refine Ord.wpAnyU_one (i := 14) (by kernel_rfl) rfl (fun K hK => ?_)
              go_simp
              refine hK.out _ _ (fun _ => hs6) ?_
              clear hK K
              try simp only [Act.put, List.setIfInBounds_toArray, List.set_cons_zero, List.set_cons_succ]
              refine Ord.wpAnyU_done (by kernel_rfl) ?_ _
              go_wp2
              go_roundw
              case rel => exact ⟨.inr (.inr (.inl ⟨rfl, rfl⟩)), HW6⟩
              case measure => simp [intOf]
          rcases hk with ⟨rfl, rfl⟩ | hk
          · have cI := HLr.out.i2
            by_cases hx : r.st = 0
            · have dx : (r.st != 0) = false := by rw [hx]; rfl
              have e1 : Hid (T3 = T2) := by show _ = _; rw [HG.out.t3]; exact part_no _ hx _
              rw [hx] at cI dx
              go_wp2
              go_roundw
              case rel => exact ⟨.inr (.inr (.inr (.inl ⟨rfl, by rw [e1.out]⟩))), HWr⟩
              case measure => simp [intOf]
            · have dx : (r.st != 0) = true := bne_iff_ne.2 hx
              have cN := HLr.out.n2
              obtain ⟨B1, hB1⟩ : ∃ A : List UInt8, Hid (T2 ++ ([32] : List UInt8) = A) := ⟨_, Lib.hid rfl⟩
              obtain ⟨B2, hB2⟩ : ∃ A : List UInt8, Hid (B1 ++ nmSt = A) := ⟨_, Lib.hid rfl⟩
              obtain ⟨B3, hB3⟩ : ∃ A : List UInt8, Hid (B2 ++ ([61] : List UInt8) = A) := ⟨_, Lib.hid rfl⟩
              have li := Lib.itoa_length_le r.st r3.1 r3.2
              have hn : (nmSt : List UInt8).length ≤ 10 := by decide
              have a1 : B1.length ≤ 201 := by rw [← hB1.out, List.length_append]; simp; omega
              have a2 : B2.length ≤ 211 := by rw [← hB2.out, List.length_append]; omega
              have a3 : B3.length ≤ 212 := by rw [← hB3.out, List.length_append]; simp; omega
              have y1 : ¬ 9223372036854775807 < (bs T2).size + 1 := fits (A := T2) (B := [32]) (by omega) (by simp)
              have y2 := fits (A := B1) (B := nmSt) (by omega) (by omega)
              have y3 : ¬ 9223372036854775807 < (bs B2).size + 1 := fits (A := B2) (B := [61]) (by omega) (by simp)
              have y4 := fits (A := B3) (B := itoa r.st) (by omega) (by omega)
              have q1 : bs T2 ++ ByteArray.mk #[32] = bs B1 := (bs_append T2 [32]).trans (by rw [hB1.out])
              have q2 : bs B1 ++ bs nmSt = bs B2 := (bs_append _ _).trans (by rw [hB2.out])
              have q3 : bs B2 ++ ByteArray.mk #[61] = bs B3 := (bs_append B2 [61]).trans (by rw [hB3.out])
              have q4 : bs B3 ++ bs (itoa r.st) = bs T3 := (bs_append _ _).trans (by rw [HG.out.t3, ← hB3.out, ← hB2.out, ← hB1.out]; unfold part; rw [if_neg hx]; simp)
              have CIx : Hid (∀ W, Calls Tryd.prog 30 #[.int .i64 r.st] W fun e w' => e = .returned (.string (bs (itoa r.st))) ∧ Below W.heap.size W w') := CI.out _ r3
              have hlN := HLr.out.ltN
              have hlI := HLr.out.ltI
              clear hB1 hB2 hB3 li hn a1 a2 a3
              generalize itoa r.st = IT at *
              generalize hXN : bs nmSt = XN at *
              go_upto_region 12 with fail
              have hHeld : wr.drew.cell? ⟨gN, 2, none⟩ = some (.string XN) ∧ wr.drew.cell? ⟨gI, 2, none⟩ = some (.int .i64 r.st) := ⟨cN, cI⟩
              have HWd : Hid (Below w5.heap.size w5 wr.drew) := below_dN HWr.out 1
              refine Ord.wp_region_U (fun W' => W'.cell? ⟨gN, 2, none⟩ = some (.string XN) ∧ W'.cell? ⟨gI, 2, none⟩ = some (.int .i64 r.st)) [] (by kernel_rfl) ?_
              refine take_at (i := 0) (v := ?_) 39 rfl rfl (by kernel_rfl) (by kernel_rfl) (by kernel_rfl) (by kernel_rfl) (by kernel_rfl) (by kernel_rfl) (by kernel_rfl) (fun _ _ _ h => h) (Or.inl ⟨by kernel_rfl, ?_⟩) hHeld ?_
              rotate_left
              · intro w hSw; (try dsimp only at hSw); (try obtain ⟨f0, f1⟩ := hSw); go_simp; (try with_reducible rfl)
              try simp only [Act.put, List.setIfInBounds_toArray, List.set_cons_zero, List.set_cons_succ]
              refine take_at (i := 1) (v := ?_) 40 rfl rfl (by kernel_rfl) (by kernel_rfl) (by kernel_rfl) (by kernel_rfl) (by kernel_rfl) (by kernel_rfl) (by kernel_rfl) (fun _ _ _ h => h) (Or.inl ⟨by kernel_rfl, ?_⟩) hHeld ?_
              rotate_left
              · intro w hSw; (try dsimp only at hSw); (try obtain ⟨f0, f1⟩ := hSw); go_simp; (try with_reducible rfl)
              try simp only [Act.put, List.setIfInBounds_toArray, List.set_cons_zero, List.set_cons_succ]
              refine take_at (i := 2) (v := ?_) 41 rfl rfl (by kernel_rfl) (by kernel_rfl) (by kernel_rfl) (by kernel_rfl) (by kernel_rfl) (by kernel_rfl) (by kernel_rfl) (fun _ _ _ h => h) (Or.inl ⟨by kernel_rfl, ?_⟩) hHeld ?_
              rotate_left
              · intro w hSw; (try dsimp only at hSw); (try obtain ⟨f0, f1⟩ := hSw); go_simp; (try with_reducible rfl)
              try simp only [Act.put, List.setIfInBounds_toArray, List.set_cons_zero, List.set_cons_succ]
              refine take_at (i := 3) (v := ?_) 42 rfl rfl (by kernel_rfl) (by kernel_rfl) (by kernel_rfl) (by kernel_rfl) (by kernel_rfl) (by kernel_rfl) (by kernel_rfl) (fun _ _ _ h => h) (Or.inl ⟨by kernel_rfl, ?_⟩) hHeld ?_
              rotate_left
              · intro w hSw; (try dsimp only at hSw); (try obtain ⟨f0, f1⟩ := hSw); go_simp; (try with_reducible rfl)
              try simp only [Act.put, List.setIfInBounds_toArray, List.set_cons_zero, List.set_cons_succ]
              refine take_at (i := 4) (v := ?_) 43 rfl rfl (by kernel_rfl) (by kernel_rfl) (by kernel_rfl) (by kernel_rfl) (by kernel_rfl) (by kernel_rfl) (by kernel_rfl) (fun _ _ _ h => h) (Or.inl ⟨by kernel_rfl, ?_⟩) hHeld ?_
              rotate_left
              · intro w hSw; (try dsimp only at hSw); (try obtain ⟨f0, f1⟩ := hSw); go_simp; (try with_reducible rfl)
              try simp only [Act.put, List.setIfInBounds_toArray, List.set_cons_zero, List.set_cons_succ]
              refine take_at (i := 5) (v := ?_) 44 rfl rfl (by kernel_rfl) (by kernel_rfl) (by kernel_rfl) (by kernel_rfl) (by kernel_rfl) (by kernel_rfl) (by kernel_rfl) (fun _ _ _ h => h) (Or.inl ⟨by kernel_rfl, ?_⟩) hHeld ?_
              rotate_left
              · intro w hSw; (try dsimp only at hSw); (try obtain ⟨f0, f1⟩ := hSw); go_simp; (try with_reducible rfl)
              try simp only [Act.put, List.setIfInBounds_toArray, List.set_cons_zero, List.set_cons_succ]
              refine take_at (i := 6) (v := ?_) 45 rfl rfl (by kernel_rfl) (by kernel_rfl) (by kernel_rfl) (by kernel_rfl) (by kernel_rfl) (by kernel_rfl) (by kernel_rfl) (fun _ _ _ h => h) (Or.inl ⟨by kernel_rfl, ?_⟩) hHeld ?_
              rotate_left
              · intro w hSw; (try dsimp only at hSw); (try obtain ⟨f0, f1⟩ := hSw); go_simp; (try with_reducible rfl)
              try simp only [Act.put, List.setIfInBounds_toArray, List.set_cons_zero, List.set_cons_succ]
              refine take_at (i := 7) (v := ?_) 46 rfl rfl (by kernel_rfl) (by kernel_rfl) (by kernel_rfl) (by kernel_rfl) (by kernel_rfl) (by kernel_rfl) (by kernel_rfl) (fun _ _ _ h => h) (Or.inl ⟨by kernel_rfl, ?_⟩) hHeld ?_
              rotate_left
              · intro w hSw; (try dsimp only at hSw); (try obtain ⟨f0, f1⟩ := hSw); go_simp; (try with_reducible rfl)
              try simp only [Act.put, List.setIfInBounds_toArray, List.set_cons_zero, List.set_cons_succ]
              refine take_at (i := 8) (v := ?_) 47 rfl rfl (by kernel_rfl) (by kernel_rfl) (by kernel_rfl) (by kernel_rfl) (by kernel_rfl) (by kernel_rfl) (by kernel_rfl) (fun _ _ _ h => h) (Or.inl ⟨by kernel_rfl, ?_⟩) hHeld ?_
              rotate_left
              · intro w hSw; (try dsimp only at hSw); (try obtain ⟨f0, f1⟩ := hSw); go_simp; (try with_reducible rfl)
              try simp only [Act.put, List.setIfInBounds_toArray, List.set_cons_zero, List.set_cons_succ]
              refine take_at (i := 9) (v := ?_) 48 rfl rfl (by kernel_rfl) (by kernel_rfl) (by kernel_rfl) (by kernel_rfl) (by kernel_rfl) (by kernel_rfl) (by kernel_rfl) (fun _ _ _ h => h) (Or.inl ⟨by kernel_rfl, ?_⟩) hHeld ?_
              rotate_left
              · intro w hSw; (try dsimp only at hSw); (try obtain ⟨f0, f1⟩ := hSw); go_simp; (try with_reducible rfl)
              try simp only [Act.put, List.setIfInBounds_toArray, List.set_cons_zero, List.set_cons_succ]
              refine take_at (i := 10) (v := ?_) 49 rfl rfl (by kernel_rfl) (by kernel_rfl) (by kernel_rfl) (by kernel_rfl) (by kernel_rfl) (by kernel_rfl) (by kernel_rfl) (fun _ _ _ h => h) (Or.inl ⟨by kernel_rfl, ?_⟩) hHeld ?_
              rotate_left
              · intro w hSw; (try dsimp only at hSw); (try obtain ⟨f0, f1⟩ := hSw); go_simp; (try with_reducible rfl)
              try simp only [Act.put, List.setIfInBounds_toArray, List.set_cons_zero, List.set_cons_succ]
              refine take_at (i := 11) (v := ?_) 50 rfl rfl (by kernel_rfl) (by kernel_rfl) (by kernel_rfl) (by kernel_rfl) (by kernel_rfl) (by kernel_rfl) (by kernel_rfl) (fun _ _ _ h => h) (Or.inl ⟨by kernel_rfl, ?_⟩) hHeld ?_
              rotate_left
              · intro w hSw; (try dsimp only at hSw); (try obtain ⟨f0, f1⟩ := hSw); go_simp; (try with_reducible rfl)
              try simp only [Act.put, List.setIfInBounds_toArray, List.set_cons_zero, List.set_cons_succ]
              refine Ord.wpAnyU_one (i := 12) (by kernel_rfl) rfl (fun K hK => ?_)
              go_simp
              go_wp2_with (go_at_call 30; (with_reducible refine (CIx.out _).mono ?_); rintro e w6 ⟨rfl, hb6⟩; have hs6 : _ ∧ _ := ⟨(hb6.cell (p := ⟨gN, 2, none⟩) hlN).trans hHeld.1, (hb6.cell (p := ⟨gI, 2, none⟩) hlI).trans hHeld.2⟩; have HW6 : Hid (Below w5.heap.size w5 w6) := below2 HWd.out hb6; clear hb6)
              refine hK.out _ _ (fun _ => hs6) ?_
              clear hK K
              try simp only [Act.put, List.setIfInBounds_toArray, List.set_cons_zero, List.set_cons_succ]
              clear hHeld
              have hHeld := hs6
              refine take_at (i := 13) (v := ?_) 52 rfl rfl (by kernel_rfl) (by kernel_rfl) (by kernel_rfl) (by kernel_rfl) (by kernel_rfl) (by kernel_rfl) (by kernel_rfl) (fun _ _ _ h => h) (Or.inl ⟨by kernel_rfl, ?_⟩) hHeld ?_
              rotate_left
              · intro w hSw; (try dsimp only at hSw); skip; go_simp; (try with_reducible rfl)
              try simp only [Act.put, List.setIfInBounds_toArray, List.set_cons_zero, List.set_cons_succ]
              refine Ord.wpAnyU_one (i := 14) (by kernel_rfl) rfl (fun K hK => ?_)
              go_simp
              refine hK.out _ _ (fun _ => hs6) ?_
              clear hK K
              try simp only [Act.put, List.setIfInBounds_toArray, List.set_cons_zero, List.set_cons_succ]
              refine Ord.wpAnyU_done (by kernel_rfl) ?_ _
              go_wp2
              go_roundw
              case rel => exact ⟨.inr (.inr (.inr (.inl ⟨rfl, rfl⟩))), HW6⟩
              case measure => simp [intOf]
          rcases hk with ⟨rfl, rfl⟩ | hk
          · have cI := HLr.out.i3
            by_cases hx : r.ti = 0
            · have dx : (r.ti != 0) = false := by rw [hx]; rfl
              have e1 : Hid (T4 = T3) := by show _ = _; rw [HG.out.t4]; exact part_no _ hx _
              rw [hx] at cI dx
              go_wp2
              go_roundw
              case rel => exact ⟨.inr (.inr (.inr (.inr (⟨rfl, by rw [e1.out]⟩)))), HWr⟩
              case measure => simp [intOf]
            · have dx : (r.ti != 0) = true := bne_iff_ne.2 hx
              have cN := HLr.out.n3
              obtain ⟨B1, hB1⟩ : ∃ A : List UInt8, Hid (T3 ++ ([32] : List UInt8) = A) := ⟨_, Lib.hid rfl⟩
              obtain ⟨B2, hB2⟩ : ∃ A : List UInt8, Hid (B1 ++ nmTi = A) := ⟨_, Lib.hid rfl⟩
              obtain ⟨B3, hB3⟩ : ∃ A : List UInt8, Hid (B2 ++ ([61] : List UInt8) = A) := ⟨_, Lib.hid rfl⟩
              have li := Lib.itoa_length_le r.ti r4.1 r4.2
              have hn : (nmTi : List UInt8).length ≤ 10 := by decide
              have a1 : B1.length ≤ 201 := by rw [← hB1.out, List.length_append]; simp; omega
              have a2 : B2.length ≤ 211 := by rw [← hB2.out, List.length_append]; omega
              have a3 : B3.length ≤ 212 := by rw [← hB3.out, List.length_append]; simp; omega
              have y1 : ¬ 9223372036854775807 < (bs T3).size + 1 := fits (A := T3) (B := [32]) (by omega) (by simp)
              have y2 := fits (A := B1) (B := nmTi) (by omega) (by omega)
              have y3 : ¬ 9223372036854775807 < (bs B2).size + 1 := fits (A := B2) (B := [61]) (by omega) (by simp)
              have y4 := fits (A := B3) (B := itoa r.ti) (by omega) (by omega)
              have q1 : bs T3 ++ ByteArray.mk #[32] = bs B1 := (bs_append T3 [32]).trans (by rw [hB1.out])
              have q2 : bs B1 ++ bs nmTi = bs B2 := (bs_append _ _).trans (by rw [hB2.out])
              have q3 : bs B2 ++ ByteArray.mk #[61] = bs B3 := (bs_append B2 [61]).trans (by rw [hB3.out])
              have q4 : bs B3 ++ bs (itoa r.ti) = bs T4 := (bs_append _ _).trans (by rw [HG.out.t4, ← hB3.out, ← hB2.out, ← hB1.out]; unfold part; rw [if_neg hx]; simp)
              have CIx : Hid (∀ W, Calls Tryd.prog 30 #[.int .i64 r.ti] W fun e w' => e = .returned (.string (bs (itoa r.ti))) ∧ Below W.heap.size W w') := CI.out _ r4
              have hlN := HLr.out.ltN
              have hlI := HLr.out.ltI
              clear hB1 hB2 hB3 li hn a1 a2 a3
              generalize itoa r.ti = IT at *
              generalize hXN : bs nmTi = XN at *
              go_upto_region 12 with fail
              have hHeld : wr.drew.cell? ⟨gN, 3, none⟩ = some (.string XN) ∧ wr.drew.cell? ⟨gI, 3, none⟩ = some (.int .i64 r.ti) := ⟨cN, cI⟩
              have HWd : Hid (Below w5.heap.size w5 wr.drew) := below_dN HWr.out 1
              refine Ord.wp_region_U (fun W' => W'.cell? ⟨gN, 3, none⟩ = some (.string XN) ∧ W'.cell? ⟨gI, 3, none⟩ = some (.int .i64 r.ti)) [] (by kernel_rfl) ?_
              refine take_at (i := 0) (v := ?_) 39 rfl rfl (by kernel_rfl) (by kernel_rfl) (by kernel_rfl) (by kernel_rfl) (by kernel_rfl) (by kernel_rfl) (by kernel_rfl) (fun _ _ _ h => h) (Or.inl ⟨by kernel_rfl, ?_⟩) hHeld ?_
              rotate_left
              · intro w hSw; (try dsimp only at hSw); (try obtain ⟨f0, f1⟩ := hSw); go_simp; (try with_reducible rfl)
              try simp only [Act.put, List.setIfInBounds_toArray, List.set_cons_zero, List.set_cons_succ]
              refine take_at (i := 1) (v := ?_) 40 rfl rfl (by kernel_rfl) (by kernel_rfl) (by kernel_rfl) (by kernel_rfl) (by kernel_rfl) (by kernel_rfl) (by kernel_rfl) (fun _ _ _ h => h) (Or.inl ⟨by kernel_rfl, ?_⟩) hHeld ?_
              rotate_left
              · intro w hSw; (try dsimp only at hSw); (try obtain ⟨f0, f1⟩ := hSw); go_simp; (try with_reducible rfl)
              try simp only [Act.put, List.setIfInBounds_toArray, List.set_cons_zero, List.set_cons_succ]
              refine take_at (i := 2) (v := ?_) 41 rfl rfl (by kernel_rfl) (by kernel_rfl) (by kernel_rfl) (by kernel_rfl) (by kernel_rfl) (by kernel_rfl) (by kernel_rfl) (fun _ _ _ h => h) (Or.inl ⟨by kernel_rfl, ?_⟩) hHeld ?_
              rotate_left
              · intro w hSw; (try dsimp only at hSw); (try obtain ⟨f0, f1⟩ := hSw); go_simp; (try with_reducible rfl)
              try simp only [Act.put, List.setIfInBounds_toArray, List.set_cons_zero, List.set_cons_succ]
              refine take_at (i := 3) (v := ?_) 42 rfl rfl (by kernel_rfl) (by kernel_rfl) (by kernel_rfl) (by kernel_rfl) (by kernel_rfl) (by kernel_rfl) (by kernel_rfl) (fun _ _ _ h => h) (Or.inl ⟨by kernel_rfl, ?_⟩) hHeld ?_
              rotate_left
              · intro w hSw; (try dsimp only at hSw); (try obtain ⟨f0, f1⟩ := hSw); go_simp; (try with_reducible rfl)
              try simp only [Act.put, List.setIfInBounds_toArray, List.set_cons_zero, List.set_cons_succ]
              refine take_at (i := 4) (v := ?_) 43 rfl rfl (by kernel_rfl) (by kernel_rfl) (by kernel_rfl) (by kernel_rfl) (by kernel_rfl) (by kernel_rfl) (by kernel_rfl) (fun _ _ _ h => h) (Or.inl ⟨by kernel_rfl, ?_⟩) hHeld ?_
              rotate_left
              · intro w hSw; (try dsimp only at hSw); (try obtain ⟨f0, f1⟩ := hSw); go_simp; (try with_reducible rfl)
              try simp only [Act.put, List.setIfInBounds_toArray, List.set_cons_zero, List.set_cons_succ]
              refine take_at (i := 5) (v := ?_) 44 rfl rfl (by kernel_rfl) (by kernel_rfl) (by kernel_rfl) (by kernel_rfl) (by kernel_rfl) (by kernel_rfl) (by kernel_rfl) (fun _ _ _ h => h) (Or.inl ⟨by kernel_rfl, ?_⟩) hHeld ?_
              rotate_left
              · intro w hSw; (try dsimp only at hSw); (try obtain ⟨f0, f1⟩ := hSw); go_simp; (try with_reducible rfl)
              try simp only [Act.put, List.setIfInBounds_toArray, List.set_cons_zero, List.set_cons_succ]
              refine take_at (i := 6) (v := ?_) 45 rfl rfl (by kernel_rfl) (by kernel_rfl) (by kernel_rfl) (by kernel_rfl) (by kernel_rfl) (by kernel_rfl) (by kernel_rfl) (fun _ _ _ h => h) (Or.inl ⟨by kernel_rfl, ?_⟩) hHeld ?_
              rotate_left
              · intro w hSw; (try dsimp only at hSw); (try obtain ⟨f0, f1⟩ := hSw); go_simp; (try with_reducible rfl)
              try simp only [Act.put, List.setIfInBounds_toArray, List.set_cons_zero, List.set_cons_succ]
              refine take_at (i := 7) (v := ?_) 46 rfl rfl (by kernel_rfl) (by kernel_rfl) (by kernel_rfl) (by kernel_rfl) (by kernel_rfl) (by kernel_rfl) (by kernel_rfl) (fun _ _ _ h => h) (Or.inl ⟨by kernel_rfl, ?_⟩) hHeld ?_
              rotate_left
              · intro w hSw; (try dsimp only at hSw); (try obtain ⟨f0, f1⟩ := hSw); go_simp; (try with_reducible rfl)
              try simp only [Act.put, List.setIfInBounds_toArray, List.set_cons_zero, List.set_cons_succ]
              refine take_at (i := 8) (v := ?_) 47 rfl rfl (by kernel_rfl) (by kernel_rfl) (by kernel_rfl) (by kernel_rfl) (by kernel_rfl) (by kernel_rfl) (by kernel_rfl) (fun _ _ _ h => h) (Or.inl ⟨by kernel_rfl, ?_⟩) hHeld ?_
              rotate_left
              · intro w hSw; (try dsimp only at hSw); (try obtain ⟨f0, f1⟩ := hSw); go_simp; (try with_reducible rfl)
              try simp only [Act.put, List.setIfInBounds_toArray, List.set_cons_zero, List.set_cons_succ]
              refine take_at (i := 9) (v := ?_) 48 rfl rfl (by kernel_rfl) (by kernel_rfl) (by kernel_rfl) (by kernel_rfl) (by kernel_rfl) (by kernel_rfl) (by kernel_rfl) (fun _ _ _ h => h) (Or.inl ⟨by kernel_rfl, ?_⟩) hHeld ?_
              rotate_left
              · intro w hSw; (try dsimp only at hSw); (try obtain ⟨f0, f1⟩ := hSw); go_simp; (try with_reducible rfl)
              try simp only [Act.put, List.setIfInBounds_toArray, List.set_cons_zero, List.set_cons_succ]
              refine take_at (i := 10) (v := ?_) 49 rfl rfl (by kernel_rfl) (by kernel_rfl) (by kernel_rfl) (by kernel_rfl) (by kernel_rfl) (by kernel_rfl) (by kernel_rfl) (fun _ _ _ h => h) (Or.inl ⟨by kernel_rfl, ?_⟩) hHeld ?_
              rotate_left
              · intro w hSw; (try dsimp only at hSw); (try obtain ⟨f0, f1⟩ := hSw); go_simp; (try with_reducible rfl)
              try simp only [Act.put, List.setIfInBounds_toArray, List.set_cons_zero, List.set_cons_succ]
              refine take_at (i := 11) (v := ?_) 50 rfl rfl (by kernel_rfl) (by kernel_rfl) (by kernel_rfl) (by kernel_rfl) (by kernel_rfl) (by kernel_rfl) (by kernel_rfl) (fun _ _ _ h => h) (Or.inl ⟨by kernel_rfl, ?_⟩) hHeld ?_
              rotate_left
              · intro w hSw; (try dsimp only at hSw); (try obtain ⟨f0, f1⟩ := hSw); go_simp; (try with_reducible rfl)
              try simp only [Act.put, List.setIfInBounds_toArray, List.set_cons_zero, List.set_cons_succ]
              refine Ord.wpAnyU_one (i := 12) (by kernel_rfl) rfl (fun K hK => ?_)
              go_simp
              go_wp2_with (go_at_call 30; (with_reducible refine (CIx.out _).mono ?_); rintro e w6 ⟨rfl, hb6⟩; have hs6 : _ ∧ _ := ⟨(hb6.cell (p := ⟨gN, 3, none⟩) hlN).trans hHeld.1, (hb6.cell (p := ⟨gI, 3, none⟩) hlI).trans hHeld.2⟩; have HW6 : Hid (Below w5.heap.size w5 w6) := below2 HWd.out hb6; clear hb6)
              refine hK.out _ _ (fun _ => hs6) ?_
              clear hK K
              try simp only [Act.put, List.setIfInBounds_toArray, List.set_cons_zero, List.set_cons_succ]
              clear hHeld
              have hHeld := hs6
              refine take_at (i := 13) (v := ?_) 52 rfl rfl (by kernel_rfl) (by kernel_rfl) (by kernel_rfl) (by kernel_rfl) (by kernel_rfl) (by kernel_rfl) (by kernel_rfl) (fun _ _ _ h => h) (Or.inl ⟨by kernel_rfl, ?_⟩) hHeld ?_
              rotate_left
              · intro w hSw; (try dsimp only at hSw); skip; go_simp; (try with_reducible rfl)
              try simp only [Act.put, List.setIfInBounds_toArray, List.set_cons_zero, List.set_cons_succ]
              refine Ord.wpAnyU_one (i := 14) (by kernel_rfl) rfl (fun K hK => ?_)
              go_simp
              refine hK.out _ _ (fun _ => hs6) ?_
              clear hK K
              try simp only [Act.put, List.setIfInBounds_toArray, List.set_cons_zero, List.set_cons_succ]
              refine Ord.wpAnyU_done (by kernel_rfl) ?_ _
              go_wp2
              go_roundw
              case rel => exact ⟨.inr (.inr (.inr (.inr (⟨rfl, rfl⟩)))), HW6⟩
              case measure => simp [intOf]
          obtain ⟨rfl, rfl⟩ := hk
          go_wp2
          go_ret
          exact ⟨by rw [HV.out]; rfl, HW5.out.trans (HWr.out.mono HW5.out.size)⟩
    · have dz : ((E : Int) != 0) = true := bne_iff_ne.2 (by omega)
      have HV : Hid (TV = WD) := by show _ = _; rw [← hTV.out, ← hWD.out]; unfold textV; rw [if_pos hm, if_neg hz, word, hE]; rfl
      go_enter Tryd.func11, Tryd.ntmps11
      go_upto_region 1 with fail
      apply wp_region_lit
      refine load_rep rfl (.tmp 1) rfl w.heap.size rfl r HST.out ?_
      go_wp2_with (first | (go_at_call 17; (with_reducible refine (CB.out _).mono ?_); rintro e w1 ⟨rfl, hb1⟩; have HS1 := Lib.hid (HST.out.below hb1); have HW1 := Lib.hid (below2 (below_al (Below.refl w.heap.size w) _) hb1); clear hb1) | (go_at_call 29; (with_reducible refine (CW.out _).mono ?_); rintro e w2 ⟨rfl, HC2, hb2⟩; have HS2 := Lib.hid (HS1.out.below hb2); have HW2 := Lib.hid (below2 HW1.out hb2); obtain ⟨g0, -⟩ := HS2.out.five; have c2 : w2.cell? ⟨w1.heap.size, E, none⟩ = some (.string (bs WD)) := (by rw [← hWD.out]; exact HC2.out E hE15); rw [hE] at g0; clear hb2))
      go_ret
      exact ⟨by rw [HV.out]; rfl, HW2.out⟩
  · have dm : decide (May r) = false := decide_eq_false hm
    rw [dm] at CB
    have HV : Hid (TV = [63]) := by show _ = _; rw [← hTV.out]; unfold textV; rw [if_neg hm]
    rw [HV.out]
    go_enter Tryd.func11, Tryd.ntmps11
    go_upto_region 1 with fail
    apply wp_region_lit
    refine load_rep rfl (.tmp 1) rfl w.heap.size rfl r HST.out ?_
    go_wp2_with (go_at_call 17; (with_reducible refine (CB.out _).mono ?_); rintro e w1 ⟨rfl, hb1⟩; have HS1 := Lib.hid (HST.out.below hb1); have HW1 := Lib.hid (below2 (below_al (Below.refl w.heap.size w) _) hb1); clear hb1)
    go_ret
    exact ⟨rfl, HW1.out⟩
end Rep
end Go.Proofs.YtmaddebfoefckaaDoor
