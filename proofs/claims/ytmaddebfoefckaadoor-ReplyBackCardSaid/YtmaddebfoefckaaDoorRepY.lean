/- Replies as words: the walks. -/
import Derived.Test.YtmaddebfoefckaaDoorRepW
set_option linter.unusedSimpArgs false
set_option linter.unusedVariables false
namespace Go.Proofs.YtmaddebfoefckaaDoor
open Go.RowKit Go.Great Go.Sort
namespace Rep
open Pen (bs bs_append uintB intB I64 intS uintS doneS)
open Go.Lib (decDigits itoa)
/-- The library's tables are laid. -/
structure Tab (w : World) : Prop where
  sp : Lib.TabIs Tryd.prog w "strings.asciiSpace" .u8 Lib.asciiSpaceTab
  pw : Lib.TabIs Tryd.prog w "internal/strconv.uint64pow10" .u64 Lib.pow10Tab
theorem tab_below {name : String} {k : IntKind} {zs : List Int} {g : Nat} {w w' : World} (hgn : Tryd.prog.globalNamed name = some g) (h : Lib.TabIs Tryd.prog w name k zs) (hb : Below w.heap.size w w') : Lib.TabIs Tryd.prog w' name k zs := by
  unfold Lib.TabIs World.var? at h ⊢
  rw [hgn] at h ⊢
  simp only [Option.bind_some] at h ⊢
  have hlt : g < w.heap.size := by
    rcases Nat.lt_or_ge g w.heap.size with h' | h'
    · exact h'
    · rw [Array.getElem?_eq_none h'] at h; cases h
  rw [hb.block _ hlt]
  exact h
theorem Tab.below {w w' : World} (h : Tab w) (hb : Below w.heap.size w w') : Tab w' :=
  ⟨tab_below (g := 0) (by kernel_rfl) h.sp hb, tab_below (g := 2) (by kernel_rfl) h.pw hb⟩
theorem itoa_any (x : Int) (h : I64 x) (W : World) (hW : Tab W) : Calls Tryd.prog 28 #[.int .i64 x] W fun e w' => e = .returned (.string (bs (itoa x))) ∧ Below W.heap.size W w' := by
  refine (Tryd.strconv_Itoa x h.1 h.2 W hW.pw).mono ?_
  rintro e w' ⟨rfl, k, os, rfl⟩
  refine ⟨rfl, ⟨rfl, rfl, rfl, ?_, fun i hi => ?_⟩⟩
  · simp [grow]
  · show ((W.drewN k).heap ++ os)[i]? = _
    rw [Array.getElem?_append_left (by show i < W.heap.size; exact hi)]
    rfl
/-- The text of all words. -/
def wordsB : List UInt8 := (List.intersperse [32] wdL).flatten
theorem words_fields : Lib.fields wordsB = wdL := by decide +kernel
theorem words_ascii : ∀ b ∈ wordsB, b.toNat < 128 := by decide +kernel
theorem words_len : wordsB.length < 1000 := by decide +kernel
theorem wd_len : wdL.length = 15 := rfl
theorem fields_any (W : World) (hW : Tab W) : Calls Tryd.prog 27 #[.string (bs wordsB)] W fun e w' => e = .returned (.slice (some ⟨W.heap.size, 0, none⟩) 15 15) ∧ Hid (∀ k, k < 15 → w'.cell? ⟨W.heap.size, k, none⟩ = some (.string (bs (wdL.getD k [])))) ∧ Hid (Below W.heap.size W w') := by
  have h := Tryd.strings_Fields_laid (bs wordsB) W (by rw [Pen.bs_size]; have := words_len; omega) (fun j b hb => words_ascii b (List.mem_of_getElem? hb)) hW.sp
  refine h.mono ?_
  rintro e w' ⟨rfl, rfl⟩
  have e1 : Lib.fields (bs wordsB).data.toList = wdL := words_fields
  rw [e1]
  refine ⟨rfl, fun k hk => ?_, below_al (Below.refl _ _) _⟩
  have e2 : (wdL.map fun l => Value.string ⟨l.toArray⟩).toArray[k]? = some (.string (bs (wdL.getD k []))) := by
    rw [List.getElem?_toArray, List.getElem?_map, List.getD_eq_getElem?_getD, List.getElem?_eq_getElem (by rw [wd_len]; exact hk)]
    rfl
  have := heap_alloc_new W (.cells ((wdL.map fun l => Value.string ⟨l.toArray⟩).toArray) 9)
  unfold World.cell?
  rw [this]
  simpa using e2
/-- The numbers' words, one more at a time. -/
structure Grows (r : RepIn) (T1 T2 T3 T4 : List UInt8) : Prop where
  t1 : T1 = [111, 107] ++ part nmId r.id
  t2 : T2 = T1 ++ part nmN r.n
  t3 : T3 = T2 ++ part nmSt r.st
  t4 : T4 = T3 ++ part nmTi r.ti
theorem part_len (nm : List UInt8) (x : Int) (h : I64 x) (hn : nm.length ≤ 10) : (part nm x).length ≤ 40 := by
  unfold part
  split
  · simp
  · have := Lib.itoa_length_le x h.1 h.2
    simp
    omega
theorem Grows.len {r : RepIn} {T1 T2 T3 T4 : List UInt8} (h : Grows r T1 T2 T3 T4) (hr : Rok r) : T1.length ≤ 200 ∧ T2.length ≤ 200 ∧ T3.length ≤ 200 ∧ T4.length ≤ 200 := by
  obtain ⟨-, r1, r2, r3, r4⟩ := hr
  have l1 := part_len nmId r.id r1 (by decide)
  have l2 := part_len nmN r.n r2 (by decide)
  have l3 := part_len nmSt r.st r3 (by decide)
  have l4 := part_len nmTi r.ti r4 (by decide)
  rw [h.t4, h.t3, h.t2, h.t1]
  simp
  omega
theorem grows_ok {r : RepIn} {T1 T2 T3 T4 : List UInt8} (h : Grows r T1 T2 T3 T4) : okT r = T4 := by
  rw [h.t4, h.t3, h.t2, h.t1]
  unfold okT
  simp
theorem part_no (nm : List UInt8) {x : Int} (h : x = 0) (T : List UInt8) : T ++ part nm x = T := by
  unfold part
  rw [if_pos h, List.append_nil]
set_option maxRecDepth 100000 in
set_option maxHeartbeats 4000000 in
theorem text_any (r : RepIn) (hr : Rok r) (w : World) (ht : Tab w) : Calls Tryd.prog 10 #[.agg r.val] w fun x w' => x = .returned (.string (bs (textV r))) ∧ Below w.heap.size w w' := by
  have HST := Lib.hid (rp_new (w := w) rfl r)
  have HT := Lib.hid ht
  have CB : Hid (∀ W, Calls Tryd.prog 13 #[.agg r.val] W fun x w' => x = .returned (.bool (decide (May r))) ∧ Below W.heap.size W w') := fun W => is_any r W
  have CF : Hid (∀ W, Tab W → Calls Tryd.prog 27 #[.string (bs wordsB)] W fun e w' => e = .returned (.slice (some ⟨W.heap.size, 0, none⟩) 15 15) ∧ Hid (∀ k, k < 15 → w'.cell? ⟨W.heap.size, k, none⟩ = some (.string (bs (wdL.getD k [])))) ∧ Hid (Below W.heap.size W w')) := fun W h => fields_any W h
  have CN : Hid (∀ W, Calls Tryd.prog 15 #[.agg r.val] W fun x w' => x = .returned (.agg #[.int .i64 r.id, .int .i64 r.n, .int .i64 r.st, .int .i64 r.ti]) ∧ Below W.heap.size W w') := fun W => numbers_any r W
  have CI : Hid (∀ x, I64 x → ∀ W, Tab W → Calls Tryd.prog 28 #[.int .i64 x] W fun e w' => e = .returned (.string (bs (itoa x))) ∧ Below W.heap.size W w') := fun x h W hW => itoa_any x h W hW
  obtain ⟨TV, hTV⟩ : ∃ T, Hid (textV r = T) := ⟨_, rfl⟩
  rw [hTV.out]
  by_cases hm : May r
  · have dm : decide (May r) = true := decide_eq_true hm
    rw [dm] at CB
    obtain ⟨E, hE⟩ : ∃ E : Nat, r.err = (E : Int) := ⟨r.err.toNat, by have := hm.1; omega⟩
    have hE15 : E < 15 := by have := hm.2.1; omega
    have hE1 : (E : Int) < 15 := by omega
    have hE0 : (0 : Int) ≤ (E : Int) := by omega
    obtain ⟨WD, hWD⟩ : ∃ WD, Hid (wdL.getD E [] = WD) := ⟨_, rfl⟩
    go_enter Tryd.func10, Tryd.ntmps10
    go_upto_region 1 with fail
    apply wp_region_lit
    refine load_rep rfl (.tmp 1) rfl w.heap.size rfl r HST.out ?_
    go_upto_region 3 with (go_at_call 13; (with_reducible refine (CB.out _).mono ?_); rintro e w1 ⟨rfl, hb1⟩; have HS1 := Lib.hid (HST.out.below hb1); have HW1 := Lib.hid (below2 (below_al (Below.refl w.heap.size w) _) hb1); clear hb1)
    have hHeld : Rp w1.drew w.heap.size r := HS1.out.drew
    have HW1d : Hid (Below w.heap.size w w1.drew) := below_dN HW1.out 1
    refine Ord.wp_region_U (fun W' => Rp W' w.heap.size r) [] (by kernel_rfl) ?_
    refine take_at (i := 1) (v := ?_) 11 rfl rfl (by kernel_rfl) (by kernel_rfl) (by kernel_rfl) (by kernel_rfl) (by kernel_rfl) (by kernel_rfl) (by kernel_rfl) (fun _ _ _ h => h) (Or.inl ⟨by kernel_rfl, ?_⟩) hHeld ?_
    rotate_left
    · intro w hSw; (try dsimp only at hSw); (try obtain ⟨f0, f1, f2, f3, f4⟩ := Rp.five hSw); go_simp; (try with_reducible rfl)
    try simp only [Act.put, List.setIfInBounds_toArray, List.set_cons_zero, List.set_cons_succ]
    refine take_at (i := 2) (v := .int .i64 r.err) 12 rfl rfl (by kernel_rfl) (by kernel_rfl) (by kernel_rfl) (by kernel_rfl) (by kernel_rfl) (by kernel_rfl) (by kernel_rfl) (fun _ _ _ h => h) (Or.inl ⟨by kernel_rfl, ?_⟩) hHeld ?_
    · intro w hSw; (try dsimp only at hSw); (try obtain ⟨f0, f1, f2, f3, f4⟩ := Rp.five hSw); go_simp; (try with_reducible rfl)
    try simp only [Act.put, List.setIfInBounds_toArray, List.set_cons_zero, List.set_cons_succ]
    rw [hE]
    refine Ord.wpAnyU_one (i := 0) (by kernel_rfl) rfl (fun K hK => ?_)
    go_simp
    go_wp2_with (go_at_call 27; (refine (CF.out _ (HT.out.below HW1d.out)).mono ?_); rintro e w2 ⟨rfl, HC2, HB2⟩; have hs2 := Rp.below hHeld HB2.out; have HW2 := Lib.hid (below2 HW1d.out HB2.out); have c2 : w2.cell? ⟨w1.heap.size, E, none⟩ = some (.string (bs WD)) := by rw [← hWD.out]; exact HC2.out E hE15)
    refine hK.out _ _ (fun _ => hs2) ?_
    clear hK K
    try simp only [Act.put, List.setIfInBounds_toArray, List.set_cons_zero, List.set_cons_succ]
    skip
    refine Ord.wpAnyU_one (i := 3) (by kernel_rfl) rfl (fun K hK => ?_)
    go_simp
    refine hK.out _ _ (fun _ => hs2) ?_
    clear hK K
    try simp only [Act.put, List.setIfInBounds_toArray, List.set_cons_zero, List.set_cons_succ]
    refine Ord.wpAnyU_one (i := 4) (by kernel_rfl) rfl (fun K hK => ?_)
    go_simp
    refine hK.out _ _ (fun _ => hs2) ?_
    clear hK K
    try simp only [Act.put, List.setIfInBounds_toArray, List.set_cons_zero, List.set_cons_succ]
    refine Ord.wpAnyU_one (i := 5) (by kernel_rfl) rfl (fun K hK => ?_)
    go_simp
    refine hK.out _ _ (fun _ => hs2) ?_
    clear hK K
    try simp only [Act.put, List.setIfInBounds_toArray, List.set_cons_zero, List.set_cons_succ]
    refine Ord.wpAnyU_done (by kernel_rfl) ?_ _
    have HS2 := Lib.hid hs2
    clear hHeld hs2 HC2
    obtain ⟨g0, -⟩ := HS2.out.five
    by_cases hz : r.err = 0
    · have dz : (r.err != 0) = false := by rw [hz]; rfl
      have hE00 : E = 0 := by omega
      obtain ⟨T1, hT1⟩ : ∃ S, S = [111, 107] ++ part nmId r.id := ⟨_, rfl⟩
      obtain ⟨T2, hT2⟩ : ∃ S, S = T1 ++ part nmN r.n := ⟨_, rfl⟩
      obtain ⟨T3, hT3⟩ : ∃ S, S = T2 ++ part nmSt r.st := ⟨_, rfl⟩
      obtain ⟨T4, hT4⟩ : ∃ S, S = T3 ++ part nmTi r.ti := ⟨_, rfl⟩
      have HG : Hid (Grows r T1 T2 T3 T4) := ⟨hT1, hT2, hT3, hT4⟩
      obtain ⟨L1, L2, L3, L4⟩ := HG.out.len hr
      clear hT1 hT2 hT3 hT4
      have HV : Hid (TV = T4) := by show _ = _; rw [← hTV.out]; unfold textV; rw [if_pos hm, if_pos hz]; exact grows_ok HG.out
      obtain ⟨-, r1, r2, r3, r4⟩ := hr
      have e0 : WD = [111, 107] := by rw [← hWD.out, hE00]; rfl
      have L0 : WD.length ≤ 200 := by rw [e0]; decide
      have HG0 : Hid (T1 = WD ++ part nmId r.id) := by show _ = _; rw [e0]; exact HG.out.t1
      clear e0 hE00 hm dm c2
      rw [hz] at g0 dz
      go_upto_region 7 with fail
      refine wp_named fun w5 hw5 => ?_
      have HC5 : Hid (w5.cell? ⟨w2.heap.size, 0, none⟩ = some (.string (bs nmId)) ∧ w5.cell? ⟨w2.heap.size, 1, none⟩ = some (.string (bs nmN)) ∧ w5.cell? ⟨w2.heap.size, 2, none⟩ = some (.string (bs nmSt)) ∧ w5.cell? ⟨w2.heap.size, 3, none⟩ = some (.string (bs nmTi))) := by
        rw [hw5]
        refine ⟨?_, ?_, ?_, ?_⟩ <;> (rw [World.cell?_alloc_at _ _ _ _ (by simp)]; rfl)
      have HB5 : Hid (Below w2.heap.size w2 w5) := by rw [hw5]; exact below_al (Below.refl _ _) _
      have hg5 : w2.heap.size < w5.heap.size := by rw [hw5]; simp
      clear hw5
      have HS5 := Lib.hid (HS2.out.below HB5.out)
      have HW5 := Lib.hid (below2 HW2.out HB5.out)
      have HT5 := Lib.hid (HT.out.below HW5.out)
      have HC4 : Hid (∀ W, Below w5.heap.size w5 W → W.cell? ⟨w2.heap.size, 0, none⟩ = some (.string (bs nmId)) ∧ W.cell? ⟨w2.heap.size, 1, none⟩ = some (.string (bs nmN)) ∧ W.cell? ⟨w2.heap.size, 2, none⟩ = some (.string (bs nmSt)) ∧ W.cell? ⟨w2.heap.size, 3, none⟩ = some (.string (bs nmTi))) := fun W hW => ⟨(hW.cell (p := ⟨w2.heap.size, 0, none⟩) hg5).trans HC5.out.1, (hW.cell (p := ⟨w2.heap.size, 1, none⟩) hg5).trans HC5.out.2.1, (hW.cell (p := ⟨w2.heap.size, 2, none⟩) hg5).trans HC5.out.2.2.1, (hW.cell (p := ⟨w2.heap.size, 3, none⟩) hg5).trans HC5.out.2.2.2⟩
      clear HC5
      apply wp_region_lit
      refine load_rep rfl (.tmp 1) rfl w.heap.size rfl r HS5.out ?_
      go_wp2_with (go_at_call 15; (with_reducible refine (CN.out _).mono ?_); rintro e w7 ⟨rfl, hb7⟩; have HB7 : Hid (Below w5.heap.size w5 w7) := hb7; clear hb7)
      go_loopw [3, 22] (fun s i wr => ((i = .int .i64 0 ∧ s = .string (bs WD)) ∨ (i = .int .i64 1 ∧ s = .string (bs T1)) ∨ (i = .int .i64 2 ∧ s = .string (bs T2)) ∨ (i = .int .i64 3 ∧ s = .string (bs T3)) ∨ (i = .int .i64 4 ∧ s = .string (bs T4))) ∧ Hid (Below w5.heap.size w5 wr)) (fun _ i _ => 4 - (intOf i).toNat)
      case atStart => exact ⟨.inl ⟨rfl, rfl⟩, HB7⟩
      case round =>
        obtain ⟨hk, HWr⟩ := hrel
        rcases hk with ⟨rfl, rfl⟩ | hk
        · have ix := arr4_0 r.id r.n r.st r.ti wr
          by_cases hx : r.id = 0
          · have dx : (r.id != 0) = false := by rw [hx]; rfl
            have e1 : Hid (T1 = WD) := by show _ = _; rw [HG0.out]; exact part_no _ hx _
            rw [hx] at ix dx
            go_wp2
            go_roundw
            case rel => exact ⟨.inr (.inl ⟨rfl, by rw [e1.out]⟩), HWr⟩
            case measure => simp [intOf]
          · have dx : (r.id != 0) = true := bne_iff_ne.2 hx
            have cN := (HC4.out _ HWr.out).1
            obtain ⟨A1, hA1⟩ : ∃ A : List UInt8, Hid (([32] : List UInt8) ++ nmId = A) := ⟨_, rfl⟩
            obtain ⟨A2, hA2⟩ : ∃ A : List UInt8, Hid (A1 ++ ([61] : List UInt8) = A) := ⟨_, Lib.hid rfl⟩
            obtain ⟨A3, hA3⟩ : ∃ A, Hid (A2 ++ itoa r.id = A) := ⟨_, rfl⟩
            have li := Lib.itoa_length_le r.id r1.1 r1.2
            have a1 : A1.length ≤ 10 := by rw [← hA1.out]; decide
            have a2 : A2.length ≤ 11 := by rw [← hA2.out, List.length_append]; simp; omega
            have a3 : A3.length ≤ 40 := by rw [← hA3.out, List.length_append]; omega
            have y1 : ¬ 9223372036854775807 < 1 + (bs nmId).size := fits (A := [32]) (B := nmId) (by simp) (by decide)
            have y2 : ¬ 9223372036854775807 < (bs A1).size + 1 := fits (A := A1) (B := [61]) (by omega) (by simp)
            have y3 := fits (A := A2) (B := itoa r.id) (by omega) (by omega)
            have y4 := fits (A := WD) (B := A3) (by omega) (by omega)
            have q1 : ByteArray.mk #[32] ++ bs nmId = bs A1 := (bs_append [32] nmId).trans (by rw [hA1.out])
            have q2 : bs A1 ++ ByteArray.mk #[61] = bs A2 := (bs_append A1 [61]).trans (by rw [hA2.out])
            have q3 : bs A2 ++ bs (itoa r.id) = bs A3 := (bs_append _ _).trans (by rw [hA3.out])
            have q4 : bs WD ++ bs A3 = bs T1 := (bs_append _ _).trans (by rw [HG0.out, ← hA3.out, ← hA2.out, ← hA1.out]; unfold part; rw [if_neg hx]; simp)
            have CIx : Hid (∀ W, Tab W → Calls Tryd.prog 28 #[.int .i64 r.id] W fun e w' => e = .returned (.string (bs (itoa r.id))) ∧ Below W.heap.size W w') := CI.out _ r1
            clear hA1 hA2 hA3 li a1 a2 a3
            generalize itoa r.id = IT at *
            generalize hXN : bs nmId = XN at *
            go_upto_region 11 with fail
            have hHeld : wr.drew.cell? ⟨w2.heap.size, 0, none⟩ = some (.string XN) := cN
            have HWd : Hid (Below w5.heap.size w5 wr.drew) := below_dN HWr.out 1
            refine Ord.wp_region_U (fun W' => W'.cell? ⟨w2.heap.size, 0, none⟩ = some (.string XN)) [] (by kernel_rfl) ?_
            refine take_at (i := 0) (v := ?_) 28 rfl rfl (by kernel_rfl) (by kernel_rfl) (by kernel_rfl) (by kernel_rfl) (by kernel_rfl) (by kernel_rfl) (by kernel_rfl) (fun _ _ _ h => h) (Or.inl ⟨by kernel_rfl, ?_⟩) hHeld ?_
            rotate_left
            · intro w hSw; (try dsimp only at hSw); skip; go_simp; (try with_reducible rfl)
            try simp only [Act.put, List.setIfInBounds_toArray, List.set_cons_zero, List.set_cons_succ]
            refine take_at (i := 1) (v := ?_) 29 rfl rfl (by kernel_rfl) (by kernel_rfl) (by kernel_rfl) (by kernel_rfl) (by kernel_rfl) (by kernel_rfl) (by kernel_rfl) (fun _ _ _ h => h) (Or.inl ⟨by kernel_rfl, ?_⟩) hHeld ?_
            rotate_left
            · intro w hSw; (try dsimp only at hSw); skip; go_simp; (try with_reducible rfl)
            try simp only [Act.put, List.setIfInBounds_toArray, List.set_cons_zero, List.set_cons_succ]
            refine take_at (i := 2) (v := ?_) 30 rfl rfl (by kernel_rfl) (by kernel_rfl) (by kernel_rfl) (by kernel_rfl) (by kernel_rfl) (by kernel_rfl) (by kernel_rfl) (fun _ _ _ h => h) (Or.inl ⟨by kernel_rfl, ?_⟩) hHeld ?_
            rotate_left
            · intro w hSw; (try dsimp only at hSw); skip; go_simp; (try with_reducible rfl)
            try simp only [Act.put, List.setIfInBounds_toArray, List.set_cons_zero, List.set_cons_succ]
            refine take_at (i := 3) (v := ?_) 31 rfl rfl (by kernel_rfl) (by kernel_rfl) (by kernel_rfl) (by kernel_rfl) (by kernel_rfl) (by kernel_rfl) (by kernel_rfl) (fun _ _ _ h => h) (Or.inl ⟨by kernel_rfl, ?_⟩) hHeld ?_
            rotate_left
            · intro w hSw; (try dsimp only at hSw); skip; go_simp; (try with_reducible rfl)
            try simp only [Act.put, List.setIfInBounds_toArray, List.set_cons_zero, List.set_cons_succ]
            refine take_at (i := 4) (v := ?_) 32 rfl rfl (by kernel_rfl) (by kernel_rfl) (by kernel_rfl) (by kernel_rfl) (by kernel_rfl) (by kernel_rfl) (by kernel_rfl) (fun _ _ _ h => h) (Or.inl ⟨by kernel_rfl, ?_⟩) hHeld ?_
            rotate_left
            · intro w hSw; (try dsimp only at hSw); skip; go_simp; (try with_reducible rfl)
            try simp only [Act.put, List.setIfInBounds_toArray, List.set_cons_zero, List.set_cons_succ]
            refine take_at (i := 5) (v := ?_) 33 rfl rfl (by kernel_rfl) (by kernel_rfl) (by kernel_rfl) (by kernel_rfl) (by kernel_rfl) (by kernel_rfl) (by kernel_rfl) (fun _ _ _ h => h) (Or.inl ⟨by kernel_rfl, ?_⟩) hHeld ?_
            rotate_left
            · intro w hSw; (try dsimp only at hSw); skip; go_simp; (try with_reducible rfl)
            try simp only [Act.put, List.setIfInBounds_toArray, List.set_cons_zero, List.set_cons_succ]
            refine take_at (i := 6) (v := ?_) 34 rfl rfl (by kernel_rfl) (by kernel_rfl) (by kernel_rfl) (by kernel_rfl) (by kernel_rfl) (by kernel_rfl) (by kernel_rfl) (fun _ _ _ h => h) (Or.inl ⟨by kernel_rfl, ?_⟩) hHeld ?_
            rotate_left
            · intro w hSw; (try dsimp only at hSw); skip; go_simp; (try with_reducible rfl)
            try simp only [Act.put, List.setIfInBounds_toArray, List.set_cons_zero, List.set_cons_succ]
            refine Ord.wpAnyU_one (i := 7) (by kernel_rfl) rfl (fun K hK => ?_)
            go_simp
            go_wp2_with (go_at_call 28; (with_reducible refine (CIx.out _ (HT5.out.below HWd.out)).mono ?_); rintro e w6 ⟨rfl, hb6⟩; have hs6 : _ := (hb6.cell (p := ⟨w2.heap.size, 0, none⟩) (Nat.lt_of_lt_of_le hg5 HWd.out.size)).trans hHeld; have HW6 : Hid (Below w5.heap.size w5 w6) := below2 HWd.out hb6; clear hb6)
            refine hK.out _ _ (fun _ => hs6) ?_
            clear hK K
            try simp only [Act.put, List.setIfInBounds_toArray, List.set_cons_zero, List.set_cons_succ]
            clear hHeld
            have hHeld := hs6
            refine take_at (i := 8) (v := ?_) 36 rfl rfl (by kernel_rfl) (by kernel_rfl) (by kernel_rfl) (by kernel_rfl) (by kernel_rfl) (by kernel_rfl) (by kernel_rfl) (fun _ _ _ h => h) (Or.inl ⟨by kernel_rfl, ?_⟩) hHeld ?_
            rotate_left
            · intro w hSw; (try dsimp only at hSw); skip; go_simp; (try with_reducible rfl)
            try simp only [Act.put, List.setIfInBounds_toArray, List.set_cons_zero, List.set_cons_succ]
            refine take_at (i := 9) (v := ?_) 37 rfl rfl (by kernel_rfl) (by kernel_rfl) (by kernel_rfl) (by kernel_rfl) (by kernel_rfl) (by kernel_rfl) (by kernel_rfl) (fun _ _ _ h => h) (Or.inl ⟨by kernel_rfl, ?_⟩) hHeld ?_
            rotate_left
            · intro w hSw; (try dsimp only at hSw); skip; go_simp; (try with_reducible rfl)
            try simp only [Act.put, List.setIfInBounds_toArray, List.set_cons_zero, List.set_cons_succ]
            refine Ord.wpAnyU_one (i := 10) (by kernel_rfl) rfl (fun K hK => ?_)
            go_simp
            refine hK.out _ _ (fun _ => hs6) ?_
            clear hK K
            try simp only [Act.put, List.setIfInBounds_toArray, List.set_cons_zero, List.set_cons_succ]
            refine Ord.wpAnyU_done (by kernel_rfl) ?_ _
            go_wp2
            go_roundw
            case rel => exact ⟨.inr (.inl ⟨rfl, rfl⟩), HW6⟩
            case measure => simp [intOf]
        rcases hk with ⟨rfl, rfl⟩ | hk
        · have ix := arr4_1 r.id r.n r.st r.ti wr
          by_cases hx : r.n = 0
          · have dx : (r.n != 0) = false := by rw [hx]; rfl
            have e1 : Hid (T2 = T1) := by show _ = _; rw [HG.out.t2]; exact part_no _ hx _
            rw [hx] at ix dx
            go_wp2
            go_roundw
            case rel => exact ⟨.inr (.inr (.inl ⟨rfl, by rw [e1.out]⟩)), HWr⟩
            case measure => simp [intOf]
          · have dx : (r.n != 0) = true := bne_iff_ne.2 hx
            have cN := (HC4.out _ HWr.out).2.1
            obtain ⟨A1, hA1⟩ : ∃ A : List UInt8, Hid (([32] : List UInt8) ++ nmN = A) := ⟨_, rfl⟩
            obtain ⟨A2, hA2⟩ : ∃ A : List UInt8, Hid (A1 ++ ([61] : List UInt8) = A) := ⟨_, Lib.hid rfl⟩
            obtain ⟨A3, hA3⟩ : ∃ A, Hid (A2 ++ itoa r.n = A) := ⟨_, rfl⟩
            have li := Lib.itoa_length_le r.n r2.1 r2.2
            have a1 : A1.length ≤ 10 := by rw [← hA1.out]; decide
            have a2 : A2.length ≤ 11 := by rw [← hA2.out, List.length_append]; simp; omega
            have a3 : A3.length ≤ 40 := by rw [← hA3.out, List.length_append]; omega
            have y1 : ¬ 9223372036854775807 < 1 + (bs nmN).size := fits (A := [32]) (B := nmN) (by simp) (by decide)
            have y2 : ¬ 9223372036854775807 < (bs A1).size + 1 := fits (A := A1) (B := [61]) (by omega) (by simp)
            have y3 := fits (A := A2) (B := itoa r.n) (by omega) (by omega)
            have y4 := fits (A := T1) (B := A3) (by omega) (by omega)
            have q1 : ByteArray.mk #[32] ++ bs nmN = bs A1 := (bs_append [32] nmN).trans (by rw [hA1.out])
            have q2 : bs A1 ++ ByteArray.mk #[61] = bs A2 := (bs_append A1 [61]).trans (by rw [hA2.out])
            have q3 : bs A2 ++ bs (itoa r.n) = bs A3 := (bs_append _ _).trans (by rw [hA3.out])
            have q4 : bs T1 ++ bs A3 = bs T2 := (bs_append _ _).trans (by rw [HG.out.t2, ← hA3.out, ← hA2.out, ← hA1.out]; unfold part; rw [if_neg hx]; simp)
            have CIx : Hid (∀ W, Tab W → Calls Tryd.prog 28 #[.int .i64 r.n] W fun e w' => e = .returned (.string (bs (itoa r.n))) ∧ Below W.heap.size W w') := CI.out _ r2
            clear hA1 hA2 hA3 li a1 a2 a3
            generalize itoa r.n = IT at *
            generalize hXN : bs nmN = XN at *
            go_upto_region 11 with fail
            have hHeld : wr.drew.cell? ⟨w2.heap.size, 1, none⟩ = some (.string XN) := cN
            have HWd : Hid (Below w5.heap.size w5 wr.drew) := below_dN HWr.out 1
            refine Ord.wp_region_U (fun W' => W'.cell? ⟨w2.heap.size, 1, none⟩ = some (.string XN)) [] (by kernel_rfl) ?_
            refine take_at (i := 0) (v := ?_) 28 rfl rfl (by kernel_rfl) (by kernel_rfl) (by kernel_rfl) (by kernel_rfl) (by kernel_rfl) (by kernel_rfl) (by kernel_rfl) (fun _ _ _ h => h) (Or.inl ⟨by kernel_rfl, ?_⟩) hHeld ?_
            rotate_left
            · intro w hSw; (try dsimp only at hSw); skip; go_simp; (try with_reducible rfl)
            try simp only [Act.put, List.setIfInBounds_toArray, List.set_cons_zero, List.set_cons_succ]
            refine take_at (i := 1) (v := ?_) 29 rfl rfl (by kernel_rfl) (by kernel_rfl) (by kernel_rfl) (by kernel_rfl) (by kernel_rfl) (by kernel_rfl) (by kernel_rfl) (fun _ _ _ h => h) (Or.inl ⟨by kernel_rfl, ?_⟩) hHeld ?_
            rotate_left
            · intro w hSw; (try dsimp only at hSw); skip; go_simp; (try with_reducible rfl)
            try simp only [Act.put, List.setIfInBounds_toArray, List.set_cons_zero, List.set_cons_succ]
            refine take_at (i := 2) (v := ?_) 30 rfl rfl (by kernel_rfl) (by kernel_rfl) (by kernel_rfl) (by kernel_rfl) (by kernel_rfl) (by kernel_rfl) (by kernel_rfl) (fun _ _ _ h => h) (Or.inl ⟨by kernel_rfl, ?_⟩) hHeld ?_
            rotate_left
            · intro w hSw; (try dsimp only at hSw); skip; go_simp; (try with_reducible rfl)
            try simp only [Act.put, List.setIfInBounds_toArray, List.set_cons_zero, List.set_cons_succ]
            refine take_at (i := 3) (v := ?_) 31 rfl rfl (by kernel_rfl) (by kernel_rfl) (by kernel_rfl) (by kernel_rfl) (by kernel_rfl) (by kernel_rfl) (by kernel_rfl) (fun _ _ _ h => h) (Or.inl ⟨by kernel_rfl, ?_⟩) hHeld ?_
            rotate_left
            · intro w hSw; (try dsimp only at hSw); skip; go_simp; (try with_reducible rfl)
            try simp only [Act.put, List.setIfInBounds_toArray, List.set_cons_zero, List.set_cons_succ]
            refine take_at (i := 4) (v := ?_) 32 rfl rfl (by kernel_rfl) (by kernel_rfl) (by kernel_rfl) (by kernel_rfl) (by kernel_rfl) (by kernel_rfl) (by kernel_rfl) (fun _ _ _ h => h) (Or.inl ⟨by kernel_rfl, ?_⟩) hHeld ?_
            rotate_left
            · intro w hSw; (try dsimp only at hSw); skip; go_simp; (try with_reducible rfl)
            try simp only [Act.put, List.setIfInBounds_toArray, List.set_cons_zero, List.set_cons_succ]
            refine take_at (i := 5) (v := ?_) 33 rfl rfl (by kernel_rfl) (by kernel_rfl) (by kernel_rfl) (by kernel_rfl) (by kernel_rfl) (by kernel_rfl) (by kernel_rfl) (fun _ _ _ h => h) (Or.inl ⟨by kernel_rfl, ?_⟩) hHeld ?_
            rotate_left
            · intro w hSw; (try dsimp only at hSw); skip; go_simp; (try with_reducible rfl)
            try simp only [Act.put, List.setIfInBounds_toArray, List.set_cons_zero, List.set_cons_succ]
            refine take_at (i := 6) (v := ?_) 34 rfl rfl (by kernel_rfl) (by kernel_rfl) (by kernel_rfl) (by kernel_rfl) (by kernel_rfl) (by kernel_rfl) (by kernel_rfl) (fun _ _ _ h => h) (Or.inl ⟨by kernel_rfl, ?_⟩) hHeld ?_
            rotate_left
            · intro w hSw; (try dsimp only at hSw); skip; go_simp; (try with_reducible rfl)
            try simp only [Act.put, List.setIfInBounds_toArray, List.set_cons_zero, List.set_cons_succ]
            refine Ord.wpAnyU_one (i := 7) (by kernel_rfl) rfl (fun K hK => ?_)
            go_simp
            go_wp2_with (go_at_call 28; (with_reducible refine (CIx.out _ (HT5.out.below HWd.out)).mono ?_); rintro e w6 ⟨rfl, hb6⟩; have hs6 : _ := (hb6.cell (p := ⟨w2.heap.size, 1, none⟩) (Nat.lt_of_lt_of_le hg5 HWd.out.size)).trans hHeld; have HW6 : Hid (Below w5.heap.size w5 w6) := below2 HWd.out hb6; clear hb6)
            refine hK.out _ _ (fun _ => hs6) ?_
            clear hK K
            try simp only [Act.put, List.setIfInBounds_toArray, List.set_cons_zero, List.set_cons_succ]
            clear hHeld
            have hHeld := hs6
            refine take_at (i := 8) (v := ?_) 36 rfl rfl (by kernel_rfl) (by kernel_rfl) (by kernel_rfl) (by kernel_rfl) (by kernel_rfl) (by kernel_rfl) (by kernel_rfl) (fun _ _ _ h => h) (Or.inl ⟨by kernel_rfl, ?_⟩) hHeld ?_
            rotate_left
            · intro w hSw; (try dsimp only at hSw); skip; go_simp; (try with_reducible rfl)
            try simp only [Act.put, List.setIfInBounds_toArray, List.set_cons_zero, List.set_cons_succ]
            refine take_at (i := 9) (v := ?_) 37 rfl rfl (by kernel_rfl) (by kernel_rfl) (by kernel_rfl) (by kernel_rfl) (by kernel_rfl) (by kernel_rfl) (by kernel_rfl) (fun _ _ _ h => h) (Or.inl ⟨by kernel_rfl, ?_⟩) hHeld ?_
            rotate_left
            · intro w hSw; (try dsimp only at hSw); skip; go_simp; (try with_reducible rfl)
            try simp only [Act.put, List.setIfInBounds_toArray, List.set_cons_zero, List.set_cons_succ]
            refine Ord.wpAnyU_one (i := 10) (by kernel_rfl) rfl (fun K hK => ?_)
            go_simp
            refine hK.out _ _ (fun _ => hs6) ?_
            clear hK K
            try simp only [Act.put, List.setIfInBounds_toArray, List.set_cons_zero, List.set_cons_succ]
            refine Ord.wpAnyU_done (by kernel_rfl) ?_ _
            go_wp2
            go_roundw
            case rel => exact ⟨.inr (.inr (.inl ⟨rfl, rfl⟩)), HW6⟩
            case measure => simp [intOf]
        rcases hk with ⟨rfl, rfl⟩ | hk
        · have ix := arr4_2 r.id r.n r.st r.ti wr
          by_cases hx : r.st = 0
          · have dx : (r.st != 0) = false := by rw [hx]; rfl
            have e1 : Hid (T3 = T2) := by show _ = _; rw [HG.out.t3]; exact part_no _ hx _
            rw [hx] at ix dx
            go_wp2
            go_roundw
            case rel => exact ⟨.inr (.inr (.inr (.inl ⟨rfl, by rw [e1.out]⟩))), HWr⟩
            case measure => simp [intOf]
          · have dx : (r.st != 0) = true := bne_iff_ne.2 hx
            have cN := (HC4.out _ HWr.out).2.2.1
            obtain ⟨A1, hA1⟩ : ∃ A : List UInt8, Hid (([32] : List UInt8) ++ nmSt = A) := ⟨_, rfl⟩
            obtain ⟨A2, hA2⟩ : ∃ A : List UInt8, Hid (A1 ++ ([61] : List UInt8) = A) := ⟨_, Lib.hid rfl⟩
            obtain ⟨A3, hA3⟩ : ∃ A, Hid (A2 ++ itoa r.st = A) := ⟨_, rfl⟩
            have li := Lib.itoa_length_le r.st r3.1 r3.2
            have a1 : A1.length ≤ 10 := by rw [← hA1.out]; decide
            have a2 : A2.length ≤ 11 := by rw [← hA2.out, List.length_append]; simp; omega
            have a3 : A3.length ≤ 40 := by rw [← hA3.out, List.length_append]; omega
            have y1 : ¬ 9223372036854775807 < 1 + (bs nmSt).size := fits (A := [32]) (B := nmSt) (by simp) (by decide)
            have y2 : ¬ 9223372036854775807 < (bs A1).size + 1 := fits (A := A1) (B := [61]) (by omega) (by simp)
            have y3 := fits (A := A2) (B := itoa r.st) (by omega) (by omega)
            have y4 := fits (A := T2) (B := A3) (by omega) (by omega)
            have q1 : ByteArray.mk #[32] ++ bs nmSt = bs A1 := (bs_append [32] nmSt).trans (by rw [hA1.out])
            have q2 : bs A1 ++ ByteArray.mk #[61] = bs A2 := (bs_append A1 [61]).trans (by rw [hA2.out])
            have q3 : bs A2 ++ bs (itoa r.st) = bs A3 := (bs_append _ _).trans (by rw [hA3.out])
            have q4 : bs T2 ++ bs A3 = bs T3 := (bs_append _ _).trans (by rw [HG.out.t3, ← hA3.out, ← hA2.out, ← hA1.out]; unfold part; rw [if_neg hx]; simp)
            have CIx : Hid (∀ W, Tab W → Calls Tryd.prog 28 #[.int .i64 r.st] W fun e w' => e = .returned (.string (bs (itoa r.st))) ∧ Below W.heap.size W w') := CI.out _ r3
            clear hA1 hA2 hA3 li a1 a2 a3
            generalize itoa r.st = IT at *
            generalize hXN : bs nmSt = XN at *
            go_upto_region 11 with fail
            have hHeld : wr.drew.cell? ⟨w2.heap.size, 2, none⟩ = some (.string XN) := cN
            have HWd : Hid (Below w5.heap.size w5 wr.drew) := below_dN HWr.out 1
            refine Ord.wp_region_U (fun W' => W'.cell? ⟨w2.heap.size, 2, none⟩ = some (.string XN)) [] (by kernel_rfl) ?_
            refine take_at (i := 0) (v := ?_) 28 rfl rfl (by kernel_rfl) (by kernel_rfl) (by kernel_rfl) (by kernel_rfl) (by kernel_rfl) (by kernel_rfl) (by kernel_rfl) (fun _ _ _ h => h) (Or.inl ⟨by kernel_rfl, ?_⟩) hHeld ?_
            rotate_left
            · intro w hSw; (try dsimp only at hSw); skip; go_simp; (try with_reducible rfl)
            try simp only [Act.put, List.setIfInBounds_toArray, List.set_cons_zero, List.set_cons_succ]
            refine take_at (i := 1) (v := ?_) 29 rfl rfl (by kernel_rfl) (by kernel_rfl) (by kernel_rfl) (by kernel_rfl) (by kernel_rfl) (by kernel_rfl) (by kernel_rfl) (fun _ _ _ h => h) (Or.inl ⟨by kernel_rfl, ?_⟩) hHeld ?_
            rotate_left
            · intro w hSw; (try dsimp only at hSw); skip; go_simp; (try with_reducible rfl)
            try simp only [Act.put, List.setIfInBounds_toArray, List.set_cons_zero, List.set_cons_succ]
            refine take_at (i := 2) (v := ?_) 30 rfl rfl (by kernel_rfl) (by kernel_rfl) (by kernel_rfl) (by kernel_rfl) (by kernel_rfl) (by kernel_rfl) (by kernel_rfl) (fun _ _ _ h => h) (Or.inl ⟨by kernel_rfl, ?_⟩) hHeld ?_
            rotate_left
            · intro w hSw; (try dsimp only at hSw); skip; go_simp; (try with_reducible rfl)
            try simp only [Act.put, List.setIfInBounds_toArray, List.set_cons_zero, List.set_cons_succ]
            refine take_at (i := 3) (v := ?_) 31 rfl rfl (by kernel_rfl) (by kernel_rfl) (by kernel_rfl) (by kernel_rfl) (by kernel_rfl) (by kernel_rfl) (by kernel_rfl) (fun _ _ _ h => h) (Or.inl ⟨by kernel_rfl, ?_⟩) hHeld ?_
            rotate_left
            · intro w hSw; (try dsimp only at hSw); skip; go_simp; (try with_reducible rfl)
            try simp only [Act.put, List.setIfInBounds_toArray, List.set_cons_zero, List.set_cons_succ]
            refine take_at (i := 4) (v := ?_) 32 rfl rfl (by kernel_rfl) (by kernel_rfl) (by kernel_rfl) (by kernel_rfl) (by kernel_rfl) (by kernel_rfl) (by kernel_rfl) (fun _ _ _ h => h) (Or.inl ⟨by kernel_rfl, ?_⟩) hHeld ?_
            rotate_left
            · intro w hSw; (try dsimp only at hSw); skip; go_simp; (try with_reducible rfl)
            try simp only [Act.put, List.setIfInBounds_toArray, List.set_cons_zero, List.set_cons_succ]
            refine take_at (i := 5) (v := ?_) 33 rfl rfl (by kernel_rfl) (by kernel_rfl) (by kernel_rfl) (by kernel_rfl) (by kernel_rfl) (by kernel_rfl) (by kernel_rfl) (fun _ _ _ h => h) (Or.inl ⟨by kernel_rfl, ?_⟩) hHeld ?_
            rotate_left
            · intro w hSw; (try dsimp only at hSw); skip; go_simp; (try with_reducible rfl)
            try simp only [Act.put, List.setIfInBounds_toArray, List.set_cons_zero, List.set_cons_succ]
            refine take_at (i := 6) (v := ?_) 34 rfl rfl (by kernel_rfl) (by kernel_rfl) (by kernel_rfl) (by kernel_rfl) (by kernel_rfl) (by kernel_rfl) (by kernel_rfl) (fun _ _ _ h => h) (Or.inl ⟨by kernel_rfl, ?_⟩) hHeld ?_
            rotate_left
            · intro w hSw; (try dsimp only at hSw); skip; go_simp; (try with_reducible rfl)
            try simp only [Act.put, List.setIfInBounds_toArray, List.set_cons_zero, List.set_cons_succ]
            refine Ord.wpAnyU_one (i := 7) (by kernel_rfl) rfl (fun K hK => ?_)
            go_simp
            go_wp2_with (go_at_call 28; (with_reducible refine (CIx.out _ (HT5.out.below HWd.out)).mono ?_); rintro e w6 ⟨rfl, hb6⟩; have hs6 : _ := (hb6.cell (p := ⟨w2.heap.size, 2, none⟩) (Nat.lt_of_lt_of_le hg5 HWd.out.size)).trans hHeld; have HW6 : Hid (Below w5.heap.size w5 w6) := below2 HWd.out hb6; clear hb6)
            refine hK.out _ _ (fun _ => hs6) ?_
            clear hK K
            try simp only [Act.put, List.setIfInBounds_toArray, List.set_cons_zero, List.set_cons_succ]
            clear hHeld
            have hHeld := hs6
            refine take_at (i := 8) (v := ?_) 36 rfl rfl (by kernel_rfl) (by kernel_rfl) (by kernel_rfl) (by kernel_rfl) (by kernel_rfl) (by kernel_rfl) (by kernel_rfl) (fun _ _ _ h => h) (Or.inl ⟨by kernel_rfl, ?_⟩) hHeld ?_
            rotate_left
            · intro w hSw; (try dsimp only at hSw); skip; go_simp; (try with_reducible rfl)
            try simp only [Act.put, List.setIfInBounds_toArray, List.set_cons_zero, List.set_cons_succ]
            refine take_at (i := 9) (v := ?_) 37 rfl rfl (by kernel_rfl) (by kernel_rfl) (by kernel_rfl) (by kernel_rfl) (by kernel_rfl) (by kernel_rfl) (by kernel_rfl) (fun _ _ _ h => h) (Or.inl ⟨by kernel_rfl, ?_⟩) hHeld ?_
            rotate_left
            · intro w hSw; (try dsimp only at hSw); skip; go_simp; (try with_reducible rfl)
            try simp only [Act.put, List.setIfInBounds_toArray, List.set_cons_zero, List.set_cons_succ]
            refine Ord.wpAnyU_one (i := 10) (by kernel_rfl) rfl (fun K hK => ?_)
            go_simp
            refine hK.out _ _ (fun _ => hs6) ?_
            clear hK K
            try simp only [Act.put, List.setIfInBounds_toArray, List.set_cons_zero, List.set_cons_succ]
            refine Ord.wpAnyU_done (by kernel_rfl) ?_ _
            go_wp2
            go_roundw
            case rel => exact ⟨.inr (.inr (.inr (.inl ⟨rfl, rfl⟩))), HW6⟩
            case measure => simp [intOf]
        rcases hk with ⟨rfl, rfl⟩ | hk
        · have ix := arr4_3 r.id r.n r.st r.ti wr
          by_cases hx : r.ti = 0
          · have dx : (r.ti != 0) = false := by rw [hx]; rfl
            have e1 : Hid (T4 = T3) := by show _ = _; rw [HG.out.t4]; exact part_no _ hx _
            rw [hx] at ix dx
            go_wp2
            go_roundw
            case rel => exact ⟨.inr (.inr (.inr (.inr (⟨rfl, by rw [e1.out]⟩)))), HWr⟩
            case measure => simp [intOf]
          · have dx : (r.ti != 0) = true := bne_iff_ne.2 hx
            have cN := (HC4.out _ HWr.out).2.2.2
            obtain ⟨A1, hA1⟩ : ∃ A : List UInt8, Hid (([32] : List UInt8) ++ nmTi = A) := ⟨_, rfl⟩
            obtain ⟨A2, hA2⟩ : ∃ A : List UInt8, Hid (A1 ++ ([61] : List UInt8) = A) := ⟨_, Lib.hid rfl⟩
            obtain ⟨A3, hA3⟩ : ∃ A, Hid (A2 ++ itoa r.ti = A) := ⟨_, rfl⟩
            have li := Lib.itoa_length_le r.ti r4.1 r4.2
            have a1 : A1.length ≤ 10 := by rw [← hA1.out]; decide
            have a2 : A2.length ≤ 11 := by rw [← hA2.out, List.length_append]; simp; omega
            have a3 : A3.length ≤ 40 := by rw [← hA3.out, List.length_append]; omega
            have y1 : ¬ 9223372036854775807 < 1 + (bs nmTi).size := fits (A := [32]) (B := nmTi) (by simp) (by decide)
            have y2 : ¬ 9223372036854775807 < (bs A1).size + 1 := fits (A := A1) (B := [61]) (by omega) (by simp)
            have y3 := fits (A := A2) (B := itoa r.ti) (by omega) (by omega)
            have y4 := fits (A := T3) (B := A3) (by omega) (by omega)
            have q1 : ByteArray.mk #[32] ++ bs nmTi = bs A1 := (bs_append [32] nmTi).trans (by rw [hA1.out])
            have q2 : bs A1 ++ ByteArray.mk #[61] = bs A2 := (bs_append A1 [61]).trans (by rw [hA2.out])
            have q3 : bs A2 ++ bs (itoa r.ti) = bs A3 := (bs_append _ _).trans (by rw [hA3.out])
            have q4 : bs T3 ++ bs A3 = bs T4 := (bs_append _ _).trans (by rw [HG.out.t4, ← hA3.out, ← hA2.out, ← hA1.out]; unfold part; rw [if_neg hx]; simp)
            have CIx : Hid (∀ W, Tab W → Calls Tryd.prog 28 #[.int .i64 r.ti] W fun e w' => e = .returned (.string (bs (itoa r.ti))) ∧ Below W.heap.size W w') := CI.out _ r4
            clear hA1 hA2 hA3 li a1 a2 a3
            generalize itoa r.ti = IT at *
            generalize hXN : bs nmTi = XN at *
            go_upto_region 11 with fail
            have hHeld : wr.drew.cell? ⟨w2.heap.size, 3, none⟩ = some (.string XN) := cN
            have HWd : Hid (Below w5.heap.size w5 wr.drew) := below_dN HWr.out 1
            refine Ord.wp_region_U (fun W' => W'.cell? ⟨w2.heap.size, 3, none⟩ = some (.string XN)) [] (by kernel_rfl) ?_
            refine take_at (i := 0) (v := ?_) 28 rfl rfl (by kernel_rfl) (by kernel_rfl) (by kernel_rfl) (by kernel_rfl) (by kernel_rfl) (by kernel_rfl) (by kernel_rfl) (fun _ _ _ h => h) (Or.inl ⟨by kernel_rfl, ?_⟩) hHeld ?_
            rotate_left
            · intro w hSw; (try dsimp only at hSw); skip; go_simp; (try with_reducible rfl)
            try simp only [Act.put, List.setIfInBounds_toArray, List.set_cons_zero, List.set_cons_succ]
            refine take_at (i := 1) (v := ?_) 29 rfl rfl (by kernel_rfl) (by kernel_rfl) (by kernel_rfl) (by kernel_rfl) (by kernel_rfl) (by kernel_rfl) (by kernel_rfl) (fun _ _ _ h => h) (Or.inl ⟨by kernel_rfl, ?_⟩) hHeld ?_
            rotate_left
            · intro w hSw; (try dsimp only at hSw); skip; go_simp; (try with_reducible rfl)
            try simp only [Act.put, List.setIfInBounds_toArray, List.set_cons_zero, List.set_cons_succ]
            refine take_at (i := 2) (v := ?_) 30 rfl rfl (by kernel_rfl) (by kernel_rfl) (by kernel_rfl) (by kernel_rfl) (by kernel_rfl) (by kernel_rfl) (by kernel_rfl) (fun _ _ _ h => h) (Or.inl ⟨by kernel_rfl, ?_⟩) hHeld ?_
            rotate_left
            · intro w hSw; (try dsimp only at hSw); skip; go_simp; (try with_reducible rfl)
            try simp only [Act.put, List.setIfInBounds_toArray, List.set_cons_zero, List.set_cons_succ]
            refine take_at (i := 3) (v := ?_) 31 rfl rfl (by kernel_rfl) (by kernel_rfl) (by kernel_rfl) (by kernel_rfl) (by kernel_rfl) (by kernel_rfl) (by kernel_rfl) (fun _ _ _ h => h) (Or.inl ⟨by kernel_rfl, ?_⟩) hHeld ?_
            rotate_left
            · intro w hSw; (try dsimp only at hSw); skip; go_simp; (try with_reducible rfl)
            try simp only [Act.put, List.setIfInBounds_toArray, List.set_cons_zero, List.set_cons_succ]
            refine take_at (i := 4) (v := ?_) 32 rfl rfl (by kernel_rfl) (by kernel_rfl) (by kernel_rfl) (by kernel_rfl) (by kernel_rfl) (by kernel_rfl) (by kernel_rfl) (fun _ _ _ h => h) (Or.inl ⟨by kernel_rfl, ?_⟩) hHeld ?_
            rotate_left
            · intro w hSw; (try dsimp only at hSw); skip; go_simp; (try with_reducible rfl)
            try simp only [Act.put, List.setIfInBounds_toArray, List.set_cons_zero, List.set_cons_succ]
            refine take_at (i := 5) (v := ?_) 33 rfl rfl (by kernel_rfl) (by kernel_rfl) (by kernel_rfl) (by kernel_rfl) (by kernel_rfl) (by kernel_rfl) (by kernel_rfl) (fun _ _ _ h => h) (Or.inl ⟨by kernel_rfl, ?_⟩) hHeld ?_
            rotate_left
            · intro w hSw; (try dsimp only at hSw); skip; go_simp; (try with_reducible rfl)
            try simp only [Act.put, List.setIfInBounds_toArray, List.set_cons_zero, List.set_cons_succ]
            refine take_at (i := 6) (v := ?_) 34 rfl rfl (by kernel_rfl) (by kernel_rfl) (by kernel_rfl) (by kernel_rfl) (by kernel_rfl) (by kernel_rfl) (by kernel_rfl) (fun _ _ _ h => h) (Or.inl ⟨by kernel_rfl, ?_⟩) hHeld ?_
            rotate_left
            · intro w hSw; (try dsimp only at hSw); skip; go_simp; (try with_reducible rfl)
            try simp only [Act.put, List.setIfInBounds_toArray, List.set_cons_zero, List.set_cons_succ]
            refine Ord.wpAnyU_one (i := 7) (by kernel_rfl) rfl (fun K hK => ?_)
            go_simp
            go_wp2_with (go_at_call 28; (with_reducible refine (CIx.out _ (HT5.out.below HWd.out)).mono ?_); rintro e w6 ⟨rfl, hb6⟩; have hs6 : _ := (hb6.cell (p := ⟨w2.heap.size, 3, none⟩) (Nat.lt_of_lt_of_le hg5 HWd.out.size)).trans hHeld; have HW6 : Hid (Below w5.heap.size w5 w6) := below2 HWd.out hb6; clear hb6)
            refine hK.out _ _ (fun _ => hs6) ?_
            clear hK K
            try simp only [Act.put, List.setIfInBounds_toArray, List.set_cons_zero, List.set_cons_succ]
            clear hHeld
            have hHeld := hs6
            refine take_at (i := 8) (v := ?_) 36 rfl rfl (by kernel_rfl) (by kernel_rfl) (by kernel_rfl) (by kernel_rfl) (by kernel_rfl) (by kernel_rfl) (by kernel_rfl) (fun _ _ _ h => h) (Or.inl ⟨by kernel_rfl, ?_⟩) hHeld ?_
            rotate_left
            · intro w hSw; (try dsimp only at hSw); skip; go_simp; (try with_reducible rfl)
            try simp only [Act.put, List.setIfInBounds_toArray, List.set_cons_zero, List.set_cons_succ]
            refine take_at (i := 9) (v := ?_) 37 rfl rfl (by kernel_rfl) (by kernel_rfl) (by kernel_rfl) (by kernel_rfl) (by kernel_rfl) (by kernel_rfl) (by kernel_rfl) (fun _ _ _ h => h) (Or.inl ⟨by kernel_rfl, ?_⟩) hHeld ?_
            rotate_left
            · intro w hSw; (try dsimp only at hSw); skip; go_simp; (try with_reducible rfl)
            try simp only [Act.put, List.setIfInBounds_toArray, List.set_cons_zero, List.set_cons_succ]
            refine Ord.wpAnyU_one (i := 10) (by kernel_rfl) rfl (fun K hK => ?_)
            go_simp
            refine hK.out _ _ (fun _ => hs6) ?_
            clear hK K
            try simp only [Act.put, List.setIfInBounds_toArray, List.set_cons_zero, List.set_cons_succ]
            refine Ord.wpAnyU_done (by kernel_rfl) ?_ _
            go_wp2
            go_roundw
            case rel => exact ⟨.inr (.inr (.inr (.inr (⟨rfl, rfl⟩)))), HW6⟩
            case measure => simp [intOf]
        obtain ⟨rfl, rfl⟩ := hk
        go_wp2
        go_ret
        exact ⟨by rw [HV.out]; rfl, below2 HW5.out HWr.out⟩
    · have dz : (r.err != 0) = true := bne_iff_ne.2 hz
      have HV : Hid (TV = WD) := by show _ = _; rw [← hTV.out, ← hWD.out]; unfold textV; rw [if_pos hm, if_neg hz, word, hE]; rfl
      rw [hE] at g0 dz
      go_wp2
      go_ret
      exact ⟨by rw [HV.out]; rfl, HW2.out⟩
  · have dm : decide (May r) = false := decide_eq_false hm
    rw [dm] at CB
    have HV : Hid (TV = [63]) := by show _ = _; rw [← hTV.out]; unfold textV; rw [if_neg hm]
    rw [HV.out]
    go_enter Tryd.func10, Tryd.ntmps10
    go_upto_region 1 with fail
    apply wp_region_lit
    refine load_rep rfl (.tmp 1) rfl w.heap.size rfl r HST.out ?_
    go_wp2_with (go_at_call 13; (with_reducible refine (CB.out _).mono ?_); rintro e w1 ⟨rfl, hb1⟩; have HS1 := Lib.hid (HST.out.below hb1); have HW1 := Lib.hid (below2 (below_al (Below.refl w.heap.size w) _) hb1); clear hb1)
    go_ret
    exact ⟨rfl, HW1.out⟩
end Rep
end Go.Proofs.YtmaddebfoefckaaDoor
