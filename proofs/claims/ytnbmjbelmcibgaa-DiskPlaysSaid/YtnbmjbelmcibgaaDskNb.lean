/- Disks of any room, and those that nobody made: the walk. -/
import Derived.Test.YtnbmjbelmcibgaaDskSm
import Derived.Deep.RegionHeld3
set_option linter.unusedSimpArgs false
set_option linter.unusedVariables false
namespace Go.Proofs.Ytnbmjbelmcibgaa
open Go.RowKit Go.Great Go.Maps
namespace Dsk
theorem new_bad (w : World) (z : Int) (h : z < 0 ∨ 16777216 < z) : Calls Try.prog 8 #[.int .i64 z] w fun e w' => e = .returned (.tuple #[.pointer none, .int .i64 1]) ∧ w = w' := by
  by_cases h0 : z < 0
  · have d0 : decide (z < 0) = true := decide_eq_true h0
    go_enter Try.func8, Try.ntmps8
    go_wp2
    go_ret2
    exact ⟨rfl, rfl⟩
  · have d0 : decide (z < 0) = false := decide_eq_false h0
    have h1 : 16777216 < z := h.resolve_left h0
    have d1 : decide (16777216 < z) = true := decide_eq_true h1
    go_enter Try.func8, Try.ntmps8
    go_wp2
    go_ret2
    exact ⟨rfl, rfl⟩
theorem acts_one (W : World) (b : ActB) (T : TypeId) : Acts (W.alloc (.cells b.val T)) (some ⟨W.heap.size, 0, none⟩) [b] := fun i hi => by
  have : i = 0 := by simp at hi; exact hi
  subst this
  refine ⟨_, _, rfl, by simp, fun j hj => ?_⟩
  rw [World.cell?_alloc_at _ _ _ _ (by simp)]
  simp
/-- What lies while the two disks are asked. -/
structure Nb (X : World) (bx sb k : Nat) (p : Value) (b : ActB) (V : World) : Prop where
  bel : Below X.heap.size X V
  lt1 : bx < X.heap.size
  lt2 : sb < X.heap.size
  elt : X.cell? ⟨sb, k, none⟩ = some p
  act : ∀ j, j < 6 → X.cell? ⟨bx, j, none⟩ = b.val[j]?
  no : NoD X p
theorem Nb.next {X : World} {bx sb k : Nat} {p : Value} {b : ActB} {V V' : World} (h : Nb X bx sb k p b V) (hb : Below V.heap.size V V') : Nb X bx sb k p b V' := ⟨below2 h.bel hb, h.lt1, h.lt2, h.elt, h.act, h.no⟩
theorem Nb.dr {X : World} {bx sb k : Nat} {p : Value} {b : ActB} {V : World} (h : Nb X bx sb k p b V) : Nb X bx sb k p b V.drew := ⟨h.bel.drew, h.lt1, h.lt2, h.elt, h.act, h.no⟩
theorem nb_flat {X : World} {bx sb k : Nat} {p : Value} {b : ActB} {V : World} (h : Hid (Nb X bx sb k p b V)) : V.cell? ⟨sb, k, none⟩ = some p ∧ V.cell? ⟨bx, 0, none⟩ = some (.int .i64 b.a.kind) ∧ V.cell? ⟨bx, 1, none⟩ = some (.int .i64 b.a.n) ∧ V.cell? ⟨bx, 2, none⟩ = some (.string ⟨b.a.name.toArray⟩) ∧ V.cell? ⟨bx, 3, none⟩ = some (.string ⟨b.a.arg.toArray⟩) ∧ V.cell? ⟨bx, 4, none⟩ = some (.bool b.a.half) ∧ V.cell? ⟨bx, 5, none⟩ = some (.slice b.ka b.a.keep.length b.kc) ∧ Hid (Nb X bx sb k p b V) := by
  have hh := h.out
  have c : ∀ j, j < 6 → V.cell? ⟨bx, j, none⟩ = b.val[j]? := fun j hj => (hh.bel.cell (p := ⟨bx, j, none⟩) hh.lt1).trans (hh.act j hj)
  exact ⟨(hh.bel.cell (p := ⟨sb, k, none⟩) hh.lt2).trans hh.elt, c 0 (by decide), c 1 (by decide), c 2 (by decide), c 3 (by decide), c 4 (by decide), c 5 (by decide), h⟩
set_option maxRecDepth 100000 in
set_option maxHeartbeats 4000000 in
theorem nobody_walk (z : Int) (hz : (Lit.int .i64 z).wf = true) (v1 : Value) (b : ActB) {w : World} (hb : IsAct w v1 b) : Calls Try.prog 6 #[.int .i64 z, v1] w fun e w' => e = .returned (.bool true) ∧ Below w.heap.size w w' := by
  obtain ⟨rfl, hb⟩ := hb
  have AW : Hid (∀ W, Calls Try.prog 7 #[] W fun e w' => e = .returned (.bool true) ∧ Below W.heap.size W w') := awake_any
  have SM : Hid (∀ (W : World) (k : Nat), W.heap.size = k → Calls Try.prog 15 #[.slice (some ⟨k, 0, none⟩) 1 1, .int .i64 1] (W.alloc (.cells b.val 40)) fun e w' => (∃ r, e = .returned (.bool r) ∧ (r = true → 1 ≤ 1 ∧ ∀ i, i < 1 → Few3 ([b].getD i noA))) ∧ Below (W.alloc (.cells b.val 40)).heap.size (W.alloc (.cells b.val 40)) w') := fun W k e => by
    subst e
    exact small_any _ _ _ [b] (by show 1 ≤ 2 ^ 63 - 1; omega) (acts_one W b _) 1 (by decide)
  have DN : Hid (∀ W p, NoD W p → Calls Try.prog 16 #[p, .agg b.val] W fun e w' => e = .returned (.tuple #[.string ⟨#[]⟩, .int .i64 (if b.a.kind = 5 then 0 else 1)]) ∧ Below W.heap.size W w') := fun W p h => do_no W p h b
  have CN : Hid (∀ W p, NoD W p → Calls Try.prog 24 #[p] W fun e w' => e = .returned (.slice none 0 0) ∧ W = w') := names_no
  have CU : Hid (∀ W p, NoD W p → Calls Try.prog 19 #[p] W fun e w' => e = .returned (.int .i64 0) ∧ W = w') := used_no
  have CO : Hid (∀ W p, NoD W p → Calls Try.prog 21 #[p] W fun e w' => e = .returned (.int .i64 0) ∧ W = w') := ops_no
  have CD : Hid (∀ W p, NoD W p → Calls Try.prog 22 #[p] W fun e w' => e = .returned (.bool true) ∧ W = w') := dead_no
  obtain ⟨⟨kind, nn, name, arg, half, keep⟩, ka, kc⟩ := b
  unfold ActB.val at *
  dsimp only at *
  by_cases hz0 : 0 ≤ z ∧ z ≤ 16777216
  · have d0 : decide (0 ≤ z) = true := decide_eq_true hz0.1
    have d1 : decide (z ≤ 16777216) = true := decide_eq_true hz0.2
    have NG : Hid (∀ W, Calls Try.prog 8 #[.int .i64 z] W fun e w' => e = .returned (.tuple #[.pointer (some ⟨W.heap.size + 1, 0, none⟩), .int .i64 0]) ∧ Hid (PD w' (W.heap.size + 1) W.heap.size 0 (newD z)) ∧ Hid (Below W.heap.size W w')) := fun W => new_any W z hz0
    go_enter Try.func6, Try.ntmps6
    go_upto_region 8 with (first
      | (go_at_call 15; (with_reducible refine (SM.out _ _ (by simp)).mono ?_); rintro e w1 ⟨⟨r, rfl, hr⟩, hb1⟩; cases r)
      | (go_at_call 7; (with_reducible refine (AW.out _).mono ?_); rintro e w9 ⟨rfl, hb9⟩)
      | (go_at_call 8; (with_reducible refine (NG.out _).mono ?_); rintro e w2 ⟨rfl, -, HB2⟩))
    · go_ret
      exact ⟨rfl, below2 (below2 (below_al (below_al (Below.refl _ _) _) _) hb1) hb9⟩
    · have hb0 : Below w.heap.size w w1 := below2 (below_al (below_al (Below.refl _ _) _) _) hb1
      have hl1 : w.heap.size < w1.heap.size := by have := hb1.size; simp at this; omega
      have ha1 : ∀ j, j < 6 → w1.cell? ⟨w.heap.size, j, none⟩ = (#[.int .i64 kind, .int .i64 nn, .string ⟨name.toArray⟩, .string ⟨arg.toArray⟩, .bool half, .slice ka keep.length kc] : Array Value)[j]? := fun j hj => by
        rw [hb1.cell (p := ⟨w.heap.size, j, none⟩) (by simp; omega), (below_al (Below.refl _ _) _).cell (p := ⟨w.heap.size, j, none⟩) (by simp), World.cell?_alloc_at _ _ _ _ rfl]
      have HB : Hid (Below w.heap.size w w2) := below2 hb0 HB2.out
      have HLT : Hid (w.heap.size < w2.heap.size) := Nat.lt_of_lt_of_le hl1 HB2.out.size
      have HAC : Hid (∀ j, j < 6 → w2.cell? ⟨w.heap.size, j, none⟩ = (#[.int .i64 kind, .int .i64 nn, .string ⟨name.toArray⟩, .string ⟨arg.toArray⟩, .bool half, .slice ka keep.length kc] : Array Value)[j]?) := fun j hj => (HB2.out.cell (p := ⟨w.heap.size, j, none⟩) hl1).trans (ha1 j hj)
      have hXb : Below w.heap.size w ((w2.alloc (.cells #[.map none, .int .i64 0, .int .i64 0, .int .i64 0, .bool false, .bool false] 57)).alloc (.cells #[.pointer none, .pointer (some ⟨w2.heap.size, 0, none⟩)] 25)) := below_al (below_al HB.out _) _
      have hXw : Below w2.heap.size w2 ((w2.alloc (.cells #[.map none, .int .i64 0, .int .i64 0, .int .i64 0, .bool false, .bool false] 57)).alloc (.cells #[.pointer none, .pointer (some ⟨w2.heap.size, 0, none⟩)] 25)) := below_al (below_al (Below.refl _ _) _) _
      have hlt : w.heap.size < w2.heap.size := HLT.out
      have hac : ∀ j, j < 6 → ((w2.alloc (.cells #[.map none, .int .i64 0, .int .i64 0, .int .i64 0, .bool false, .bool false] 57)).alloc (.cells #[.pointer none, .pointer (some ⟨w2.heap.size, 0, none⟩)] 25)).cell? ⟨w.heap.size, j, none⟩ = (#[.int .i64 kind, .int .i64 nn, .string ⟨name.toArray⟩, .string ⟨arg.toArray⟩, .bool half, .slice ka keep.length kc] : Array Value)[j]? := fun j hj => (hXw.cell (p := ⟨w.heap.size, j, none⟩) hlt).trans (HAC.out j hj)
      have hs0 : ((w2.alloc (.cells #[.map none, .int .i64 0, .int .i64 0, .int .i64 0, .bool false, .bool false] 57)).alloc (.cells #[.pointer none, .pointer (some ⟨w2.heap.size, 0, none⟩)] 25)).cell? ⟨w2.heap.size + 1, 0, none⟩ = some (.pointer none) := by
        rw [World.cell?_alloc_at _ _ _ _ (by simp)]; rfl
      have hs1 : ((w2.alloc (.cells #[.map none, .int .i64 0, .int .i64 0, .int .i64 0, .bool false, .bool false] 57)).alloc (.cells #[.pointer none, .pointer (some ⟨w2.heap.size, 0, none⟩)] 25)).cell? ⟨w2.heap.size + 1, 1, none⟩ = some (.pointer (some ⟨w2.heap.size, 0, none⟩)) := by
        rw [World.cell?_alloc_at _ _ _ _ (by simp)]; rfl
      have hz1 : ((w2.alloc (.cells #[.map none, .int .i64 0, .int .i64 0, .int .i64 0, .bool false, .bool false] 57)).alloc (.cells #[.pointer none, .pointer (some ⟨w2.heap.size, 0, none⟩)] 25)).cell? ⟨w2.heap.size, 0, none⟩ = some (.map none) := by
        rw [(below_al (Below.refl _ _) _).cell (p := ⟨w2.heap.size, 0, none⟩) (by simp), World.cell?_alloc_at _ _ _ _ rfl]; rfl
      have hxs : w2.heap.size + 1 < ((w2.alloc (.cells #[.map none, .int .i64 0, .int .i64 0, .int .i64 0, .bool false, .bool false] 57)).alloc (.cells #[.pointer none, .pointer (some ⟨w2.heap.size, 0, none⟩)] 25)).heap.size := by simp
      generalize ((w2.alloc (.cells #[.map none, .int .i64 0, .int .i64 0, .int .i64 0, .bool false, .bool false] 57)).alloc (.cells #[.pointer none, .pointer (some ⟨w2.heap.size, 0, none⟩)] 25)) = X at *
      have n0 : NoD X (.pointer none) := noD_nil X
      have n1 : NoD X (.pointer (some ⟨w2.heap.size, 0, none⟩)) := noD_zero X _ (by omega) hz1
      have hcell : ∀ i, i < 2 → ∃ p, Hid (Nb X w.heap.size (w2.heap.size + 1) i p ⟨⟨kind, nn, name, arg, half, keep⟩, ka, kc⟩ X) := fun i hi => by
        match i, hi with
        | 0, _ => exact ⟨_, ⟨Below.refl _ _, by omega, hxs, hs0, hac, n0⟩⟩
        | 1, _ => exact ⟨_, ⟨Below.refl _ _, by omega, hxs, hs1, hac, n1⟩⟩
      have HXB := Lib.hid hXb
      clear hXb hXw hac hs0 hs1 hz1 n0 n1
      generalize w2.heap.size + 1 = sb at *
      go_loopw [8] (fun v wr => ∃ i : Nat, i ≤ 2 ∧ v = .int .i64 (i : Int) ∧ Hid (Below X.heap.size X wr)) (fun v _ => 2 - (intOf v).toNat)
      case atStart => exact ⟨0, by omega, rfl, Below.refl _ _⟩
      case round =>
        obtain ⟨i, hi2, rfl, HR⟩ := hrel
        by_cases hi : i < 2
        · have di : decide ((i : Int) < 2) = true := decide_eq_true (by omega)
          obtain ⟨p, HN0⟩ := hcell i hi
          have HN : Hid (Nb X w.heap.size sb i p ⟨⟨kind, nn, name, arg, half, keep⟩, ka, kc⟩ wr) := ⟨HR.out, HN0.out.lt1, HN0.out.lt2, HN0.out.elt, HN0.out.act, HN0.out.no⟩
          clear HN0 hcell
          have hi1 : (i : Int) < 2 := by omega
          by_cases k5 : kind = 5
          · subst k5
            have DN5 : Hid (∀ W p, NoD W p → Calls Try.prog 16 #[p, .agg #[.int .i64 5, .int .i64 nn, .string ⟨name.toArray⟩, .string ⟨arg.toArray⟩, .bool half, .slice ka keep.length kc]] W fun e w' => e = .returned (.tuple #[.string ⟨#[]⟩, .int .i64 0]) ∧ Below W.heap.size W w') := DN.out
            go_upto_region 10 with (fail)
            have HN := Lib.hid HN.out.dr
            go_region_held3 (fun V => V.cell? ⟨sb, i, none⟩ = some p ∧ V.cell? ⟨w.heap.size, 0, none⟩ = some (.int .i64 5) ∧ V.cell? ⟨w.heap.size, 1, none⟩ = some (.int .i64 nn) ∧ V.cell? ⟨w.heap.size, 2, none⟩ = some (.string ⟨name.toArray⟩) ∧ V.cell? ⟨w.heap.size, 3, none⟩ = some (.string ⟨arg.toArray⟩) ∧ V.cell? ⟨w.heap.size, 4, none⟩ = some (.bool half) ∧ V.cell? ⟨w.heap.size, 5, none⟩ = some (.slice ka keep.length kc) ∧ Hid (Nb X w.heap.size sb i p ⟨⟨5, nn, name, arg, half, keep⟩, ka, kc⟩ V)) (first | exact nb_flat HN2 | exact nb_flat HN)
              ((go_at_call 16; (have tok := HN; (with_reducible refine (DN5.out _ _ (HN.out.no.below HN.out.bel)).mono ?_); rintro e w4 ⟨rfl, hb4⟩; clear tok; have HN2 := Lib.hid (HN.out.next hb4))))
            obtain ⟨q, y0, y1, y2, y3, y4, y5, -⟩ := nb_flat HN2
            clear y1 y2 y3 y4 y5
            go_wp2_with (first
              | (go_at_call 24; (with_reducible refine (CN.out _ _ (HN2.out.no.below HN2.out.bel)).mono ?_); rintro e w5 ⟨rfl, rfl⟩)
              | (go_at_call 19; (with_reducible refine (CU.out _ _ (HN2.out.no.below HN2.out.bel)).mono ?_); rintro e w5 ⟨rfl, rfl⟩)
              | (go_at_call 21; (with_reducible refine (CO.out _ _ (HN2.out.no.below HN2.out.bel)).mono ?_); rintro e w5 ⟨rfl, rfl⟩)
              | (go_at_call 22; (with_reducible refine (CD.out _ _ (HN2.out.no.below HN2.out.bel)).mono ?_); rintro e w5 ⟨rfl, rfl⟩))
            go_roundw
            case rel => exact ⟨i + 1, by omega, by go_num, HN2.out.bel⟩
            case measure => simp [intOf]; omega
          · skip
            have DN5 : Hid (∀ W p, NoD W p → Calls Try.prog 16 #[p, .agg #[.int .i64 kind, .int .i64 nn, .string ⟨name.toArray⟩, .string ⟨arg.toArray⟩, .bool half, .slice ka keep.length kc]] W fun e w' => e = .returned (.tuple #[.string ⟨#[]⟩, .int .i64 1]) ∧ Below W.heap.size W w') := fun W p h => by
              have := DN.out W p h
              rw [if_neg k5] at this
              exact this
            have bk5 : (kind != 5) = true := bne_iff_ne.2 k5
            go_upto_region 10 with (fail)
            have HN := Lib.hid HN.out.dr
            go_region_held3 (fun V => V.cell? ⟨sb, i, none⟩ = some p ∧ V.cell? ⟨w.heap.size, 0, none⟩ = some (.int .i64 kind) ∧ V.cell? ⟨w.heap.size, 1, none⟩ = some (.int .i64 nn) ∧ V.cell? ⟨w.heap.size, 2, none⟩ = some (.string ⟨name.toArray⟩) ∧ V.cell? ⟨w.heap.size, 3, none⟩ = some (.string ⟨arg.toArray⟩) ∧ V.cell? ⟨w.heap.size, 4, none⟩ = some (.bool half) ∧ V.cell? ⟨w.heap.size, 5, none⟩ = some (.slice ka keep.length kc) ∧ Hid (Nb X w.heap.size sb i p ⟨⟨kind, nn, name, arg, half, keep⟩, ka, kc⟩ V)) (first | exact nb_flat HN2 | exact nb_flat HN)
              ((go_at_call 16; (have tok := HN; (with_reducible refine (DN5.out _ _ (HN.out.no.below HN.out.bel)).mono ?_); rintro e w4 ⟨rfl, hb4⟩; clear tok; have HN2 := Lib.hid (HN.out.next hb4))))
            obtain ⟨q, y0, y1, y2, y3, y4, y5, -⟩ := nb_flat HN2
            clear y1 y2 y3 y4 y5
            go_wp2_with (first
              | (go_at_call 24; (with_reducible refine (CN.out _ _ (HN2.out.no.below HN2.out.bel)).mono ?_); rintro e w5 ⟨rfl, rfl⟩)
              | (go_at_call 19; (with_reducible refine (CU.out _ _ (HN2.out.no.below HN2.out.bel)).mono ?_); rintro e w5 ⟨rfl, rfl⟩)
              | (go_at_call 21; (with_reducible refine (CO.out _ _ (HN2.out.no.below HN2.out.bel)).mono ?_); rintro e w5 ⟨rfl, rfl⟩)
              | (go_at_call 22; (with_reducible refine (CD.out _ _ (HN2.out.no.below HN2.out.bel)).mono ?_); rintro e w5 ⟨rfl, rfl⟩))
            go_roundw
            case rel => exact ⟨i + 1, by omega, by go_num, HN2.out.bel⟩
            case measure => simp [intOf]; omega
        · have di : decide ((i : Int) < 2) = false := decide_eq_false (by omega)
          go_wp2_with (go_at_call 7; (with_reducible refine (AW.out _).mono ?_); rintro e w9 ⟨rfl, hb9⟩)
          go_ret
          exact ⟨rfl, below2 (HXB.out.trans (HR.out.mono HXB.out.size)) hb9⟩
  · have NB : Hid (∀ W, Calls Try.prog 8 #[.int .i64 z] W fun e w' => e = .returned (.tuple #[.pointer none, .int .i64 1]) ∧ W = w') := fun W => new_bad W z (by omega)
    by_cases hz1 : 0 ≤ z
    · have d0 : decide (0 ≤ z) = true := decide_eq_true hz1
      have d1 : decide (z ≤ 16777216) = false := decide_eq_false (by omega)
      go_enter Try.func6, Try.ntmps6
      go_upto_region 8 with (first
        | (go_at_call 15; (with_reducible refine (SM.out _ _ (by simp)).mono ?_); rintro e w1 ⟨⟨r, rfl, hr⟩, hb1⟩; cases r)
        | (go_at_call 7; (with_reducible refine (AW.out _).mono ?_); rintro e w9 ⟨rfl, hb9⟩)
        | (go_at_call 8; (with_reducible refine (NB.out _).mono ?_); rintro e w2 ⟨rfl, rfl⟩))
      · go_ret
        exact ⟨rfl, below2 (below2 (below_al (below_al (Below.refl _ _) _) _) hb1) hb9⟩
      · have hb0 : Below w.heap.size w w1 := below2 (below_al (below_al (Below.refl _ _) _) _) hb1
        have hl1 : w.heap.size < w1.heap.size := by have := hb1.size; simp at this; omega
        have ha1 : ∀ j, j < 6 → w1.cell? ⟨w.heap.size, j, none⟩ = (#[.int .i64 kind, .int .i64 nn, .string ⟨name.toArray⟩, .string ⟨arg.toArray⟩, .bool half, .slice ka keep.length kc] : Array Value)[j]? := fun j hj => by
          rw [hb1.cell (p := ⟨w.heap.size, j, none⟩) (by simp; omega), (below_al (Below.refl _ _) _).cell (p := ⟨w.heap.size, j, none⟩) (by simp), World.cell?_alloc_at _ _ _ _ rfl]
        have HB : Hid (Below w.heap.size w w1) := hb0
        have HLT : Hid (w.heap.size < w1.heap.size) := hl1
        have HAC : Hid (∀ j, j < 6 → w1.cell? ⟨w.heap.size, j, none⟩ = (#[.int .i64 kind, .int .i64 nn, .string ⟨name.toArray⟩, .string ⟨arg.toArray⟩, .bool half, .slice ka keep.length kc] : Array Value)[j]?) := ha1
        have hXb : Below w.heap.size w ((w1.alloc (.cells #[.map none, .int .i64 0, .int .i64 0, .int .i64 0, .bool false, .bool false] 57)).alloc (.cells #[.pointer none, .pointer (some ⟨w1.heap.size, 0, none⟩)] 25)) := below_al (below_al HB.out _) _
        have hXw : Below w1.heap.size w1 ((w1.alloc (.cells #[.map none, .int .i64 0, .int .i64 0, .int .i64 0, .bool false, .bool false] 57)).alloc (.cells #[.pointer none, .pointer (some ⟨w1.heap.size, 0, none⟩)] 25)) := below_al (below_al (Below.refl _ _) _) _
        have hlt : w.heap.size < w1.heap.size := HLT.out
        have hac : ∀ j, j < 6 → ((w1.alloc (.cells #[.map none, .int .i64 0, .int .i64 0, .int .i64 0, .bool false, .bool false] 57)).alloc (.cells #[.pointer none, .pointer (some ⟨w1.heap.size, 0, none⟩)] 25)).cell? ⟨w.heap.size, j, none⟩ = (#[.int .i64 kind, .int .i64 nn, .string ⟨name.toArray⟩, .string ⟨arg.toArray⟩, .bool half, .slice ka keep.length kc] : Array Value)[j]? := fun j hj => (hXw.cell (p := ⟨w.heap.size, j, none⟩) hlt).trans (HAC.out j hj)
        have hs0 : ((w1.alloc (.cells #[.map none, .int .i64 0, .int .i64 0, .int .i64 0, .bool false, .bool false] 57)).alloc (.cells #[.pointer none, .pointer (some ⟨w1.heap.size, 0, none⟩)] 25)).cell? ⟨w1.heap.size + 1, 0, none⟩ = some (.pointer none) := by
          rw [World.cell?_alloc_at _ _ _ _ (by simp)]; rfl
        have hs1 : ((w1.alloc (.cells #[.map none, .int .i64 0, .int .i64 0, .int .i64 0, .bool false, .bool false] 57)).alloc (.cells #[.pointer none, .pointer (some ⟨w1.heap.size, 0, none⟩)] 25)).cell? ⟨w1.heap.size + 1, 1, none⟩ = some (.pointer (some ⟨w1.heap.size, 0, none⟩)) := by
          rw [World.cell?_alloc_at _ _ _ _ (by simp)]; rfl
        have hz1 : ((w1.alloc (.cells #[.map none, .int .i64 0, .int .i64 0, .int .i64 0, .bool false, .bool false] 57)).alloc (.cells #[.pointer none, .pointer (some ⟨w1.heap.size, 0, none⟩)] 25)).cell? ⟨w1.heap.size, 0, none⟩ = some (.map none) := by
          rw [(below_al (Below.refl _ _) _).cell (p := ⟨w1.heap.size, 0, none⟩) (by simp), World.cell?_alloc_at _ _ _ _ rfl]; rfl
        have hxs : w1.heap.size + 1 < ((w1.alloc (.cells #[.map none, .int .i64 0, .int .i64 0, .int .i64 0, .bool false, .bool false] 57)).alloc (.cells #[.pointer none, .pointer (some ⟨w1.heap.size, 0, none⟩)] 25)).heap.size := by simp
        generalize ((w1.alloc (.cells #[.map none, .int .i64 0, .int .i64 0, .int .i64 0, .bool false, .bool false] 57)).alloc (.cells #[.pointer none, .pointer (some ⟨w1.heap.size, 0, none⟩)] 25)) = X at *
        have n0 : NoD X (.pointer none) := noD_nil X
        have n1 : NoD X (.pointer (some ⟨w1.heap.size, 0, none⟩)) := noD_zero X _ (by omega) hz1
        have hcell : ∀ i, i < 2 → ∃ p, Hid (Nb X w.heap.size (w1.heap.size + 1) i p ⟨⟨kind, nn, name, arg, half, keep⟩, ka, kc⟩ X) := fun i hi => by
          match i, hi with
          | 0, _ => exact ⟨_, ⟨Below.refl _ _, by omega, hxs, hs0, hac, n0⟩⟩
          | 1, _ => exact ⟨_, ⟨Below.refl _ _, by omega, hxs, hs1, hac, n1⟩⟩
        have HXB := Lib.hid hXb
        clear hXb hXw hac hs0 hs1 hz1 n0 n1
        generalize w1.heap.size + 1 = sb at *
        go_loopw [8] (fun v wr => ∃ i : Nat, i ≤ 2 ∧ v = .int .i64 (i : Int) ∧ Hid (Below X.heap.size X wr)) (fun v _ => 2 - (intOf v).toNat)
        case atStart => exact ⟨0, by omega, rfl, Below.refl _ _⟩
        case round =>
          obtain ⟨i, hi2, rfl, HR⟩ := hrel
          by_cases hi : i < 2
          · have di : decide ((i : Int) < 2) = true := decide_eq_true (by omega)
            obtain ⟨p, HN0⟩ := hcell i hi
            have HN : Hid (Nb X w.heap.size sb i p ⟨⟨kind, nn, name, arg, half, keep⟩, ka, kc⟩ wr) := ⟨HR.out, HN0.out.lt1, HN0.out.lt2, HN0.out.elt, HN0.out.act, HN0.out.no⟩
            clear HN0 hcell
            have hi1 : (i : Int) < 2 := by omega
            by_cases k5 : kind = 5
            · subst k5
              have DN5 : Hid (∀ W p, NoD W p → Calls Try.prog 16 #[p, .agg #[.int .i64 5, .int .i64 nn, .string ⟨name.toArray⟩, .string ⟨arg.toArray⟩, .bool half, .slice ka keep.length kc]] W fun e w' => e = .returned (.tuple #[.string ⟨#[]⟩, .int .i64 0]) ∧ Below W.heap.size W w') := DN.out
              go_upto_region 10 with (fail)
              have HN := Lib.hid HN.out.dr
              go_region_held3 (fun V => V.cell? ⟨sb, i, none⟩ = some p ∧ V.cell? ⟨w.heap.size, 0, none⟩ = some (.int .i64 5) ∧ V.cell? ⟨w.heap.size, 1, none⟩ = some (.int .i64 nn) ∧ V.cell? ⟨w.heap.size, 2, none⟩ = some (.string ⟨name.toArray⟩) ∧ V.cell? ⟨w.heap.size, 3, none⟩ = some (.string ⟨arg.toArray⟩) ∧ V.cell? ⟨w.heap.size, 4, none⟩ = some (.bool half) ∧ V.cell? ⟨w.heap.size, 5, none⟩ = some (.slice ka keep.length kc) ∧ Hid (Nb X w.heap.size sb i p ⟨⟨5, nn, name, arg, half, keep⟩, ka, kc⟩ V)) (first | exact nb_flat HN2 | exact nb_flat HN)
                ((go_at_call 16; (have tok := HN; (with_reducible refine (DN5.out _ _ (HN.out.no.below HN.out.bel)).mono ?_); rintro e w4 ⟨rfl, hb4⟩; clear tok; have HN2 := Lib.hid (HN.out.next hb4))))
              obtain ⟨q, y0, y1, y2, y3, y4, y5, -⟩ := nb_flat HN2
              clear y1 y2 y3 y4 y5
              go_wp2_with (first
                | (go_at_call 24; (with_reducible refine (CN.out _ _ (HN2.out.no.below HN2.out.bel)).mono ?_); rintro e w5 ⟨rfl, rfl⟩)
                | (go_at_call 19; (with_reducible refine (CU.out _ _ (HN2.out.no.below HN2.out.bel)).mono ?_); rintro e w5 ⟨rfl, rfl⟩)
                | (go_at_call 21; (with_reducible refine (CO.out _ _ (HN2.out.no.below HN2.out.bel)).mono ?_); rintro e w5 ⟨rfl, rfl⟩)
                | (go_at_call 22; (with_reducible refine (CD.out _ _ (HN2.out.no.below HN2.out.bel)).mono ?_); rintro e w5 ⟨rfl, rfl⟩))
              go_roundw
              case rel => exact ⟨i + 1, by omega, by go_num, HN2.out.bel⟩
              case measure => simp [intOf]; omega
            · skip
              have DN5 : Hid (∀ W p, NoD W p → Calls Try.prog 16 #[p, .agg #[.int .i64 kind, .int .i64 nn, .string ⟨name.toArray⟩, .string ⟨arg.toArray⟩, .bool half, .slice ka keep.length kc]] W fun e w' => e = .returned (.tuple #[.string ⟨#[]⟩, .int .i64 1]) ∧ Below W.heap.size W w') := fun W p h => by
                have := DN.out W p h
                rw [if_neg k5] at this
                exact this
              have bk5 : (kind != 5) = true := bne_iff_ne.2 k5
              go_upto_region 10 with (fail)
              have HN := Lib.hid HN.out.dr
              go_region_held3 (fun V => V.cell? ⟨sb, i, none⟩ = some p ∧ V.cell? ⟨w.heap.size, 0, none⟩ = some (.int .i64 kind) ∧ V.cell? ⟨w.heap.size, 1, none⟩ = some (.int .i64 nn) ∧ V.cell? ⟨w.heap.size, 2, none⟩ = some (.string ⟨name.toArray⟩) ∧ V.cell? ⟨w.heap.size, 3, none⟩ = some (.string ⟨arg.toArray⟩) ∧ V.cell? ⟨w.heap.size, 4, none⟩ = some (.bool half) ∧ V.cell? ⟨w.heap.size, 5, none⟩ = some (.slice ka keep.length kc) ∧ Hid (Nb X w.heap.size sb i p ⟨⟨kind, nn, name, arg, half, keep⟩, ka, kc⟩ V)) (first | exact nb_flat HN2 | exact nb_flat HN)
                ((go_at_call 16; (have tok := HN; (with_reducible refine (DN5.out _ _ (HN.out.no.below HN.out.bel)).mono ?_); rintro e w4 ⟨rfl, hb4⟩; clear tok; have HN2 := Lib.hid (HN.out.next hb4))))
              obtain ⟨q, y0, y1, y2, y3, y4, y5, -⟩ := nb_flat HN2
              clear y1 y2 y3 y4 y5
              go_wp2_with (first
                | (go_at_call 24; (with_reducible refine (CN.out _ _ (HN2.out.no.below HN2.out.bel)).mono ?_); rintro e w5 ⟨rfl, rfl⟩)
                | (go_at_call 19; (with_reducible refine (CU.out _ _ (HN2.out.no.below HN2.out.bel)).mono ?_); rintro e w5 ⟨rfl, rfl⟩)
                | (go_at_call 21; (with_reducible refine (CO.out _ _ (HN2.out.no.below HN2.out.bel)).mono ?_); rintro e w5 ⟨rfl, rfl⟩)
                | (go_at_call 22; (with_reducible refine (CD.out _ _ (HN2.out.no.below HN2.out.bel)).mono ?_); rintro e w5 ⟨rfl, rfl⟩))
              go_roundw
              case rel => exact ⟨i + 1, by omega, by go_num, HN2.out.bel⟩
              case measure => simp [intOf]; omega
          · have di : decide ((i : Int) < 2) = false := decide_eq_false (by omega)
            go_wp2_with (go_at_call 7; (with_reducible refine (AW.out _).mono ?_); rintro e w9 ⟨rfl, hb9⟩)
            go_ret
            exact ⟨rfl, below2 (HXB.out.trans (HR.out.mono HXB.out.size)) hb9⟩
    · have d0 : decide (0 ≤ z) = false := decide_eq_false hz1
      go_enter Try.func6, Try.ntmps6
      go_upto_region 8 with (first
        | (go_at_call 15; (with_reducible refine (SM.out _ _ (by simp)).mono ?_); rintro e w1 ⟨⟨r, rfl, hr⟩, hb1⟩; cases r)
        | (go_at_call 7; (with_reducible refine (AW.out _).mono ?_); rintro e w9 ⟨rfl, hb9⟩)
        | (go_at_call 8; (with_reducible refine (NB.out _).mono ?_); rintro e w2 ⟨rfl, rfl⟩))
      · go_ret
        exact ⟨rfl, below2 (below2 (below_al (below_al (Below.refl _ _) _) _) hb1) hb9⟩
      · have hb0 : Below w.heap.size w w1 := below2 (below_al (below_al (Below.refl _ _) _) _) hb1
        have hl1 : w.heap.size < w1.heap.size := by have := hb1.size; simp at this; omega
        have ha1 : ∀ j, j < 6 → w1.cell? ⟨w.heap.size, j, none⟩ = (#[.int .i64 kind, .int .i64 nn, .string ⟨name.toArray⟩, .string ⟨arg.toArray⟩, .bool half, .slice ka keep.length kc] : Array Value)[j]? := fun j hj => by
          rw [hb1.cell (p := ⟨w.heap.size, j, none⟩) (by simp; omega), (below_al (Below.refl _ _) _).cell (p := ⟨w.heap.size, j, none⟩) (by simp), World.cell?_alloc_at _ _ _ _ rfl]
        have HB : Hid (Below w.heap.size w w1) := hb0
        have HLT : Hid (w.heap.size < w1.heap.size) := hl1
        have HAC : Hid (∀ j, j < 6 → w1.cell? ⟨w.heap.size, j, none⟩ = (#[.int .i64 kind, .int .i64 nn, .string ⟨name.toArray⟩, .string ⟨arg.toArray⟩, .bool half, .slice ka keep.length kc] : Array Value)[j]?) := ha1
        have hXb : Below w.heap.size w ((w1.alloc (.cells #[.map none, .int .i64 0, .int .i64 0, .int .i64 0, .bool false, .bool false] 57)).alloc (.cells #[.pointer none, .pointer (some ⟨w1.heap.size, 0, none⟩)] 25)) := below_al (below_al HB.out _) _
        have hXw : Below w1.heap.size w1 ((w1.alloc (.cells #[.map none, .int .i64 0, .int .i64 0, .int .i64 0, .bool false, .bool false] 57)).alloc (.cells #[.pointer none, .pointer (some ⟨w1.heap.size, 0, none⟩)] 25)) := below_al (below_al (Below.refl _ _) _) _
        have hlt : w.heap.size < w1.heap.size := HLT.out
        have hac : ∀ j, j < 6 → ((w1.alloc (.cells #[.map none, .int .i64 0, .int .i64 0, .int .i64 0, .bool false, .bool false] 57)).alloc (.cells #[.pointer none, .pointer (some ⟨w1.heap.size, 0, none⟩)] 25)).cell? ⟨w.heap.size, j, none⟩ = (#[.int .i64 kind, .int .i64 nn, .string ⟨name.toArray⟩, .string ⟨arg.toArray⟩, .bool half, .slice ka keep.length kc] : Array Value)[j]? := fun j hj => (hXw.cell (p := ⟨w.heap.size, j, none⟩) hlt).trans (HAC.out j hj)
        have hs0 : ((w1.alloc (.cells #[.map none, .int .i64 0, .int .i64 0, .int .i64 0, .bool false, .bool false] 57)).alloc (.cells #[.pointer none, .pointer (some ⟨w1.heap.size, 0, none⟩)] 25)).cell? ⟨w1.heap.size + 1, 0, none⟩ = some (.pointer none) := by
          rw [World.cell?_alloc_at _ _ _ _ (by simp)]; rfl
        have hs1 : ((w1.alloc (.cells #[.map none, .int .i64 0, .int .i64 0, .int .i64 0, .bool false, .bool false] 57)).alloc (.cells #[.pointer none, .pointer (some ⟨w1.heap.size, 0, none⟩)] 25)).cell? ⟨w1.heap.size + 1, 1, none⟩ = some (.pointer (some ⟨w1.heap.size, 0, none⟩)) := by
          rw [World.cell?_alloc_at _ _ _ _ (by simp)]; rfl
        have hz1 : ((w1.alloc (.cells #[.map none, .int .i64 0, .int .i64 0, .int .i64 0, .bool false, .bool false] 57)).alloc (.cells #[.pointer none, .pointer (some ⟨w1.heap.size, 0, none⟩)] 25)).cell? ⟨w1.heap.size, 0, none⟩ = some (.map none) := by
          rw [(below_al (Below.refl _ _) _).cell (p := ⟨w1.heap.size, 0, none⟩) (by simp), World.cell?_alloc_at _ _ _ _ rfl]; rfl
        have hxs : w1.heap.size + 1 < ((w1.alloc (.cells #[.map none, .int .i64 0, .int .i64 0, .int .i64 0, .bool false, .bool false] 57)).alloc (.cells #[.pointer none, .pointer (some ⟨w1.heap.size, 0, none⟩)] 25)).heap.size := by simp
        generalize ((w1.alloc (.cells #[.map none, .int .i64 0, .int .i64 0, .int .i64 0, .bool false, .bool false] 57)).alloc (.cells #[.pointer none, .pointer (some ⟨w1.heap.size, 0, none⟩)] 25)) = X at *
        have n0 : NoD X (.pointer none) := noD_nil X
        have n1 : NoD X (.pointer (some ⟨w1.heap.size, 0, none⟩)) := noD_zero X _ (by omega) hz1
        have hcell : ∀ i, i < 2 → ∃ p, Hid (Nb X w.heap.size (w1.heap.size + 1) i p ⟨⟨kind, nn, name, arg, half, keep⟩, ka, kc⟩ X) := fun i hi => by
          match i, hi with
          | 0, _ => exact ⟨_, ⟨Below.refl _ _, by omega, hxs, hs0, hac, n0⟩⟩
          | 1, _ => exact ⟨_, ⟨Below.refl _ _, by omega, hxs, hs1, hac, n1⟩⟩
        have HXB := Lib.hid hXb
        clear hXb hXw hac hs0 hs1 hz1 n0 n1
        generalize w1.heap.size + 1 = sb at *
        go_loopw [8] (fun v wr => ∃ i : Nat, i ≤ 2 ∧ v = .int .i64 (i : Int) ∧ Hid (Below X.heap.size X wr)) (fun v _ => 2 - (intOf v).toNat)
        case atStart => exact ⟨0, by omega, rfl, Below.refl _ _⟩
        case round =>
          obtain ⟨i, hi2, rfl, HR⟩ := hrel
          by_cases hi : i < 2
          · have di : decide ((i : Int) < 2) = true := decide_eq_true (by omega)
            obtain ⟨p, HN0⟩ := hcell i hi
            have HN : Hid (Nb X w.heap.size sb i p ⟨⟨kind, nn, name, arg, half, keep⟩, ka, kc⟩ wr) := ⟨HR.out, HN0.out.lt1, HN0.out.lt2, HN0.out.elt, HN0.out.act, HN0.out.no⟩
            clear HN0 hcell
            have hi1 : (i : Int) < 2 := by omega
            by_cases k5 : kind = 5
            · subst k5
              have DN5 : Hid (∀ W p, NoD W p → Calls Try.prog 16 #[p, .agg #[.int .i64 5, .int .i64 nn, .string ⟨name.toArray⟩, .string ⟨arg.toArray⟩, .bool half, .slice ka keep.length kc]] W fun e w' => e = .returned (.tuple #[.string ⟨#[]⟩, .int .i64 0]) ∧ Below W.heap.size W w') := DN.out
              go_upto_region 10 with (fail)
              have HN := Lib.hid HN.out.dr
              go_region_held3 (fun V => V.cell? ⟨sb, i, none⟩ = some p ∧ V.cell? ⟨w.heap.size, 0, none⟩ = some (.int .i64 5) ∧ V.cell? ⟨w.heap.size, 1, none⟩ = some (.int .i64 nn) ∧ V.cell? ⟨w.heap.size, 2, none⟩ = some (.string ⟨name.toArray⟩) ∧ V.cell? ⟨w.heap.size, 3, none⟩ = some (.string ⟨arg.toArray⟩) ∧ V.cell? ⟨w.heap.size, 4, none⟩ = some (.bool half) ∧ V.cell? ⟨w.heap.size, 5, none⟩ = some (.slice ka keep.length kc) ∧ Hid (Nb X w.heap.size sb i p ⟨⟨5, nn, name, arg, half, keep⟩, ka, kc⟩ V)) (first | exact nb_flat HN2 | exact nb_flat HN)
                ((go_at_call 16; (have tok := HN; (with_reducible refine (DN5.out _ _ (HN.out.no.below HN.out.bel)).mono ?_); rintro e w4 ⟨rfl, hb4⟩; clear tok; have HN2 := Lib.hid (HN.out.next hb4))))
              obtain ⟨q, y0, y1, y2, y3, y4, y5, -⟩ := nb_flat HN2
              clear y1 y2 y3 y4 y5
              go_wp2_with (first
                | (go_at_call 24; (with_reducible refine (CN.out _ _ (HN2.out.no.below HN2.out.bel)).mono ?_); rintro e w5 ⟨rfl, rfl⟩)
                | (go_at_call 19; (with_reducible refine (CU.out _ _ (HN2.out.no.below HN2.out.bel)).mono ?_); rintro e w5 ⟨rfl, rfl⟩)
                | (go_at_call 21; (with_reducible refine (CO.out _ _ (HN2.out.no.below HN2.out.bel)).mono ?_); rintro e w5 ⟨rfl, rfl⟩)
                | (go_at_call 22; (with_reducible refine (CD.out _ _ (HN2.out.no.below HN2.out.bel)).mono ?_); rintro e w5 ⟨rfl, rfl⟩))
              go_roundw
              case rel => exact ⟨i + 1, by omega, by go_num, HN2.out.bel⟩
              case measure => simp [intOf]; omega
            · skip
              have DN5 : Hid (∀ W p, NoD W p → Calls Try.prog 16 #[p, .agg #[.int .i64 kind, .int .i64 nn, .string ⟨name.toArray⟩, .string ⟨arg.toArray⟩, .bool half, .slice ka keep.length kc]] W fun e w' => e = .returned (.tuple #[.string ⟨#[]⟩, .int .i64 1]) ∧ Below W.heap.size W w') := fun W p h => by
                have := DN.out W p h
                rw [if_neg k5] at this
                exact this
              have bk5 : (kind != 5) = true := bne_iff_ne.2 k5
              go_upto_region 10 with (fail)
              have HN := Lib.hid HN.out.dr
              go_region_held3 (fun V => V.cell? ⟨sb, i, none⟩ = some p ∧ V.cell? ⟨w.heap.size, 0, none⟩ = some (.int .i64 kind) ∧ V.cell? ⟨w.heap.size, 1, none⟩ = some (.int .i64 nn) ∧ V.cell? ⟨w.heap.size, 2, none⟩ = some (.string ⟨name.toArray⟩) ∧ V.cell? ⟨w.heap.size, 3, none⟩ = some (.string ⟨arg.toArray⟩) ∧ V.cell? ⟨w.heap.size, 4, none⟩ = some (.bool half) ∧ V.cell? ⟨w.heap.size, 5, none⟩ = some (.slice ka keep.length kc) ∧ Hid (Nb X w.heap.size sb i p ⟨⟨kind, nn, name, arg, half, keep⟩, ka, kc⟩ V)) (first | exact nb_flat HN2 | exact nb_flat HN)
                ((go_at_call 16; (have tok := HN; (with_reducible refine (DN5.out _ _ (HN.out.no.below HN.out.bel)).mono ?_); rintro e w4 ⟨rfl, hb4⟩; clear tok; have HN2 := Lib.hid (HN.out.next hb4))))
              obtain ⟨q, y0, y1, y2, y3, y4, y5, -⟩ := nb_flat HN2
              clear y1 y2 y3 y4 y5
              go_wp2_with (first
                | (go_at_call 24; (with_reducible refine (CN.out _ _ (HN2.out.no.below HN2.out.bel)).mono ?_); rintro e w5 ⟨rfl, rfl⟩)
                | (go_at_call 19; (with_reducible refine (CU.out _ _ (HN2.out.no.below HN2.out.bel)).mono ?_); rintro e w5 ⟨rfl, rfl⟩)
                | (go_at_call 21; (with_reducible refine (CO.out _ _ (HN2.out.no.below HN2.out.bel)).mono ?_); rintro e w5 ⟨rfl, rfl⟩)
                | (go_at_call 22; (with_reducible refine (CD.out _ _ (HN2.out.no.below HN2.out.bel)).mono ?_); rintro e w5 ⟨rfl, rfl⟩))
              go_roundw
              case rel => exact ⟨i + 1, by omega, by go_num, HN2.out.bel⟩
              case measure => simp [intOf]; omega
          · have di : decide ((i : Int) < 2) = false := decide_eq_false (by omega)
            go_wp2_with (go_at_call 7; (with_reducible refine (AW.out _).mono ?_); rintro e w9 ⟨rfl, hb9⟩)
            go_ret
            exact ⟨rfl, below2 (HXB.out.trans (HR.out.mono HXB.out.size)) hb9⟩
end Dsk
end Go.Proofs.Ytnbmjbelmcibgaa
