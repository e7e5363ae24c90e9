/- A file that was written beside: the walk. -/
import Derived.Test.YtnbmjbelmcibgaaDskTw
set_option linter.unusedSimpArgs false
set_option linter.unusedVariables false
namespace Go.Proofs.Ytnbmjbelmcibgaa
open Go.RowKit Go.Great Go.Maps
namespace Dsk
theorem sz_str (s : ByteArray) : s.data.toList.length = s.size := by rw [Array.length_toList]; rfl
theorem one_siz (s b : List UInt8) (n : Nat) (o : Int) (hs : isName s = true) (hn : n ≤ b.length) (ho : 0 ≤ o ∧ o ≤ 10) (hb : b.length ≤ 400) : Siz (oneD s b n o) 10 := by
  refine ⟨⟨one_fok s b n o hs hn, ⟨by show (0 : Int) ≤ 65536; decide, by show (65536 : Int) ≤ _; decide⟩, ⟨ho.1, by show o ≤ _; omega⟩, ⟨Int.le_refl _, by show (0 : Int) ≤ _; decide⟩⟩, ?_, ?_, ho.2⟩
  · show 1 ≤ 10; decide
  · show b.length + 0 ≤ _; omega
theorem fused (L : List UInt8) (z : Int) (b : Bool) (hL : L.length ≤ 200) : Bes (fuseV (oneD aB L L.length 2) (bits BinOp.and .i64 z 7) b) L ∧ (fuseV (oneD aB L L.length 2) (bits BinOp.and .i64 z 7) b).dead = false ∧ find bB (fuseV (oneD aB L L.length 2) (bits BinOp.and .i64 z 7) b).files = none ∧ bytesOf (fuseV (oneD aB L L.length 2) (bits BinOp.and .i64 z 7) b).files ≤ 200 ∧ Siz (fuseV (oneD aB L L.length 2) (bits BinOp.and .i64 z 7) b) 10 := by
  have hz : bits BinOp.and .i64 z 7 ≤ 9223372036854775807 := by rw [mask_seven]; omega
  refine ⟨⟨one_fok aB L L.length 2 okA (Nat.le_refl _), one_find aB L L.length 2, rfl⟩, rfl, rfl, by show L.length + 0 ≤ _; omega, siz_fuse (one_siz aB L L.length 2 okA (Nat.le_refl _) (by decide) (by omega)) _ _ hz⟩
set_option maxRecDepth 100000 in
set_option maxHeartbeats 4000000 in
theorem whole_walk (v0 : Value) (l0 : List ByteArray) (h0 : IsTwo v0 l0) (z : Int) (hz : (Lit.int .i64 z).wf = true) (v2 : Value) (keep : List Int) {w : World} (hk : In.IsInts .i64 w v2 keep) : Calls Try.prog 3 #[v0, .int .i64 z, v2] w fun e w' => e = .returned (.bool true) ∧ Below w.heap.size w w' := by
  obtain ⟨old, fresh, rfl, rfl, ho, hf⟩ := h0
  have HK := Lib.hid hk
  obtain ⟨ka, kcap, rfl, hkl, -⟩ := hk
  unfold maxLen at hkl
  have AW : Hid (∀ W, Calls Try.prog 7 #[] W fun e w' => e = .returned (.bool true) ∧ Below W.heap.size W w') := awake_any
  have hB : ∀ q, Below w.heap.size w ((w.alloc (.cells #[.string old, .string fresh] 22)).drewN q) := fun q => below_dN (below_al (Below.refl _ _) _) q
  by_cases a1 : old.size < 1
  · have da1 : decide (((old.size : Nat) : Int) < 1) = true := decide_eq_true (by omega)
    go_enter Try.func3, Try.ntmps3
    go_wp2
    go_quiet (fail)
    have hb0 := hB nq
    generalize ((w.alloc (.cells #[.string old, .string fresh] 22)).drewN nq) = W0 at *
    go_wp2_with (go_at_call 7; (with_reducible refine (AW.out _).mono ?_); rintro e w1 ⟨rfl, hb1⟩)
    go_ret
    exact ⟨rfl, below2 hb0 hb1⟩
  have da1 : decide (((old.size : Nat) : Int) < 1) = false := decide_eq_false (by omega)
  by_cases a2 : 200 < old.size
  · have da2 : decide (200 < ((old.size : Nat) : Int)) = true := decide_eq_true (by omega)
    go_enter Try.func3, Try.ntmps3
    go_wp2
    go_quiet (fail)
    have hb0 := hB nq
    generalize ((w.alloc (.cells #[.string old, .string fresh] 22)).drewN nq) = W0 at *
    go_wp2_with (go_at_call 7; (with_reducible refine (AW.out _).mono ?_); rintro e w1 ⟨rfl, hb1⟩)
    go_ret
    exact ⟨rfl, below2 hb0 hb1⟩
  have da2 : decide (200 < ((old.size : Nat) : Int)) = false := decide_eq_false (by omega)
  by_cases a3 : fresh.size < 1
  · have da3 : decide (((fresh.size : Nat) : Int) < 1) = true := decide_eq_true (by omega)
    go_enter Try.func3, Try.ntmps3
    go_wp2
    go_quiet (fail)
    have hb0 := hB nq
    generalize ((w.alloc (.cells #[.string old, .string fresh] 22)).drewN nq) = W0 at *
    go_wp2_with (go_at_call 7; (with_reducible refine (AW.out _).mono ?_); rintro e w1 ⟨rfl, hb1⟩)
    go_ret
    exact ⟨rfl, below2 hb0 hb1⟩
  have da3 : decide (((fresh.size : Nat) : Int) < 1) = false := decide_eq_false (by omega)
  by_cases a4 : 200 < fresh.size
  · have da4 : decide (200 < ((fresh.size : Nat) : Int)) = true := decide_eq_true (by omega)
    go_enter Try.func3, Try.ntmps3
    go_wp2
    go_quiet (fail)
    have hb0 := hB nq
    generalize ((w.alloc (.cells #[.string old, .string fresh] 22)).drewN nq) = W0 at *
    go_wp2_with (go_at_call 7; (with_reducible refine (AW.out _).mono ?_); rintro e w1 ⟨rfl, hb1⟩)
    go_ret
    exact ⟨rfl, below2 hb0 hb1⟩
  have da4 : decide (200 < ((fresh.size : Nat) : Int)) = false := decide_eq_false (by omega)
  by_cases a5 : 20 < keep.length
  · have da5 : decide (20 < ((keep.length : Nat) : Int)) = true := decide_eq_true (by omega)
    go_enter Try.func3, Try.ntmps3
    go_wp2
    go_quiet (fail)
    have hb0 := hB nq
    generalize ((w.alloc (.cells #[.string old, .string fresh] 22)).drewN nq) = W0 at *
    go_wp2_with (go_at_call 7; (with_reducible refine (AW.out _).mono ?_); rintro e w1 ⟨rfl, hb1⟩)
    go_ret
    exact ⟨rfl, below2 hb0 hb1⟩
  have da5 : decide (20 < ((keep.length : Nat) : Int)) = false := decide_eq_false (by omega)
  go_enter Try.func3, Try.ntmps3
  go_wp2
  go_quiet (fail)
  have hb0 := hB nq
  generalize ((w.alloc (.cells #[.string old, .string fresh] 22)).drewN nq) = W0 at *
  clear hB
  have HB0 := Lib.hid hb0
  have hs0 : w.heap.size ≤ W0.heap.size := hb0.size
  clear hb0
  obtain ⟨g, hg⟩ : ∃ g, g = W0.heap.size + 1 := ⟨_, rfl⟩
  obtain ⟨m, hm⟩ : ∃ m, m = W0.heap.size := ⟨_, rfl⟩
  have NEW : Hid (Calls Try.prog 8 #[.int .i64 65536] W0 fun e w' => e = .returned (.tuple #[.pointer (some ⟨g, 0, none⟩), .int .i64 0]) ∧ Hid (PD w' g m 0 (newD 65536)) ∧ Hid (Below W0.heap.size W0 w')) := by
    rw [hg, hm]
    exact new_any W0 65536 (by decide)
  have hg' : w.heap.size ≤ g := by omega
  have hm' : w.heap.size ≤ m := by omega
  clear hg hm
  have lo : old.data.toList.length ≤ 200 := by rw [sz_str]; omega
  have lf : fresh.data.toList.length ≤ 200 := by rw [sz_str]; omega
  have lo1 : 1 ≤ old.data.toList.length := by rw [sz_str]; omega
  have lf1 : 1 ≤ fresh.data.toList.length := by rw [sz_str]; omega
  have n0 := new_siz 65536 (by decide)
  have n1 := one_siz aB old.data.toList 0 1 okA (Nat.zero_le _) (by decide) (by omega)
  have n2 := one_siz aB old.data.toList old.data.toList.length 2 okA (Nat.le_refl _) (by decide) (by omega)
  have so : old.size ≤ 1000000000 := by omega
  have sf : fresh.size ≤ 1000000000 := by omega
  have CA1 : Hid (∀ W, PD W g m 0 (newD 65536) → Calls Try.prog 9 #[.pointer (some ⟨g, 0, none⟩), .string ⟨#[97]⟩, .string old] W fun e w' => e = .returned (.int .i64 0) ∧ Hid (PD w' g m 1 (oneD aB old.data.toList 0 1)) ∧ Hid (Bx g m W w')) := fun W h => by
    have hq := append_any W g m 0 (newD 65536) h n0.ok (by omega) ⟨#[97]⟩ old (by decide) so (n0.lens (by omega)).2.1 (n0.lens (by omega)).1
    rw [show appendV (newD 65536) (ByteArray.mk #[97]).data.toList old.data.toList = _ from new_append aB old.data.toList okA lo] at hq
    exact hq
  have CS1 : Hid (∀ W, PD W g m 1 (oneD aB old.data.toList 0 1) → Calls Try.prog 10 #[.pointer (some ⟨g, 0, none⟩), .string ⟨#[97]⟩] W fun e w' => e = .returned (.int .i64 0) ∧ Hid (PD w' g m 2 (oneD aB old.data.toList old.data.toList.length 2)) ∧ Hid (Bx g m W w')) := fun W h => by
    have hq := sync_any W g m 1 _ h n1.ok (by omega) ⟨#[97]⟩ (by decide)
    rw [show syncV (oneD aB old.data.toList 0 1) (ByteArray.mk #[97]).data.toList = _ from one_sync aB old.data.toList 0 1] at hq
    exact hq
  have CF : Hid (∀ W x b, PD W g m 2 (oneD aB old.data.toList old.data.toList.length 2) → Calls Try.prog 11 #[.pointer (some ⟨g, 0, none⟩), .int .i64 x, .bool b] W fun e w' => e = .returned (.tuple #[]) ∧ Hid (PD w' g m 2 (fuseV (oneD aB old.data.toList old.data.toList.length 2) x b)) ∧ Hid (Bx g m W w')) := fun W x b h => fuse_any W g m 2 _ h x b
  have CK : Hid (∀ W n d, Siz d 20 → PD W g m n d → Below w.heap.size w W → Calls Try.prog 13 #[.pointer (some ⟨g, 0, none⟩), .slice ka keep.length kcap] W fun e w' => e = .returned (.int .i64 0) ∧ Hid (PD w' g m d.files.length (crashV d keep)) ∧ Hid (Bx g m W w')) := fun W n d hs h hb => crash_any w W g m n d h hs.ok (hs.lens (by omega)).2.2 (hs.lens (by omega)).1 _ keep HK.out hb hg' hm'
  go_upto_region 8 with (first
    | (go_at_call 8; (with_reducible refine NEW.out.mono ?_); rintro e w1 ⟨rfl, HP1, HB1⟩; have HB1 := Lib.hid (below2 HB0.out HB1.out))
    | (go_at_call 9; (with_reducible refine (CA1.out _ HP1.out).mono ?_); rintro e w2 ⟨rfl, HP2, HX2⟩; have HB2 := Lib.hid (Bx.below2 HB1.out HX2.out (Nat.le_refl _) hg' hm'))
    | (go_at_call 10; (with_reducible refine (CS1.out _ HP2.out).mono ?_); rintro e w3 ⟨rfl, HP3, HX3⟩; have HB3 := Lib.hid (Bx.below2 HB2.out HX3.out (Nat.le_refl _) hg' hm'))
    | (go_at_call 11; (with_reducible refine (CF.out _ _ _ HP3.out).mono ?_); rintro e w4 ⟨rfl, HP4, HX4⟩; have HB4 := Lib.hid (Bx.below2 HB3.out HX4.out (Nat.le_refl _) hg' hm')))
  obtain ⟨d1, HP4, hB1, hdd1, hfb1, hby1, hS1⟩ : ∃ d1, Hid (PD w4 g m 2 d1) ∧ Bes d1 old.data.toList ∧ d1.dead = false ∧ find bB d1.files = none ∧ bytesOf d1.files ≤ 200 ∧ Siz d1 10 := ⟨_, HP4, fused old.data.toList z _ lo⟩
  obtain ⟨hB2, hf2, hc2⟩ := bes_append hB1 hdd1 hfb1 hby1 lf
  have hS2 := siz_append hS1 (by omega) bB fresh.data.toList lf
  have CA2 : Hid (∀ W, PD W g m 2 d1 → Calls Try.prog 9 #[.pointer (some ⟨g, 0, none⟩), .string ⟨#[98]⟩, .string fresh] W fun e w' => e = .returned (.int .i64 (appendV d1 bB fresh.data.toList).1) ∧ Hid (PD w' g m 3 (appendV d1 bB fresh.data.toList).2) ∧ Hid (Bx g m W w')) := fun W h => append_any W g m 2 d1 h hS1.ok (by omega) ⟨#[98]⟩ fresh (by decide) sf (hS1.lens (by omega)).2.1 (hS1.lens (by omega)).1
  obtain ⟨r2, hr2⟩ : ∃ r, appendV d1 bB fresh.data.toList = r := ⟨_, rfl⟩
  rw [hr2] at hB2 hf2 hc2 hS2 CA2
  obtain ⟨e2, d2⟩ := r2
  dsimp only at hB2 hf2 hc2 hS2 CA2
  clear hr2 hB1 hdd1 hfb1 hby1 n0 n1 n2 NEW CA1 CS1 CF HP1 HP2 HP3 HX2 HX3 HX4 HB1 HB2 HB3
  rcases hc2 with ⟨rfl, hdd2⟩ | ⟨rfl, hdd2⟩
  · obtain ⟨hB3, hc3⟩ := bes_sync hB2 hdd2 hf2
    have hS3 := siz_sync hS2 (by omega) bB
    have CS2 : Hid (∀ W, PD W g m 3 d2 → Calls Try.prog 10 #[.pointer (some ⟨g, 0, none⟩), .string ⟨#[98]⟩] W fun e w' => e = .returned (.int .i64 (syncV d2 bB).1) ∧ Hid (PD w' g m 4 (syncV d2 bB).2) ∧ Hid (Bx g m W w')) := fun W h => sync_any W g m 3 d2 h hS2.ok (by omega) ⟨#[98]⟩ (by decide)
    obtain ⟨r3, hr3⟩ : ∃ r, syncV d2 bB = r := ⟨_, rfl⟩
    rw [hr3] at hB3 hc3 hS3 CS2
    obtain ⟨e3, d3⟩ := r3
    dsimp only at hB3 hc3 hS3 CS2
    clear hr3 hB2 hf2
    rcases hc3 with ⟨rfl, hdd3, hf3⟩ | ⟨rfl, hdd3⟩
    · obtain ⟨hF4, hc4⟩ := bes_rename hB3 hdd3 hf3
      have hS4 := siz_rename hS3 (by omega) bB aB
      have CR2 : Hid (∀ W, PD W g m 4 d3 → Calls Try.prog 12 #[.pointer (some ⟨g, 0, none⟩), .string ⟨#[98]⟩, .string ⟨#[97]⟩] W fun e w' => e = .returned (.int .i64 (renameV d3 bB aB).1) ∧ Hid (PD w' g m 5 (renameV d3 bB aB).2) ∧ Hid (Bx g m W w')) := fun W h => rename_any W g m 4 d3 h hS3.ok (by omega) ⟨#[98]⟩ ⟨#[97]⟩ (by decide) (by decide)
      obtain ⟨r4, hr4⟩ : ∃ r, renameV d3 bB aB = r := ⟨_, rfl⟩
      rw [hr4] at hF4 hc4 hS4 CR2
      obtain ⟨e4, d4⟩ := r4
      dsimp only at hF4 hc4 hS4 CR2
      clear hr4 hB3 hf3
      rcases hc4 with ⟨rfl, hf4⟩ | ⟨rfl, hf4 | hf4⟩
      · have hrd := whole_crash hF4 hf4 lf1 keep
        have hSk : Siz d4 20 := hS4.mono (by omega)
        have CR : Hid (∀ W k, PD W g m k (crashV d4 keep) → Calls Try.prog 14 #[.pointer (some ⟨g, 0, none⟩), .string ⟨#[97]⟩] W fun e w' => e = .returned (.tuple #[.string fresh, .int .i64 0]) ∧ Below W.heap.size W w') := fun W k h => by
          have hq := read_any W g m k _ h ⟨#[97]⟩ (by decide)
          rw [show readV (crashV d4 keep) (ByteArray.mk #[97]).data.toList = (fresh.data.toList, 0) from hrd] at hq
          exact hq
        go_wp2_with (first
          | (go_at_call 9; (with_reducible refine (CA2.out _ HP4.out).mono ?_); rintro e w5 ⟨rfl, HP5, HX5⟩; have HB5 := Lib.hid (Bx.below2 HB4.out HX5.out (Nat.le_refl _) hg' hm'))
          | (go_at_call 10; (with_reducible refine (CS2.out _ HP5.out).mono ?_); rintro e w6 ⟨rfl, HP6, HX6⟩; have HB6 := Lib.hid (Bx.below2 HB5.out HX6.out (Nat.le_refl _) hg' hm'))
          | (go_at_call 12; (with_reducible refine (CR2.out _ HP6.out).mono ?_); rintro e w7 ⟨rfl, HP7, HX7⟩; have HB7 := Lib.hid (Bx.below2 HB6.out HX7.out (Nat.le_refl _) hg' hm'))
          | (go_at_call 13; (with_reducible refine (CK.out _ _ _ hSk HP7.out HB7.out).mono ?_); rintro e w8 ⟨rfl, HP8, HX8⟩; have HB8 := Lib.hid (Bx.below2 HB7.out HX8.out (Nat.le_refl _) hg' hm'))
          | (go_at_call 14; (with_reducible refine (CR.out _ _ HP8.out).mono ?_); rintro e w9 ⟨rfl, hb9⟩; have HB9 := Lib.hid (Bx.below2 (g := g) (m := m) HB8.out (Bx.below hb9) (Nat.le_refl _) hg' hm'); clear hb9)
          | (go_at_call 7; (with_reducible refine (AW.out _).mono ?_); rintro e w10 ⟨rfl, hb10⟩; have HB10 := Lib.hid (Bx.below2 (g := g) (m := m) HB9.out (Bx.below hb10) (Nat.le_refl _) hg' hm'); clear hb10))
        go_ret
        exact ⟨rfl, HB10.out⟩
      · have hrd := whole_crash hF4 hf4 lf1 keep
        have hSk : Siz d4 20 := hS4.mono (by omega)
        have CR : Hid (∀ W k, PD W g m k (crashV d4 keep) → Calls Try.prog 14 #[.pointer (some ⟨g, 0, none⟩), .string ⟨#[97]⟩] W fun e w' => e = .returned (.tuple #[.string fresh, .int .i64 0]) ∧ Below W.heap.size W w') := fun W k h => by
          have hq := read_any W g m k _ h ⟨#[97]⟩ (by decide)
          rw [show readV (crashV d4 keep) (ByteArray.mk #[97]).data.toList = (fresh.data.toList, 0) from hrd] at hq
          exact hq
        go_wp2_with (first
          | (go_at_call 9; (with_reducible refine (CA2.out _ HP4.out).mono ?_); rintro e w5 ⟨rfl, HP5, HX5⟩; have HB5 := Lib.hid (Bx.below2 HB4.out HX5.out (Nat.le_refl _) hg' hm'))
          | (go_at_call 10; (with_reducible refine (CS2.out _ HP5.out).mono ?_); rintro e w6 ⟨rfl, HP6, HX6⟩; have HB6 := Lib.hid (Bx.below2 HB5.out HX6.out (Nat.le_refl _) hg' hm'))
          | (go_at_call 12; (with_reducible refine (CR2.out _ HP6.out).mono ?_); rintro e w7 ⟨rfl, HP7, HX7⟩; have HB7 := Lib.hid (Bx.below2 HB6.out HX7.out (Nat.le_refl _) hg' hm'))
          | (go_at_call 13; (with_reducible refine (CK.out _ _ _ hSk HP7.out HB7.out).mono ?_); rintro e w8 ⟨rfl, HP8, HX8⟩; have HB8 := Lib.hid (Bx.below2 HB7.out HX8.out (Nat.le_refl _) hg' hm'))
          | (go_at_call 14; (with_reducible refine (CR.out _ _ HP8.out).mono ?_); rintro e w9 ⟨rfl, hb9⟩; have HB9 := Lib.hid (Bx.below2 (g := g) (m := m) HB8.out (Bx.below hb9) (Nat.le_refl _) hg' hm'); clear hb9)
          | (go_at_call 7; (with_reducible refine (AW.out _).mono ?_); rintro e w10 ⟨rfl, hb10⟩; have HB10 := Lib.hid (Bx.below2 (g := g) (m := m) HB9.out (Bx.below hb10) (Nat.le_refl _) hg' hm'); clear hb10))
        go_ret
        exact ⟨rfl, HB10.out⟩
      · have hrd := whole_crash hF4 hf4 lo1 keep
        have hSk : Siz d4 20 := hS4.mono (by omega)
        have CR : Hid (∀ W k, PD W g m k (crashV d4 keep) → Calls Try.prog 14 #[.pointer (some ⟨g, 0, none⟩), .string ⟨#[97]⟩] W fun e w' => e = .returned (.tuple #[.string old, .int .i64 0]) ∧ Below W.heap.size W w') := fun W k h => by
          have hq := read_any W g m k _ h ⟨#[97]⟩ (by decide)
          rw [show readV (crashV d4 keep) (ByteArray.mk #[97]).data.toList = (old.data.toList, 0) from hrd] at hq
          exact hq
        by_cases hof : old = fresh
        · have hbe : (old.toList == fresh.toList) = true := by rw [neq_str]; exact decide_eq_true hof
          go_wp2_with (first
            | (go_at_call 9; (with_reducible refine (CA2.out _ HP4.out).mono ?_); rintro e w5 ⟨rfl, HP5, HX5⟩; have HB5 := Lib.hid (Bx.below2 HB4.out HX5.out (Nat.le_refl _) hg' hm'))
            | (go_at_call 10; (with_reducible refine (CS2.out _ HP5.out).mono ?_); rintro e w6 ⟨rfl, HP6, HX6⟩; have HB6 := Lib.hid (Bx.below2 HB5.out HX6.out (Nat.le_refl _) hg' hm'))
            | (go_at_call 12; (with_reducible refine (CR2.out _ HP6.out).mono ?_); rintro e w7 ⟨rfl, HP7, HX7⟩; have HB7 := Lib.hid (Bx.below2 HB6.out HX7.out (Nat.le_refl _) hg' hm'))
            | (go_at_call 13; (with_reducible refine (CK.out _ _ _ hSk HP7.out HB7.out).mono ?_); rintro e w8 ⟨rfl, HP8, HX8⟩; have HB8 := Lib.hid (Bx.below2 HB7.out HX8.out (Nat.le_refl _) hg' hm'))
            | (go_at_call 14; (with_reducible refine (CR.out _ _ HP8.out).mono ?_); rintro e w9 ⟨rfl, hb9⟩; have HB9 := Lib.hid (Bx.below2 (g := g) (m := m) HB8.out (Bx.below hb9) (Nat.le_refl _) hg' hm'); clear hb9)
            | (go_at_call 7; (with_reducible refine (AW.out _).mono ?_); rintro e w10 ⟨rfl, hb10⟩; have HB10 := Lib.hid (Bx.below2 (g := g) (m := m) HB9.out (Bx.below hb10) (Nat.le_refl _) hg' hm'); clear hb10))
          go_ret
          exact ⟨rfl, HB10.out⟩
        · have hbe : (old.toList == fresh.toList) = false := by rw [neq_str]; exact decide_eq_false hof
          go_wp2_with (first
            | (go_at_call 9; (with_reducible refine (CA2.out _ HP4.out).mono ?_); rintro e w5 ⟨rfl, HP5, HX5⟩; have HB5 := Lib.hid (Bx.below2 HB4.out HX5.out (Nat.le_refl _) hg' hm'))
            | (go_at_call 10; (with_reducible refine (CS2.out _ HP5.out).mono ?_); rintro e w6 ⟨rfl, HP6, HX6⟩; have HB6 := Lib.hid (Bx.below2 HB5.out HX6.out (Nat.le_refl _) hg' hm'))
            | (go_at_call 12; (with_reducible refine (CR2.out _ HP6.out).mono ?_); rintro e w7 ⟨rfl, HP7, HX7⟩; have HB7 := Lib.hid (Bx.below2 HB6.out HX7.out (Nat.le_refl _) hg' hm'))
            | (go_at_call 13; (with_reducible refine (CK.out _ _ _ hSk HP7.out HB7.out).mono ?_); rintro e w8 ⟨rfl, HP8, HX8⟩; have HB8 := Lib.hid (Bx.below2 HB7.out HX8.out (Nat.le_refl _) hg' hm'))
            | (go_at_call 14; (with_reducible refine (CR.out _ _ HP8.out).mono ?_); rintro e w9 ⟨rfl, hb9⟩; have HB9 := Lib.hid (Bx.below2 (g := g) (m := m) HB8.out (Bx.below hb9) (Nat.le_refl _) hg' hm'); clear hb9)
            | (go_at_call 7; (with_reducible refine (AW.out _).mono ?_); rintro e w10 ⟨rfl, hb10⟩; have HB10 := Lib.hid (Bx.below2 (g := g) (m := m) HB9.out (Bx.below hb10) (Nat.le_refl _) hg' hm'); clear hb10))
          go_ret
          exact ⟨rfl, HB10.out⟩
    · have hrd := beside_old hB3 lo1 keep
      have hSk : Siz d3 20 := hS3.mono (by omega)
      have CR : Hid (∀ W k, PD W g m k (crashV d3 keep) → Calls Try.prog 14 #[.pointer (some ⟨g, 0, none⟩), .string ⟨#[97]⟩] W fun e w' => e = .returned (.tuple #[.string old, .int .i64 0]) ∧ Below W.heap.size W w') := fun W k h => by
        have hq := read_any W g m k _ h ⟨#[97]⟩ (by decide)
        rw [show readV (crashV d3 keep) (ByteArray.mk #[97]).data.toList = (old.data.toList, 0) from hrd] at hq
        exact hq
      by_cases hof : old = fresh
      · have hbe : (old.toList == fresh.toList) = true := by rw [neq_str]; exact decide_eq_true hof
        go_wp2_with (first
          | (go_at_call 9; (with_reducible refine (CA2.out _ HP4.out).mono ?_); rintro e w5 ⟨rfl, HP5, HX5⟩; have HB5 := Lib.hid (Bx.below2 HB4.out HX5.out (Nat.le_refl _) hg' hm'))
          | (go_at_call 10; (with_reducible refine (CS2.out _ HP5.out).mono ?_); rintro e w6 ⟨rfl, HP6, HX6⟩; have HB6 := Lib.hid (Bx.below2 HB5.out HX6.out (Nat.le_refl _) hg' hm'))
          | (go_at_call 13; (with_reducible refine (CK.out _ _ _ hSk HP6.out HB6.out).mono ?_); rintro e w8 ⟨rfl, HP8, HX8⟩; have HB8 := Lib.hid (Bx.below2 HB6.out HX8.out (Nat.le_refl _) hg' hm'))
          | (go_at_call 14; (with_reducible refine (CR.out _ _ HP8.out).mono ?_); rintro e w9 ⟨rfl, hb9⟩; have HB9 := Lib.hid (Bx.below2 (g := g) (m := m) HB8.out (Bx.below hb9) (Nat.le_refl _) hg' hm'); clear hb9)
          | (go_at_call 7; (with_reducible refine (AW.out _).mono ?_); rintro e w10 ⟨rfl, hb10⟩; have HB10 := Lib.hid (Bx.below2 (g := g) (m := m) HB9.out (Bx.below hb10) (Nat.le_refl _) hg' hm'); clear hb10))
        go_ret
        exact ⟨rfl, HB10.out⟩
      · have hbe : (old.toList == fresh.toList) = false := by rw [neq_str]; exact decide_eq_false hof
        go_wp2_with (first
          | (go_at_call 9; (with_reducible refine (CA2.out _ HP4.out).mono ?_); rintro e w5 ⟨rfl, HP5, HX5⟩; have HB5 := Lib.hid (Bx.below2 HB4.out HX5.out (Nat.le_refl _) hg' hm'))
          | (go_at_call 10; (with_reducible refine (CS2.out _ HP5.out).mono ?_); rintro e w6 ⟨rfl, HP6, HX6⟩; have HB6 := Lib.hid (Bx.below2 HB5.out HX6.out (Nat.le_refl _) hg' hm'))
          | (go_at_call 13; (with_reducible refine (CK.out _ _ _ hSk HP6.out HB6.out).mono ?_); rintro e w8 ⟨rfl, HP8, HX8⟩; have HB8 := Lib.hid (Bx.below2 HB6.out HX8.out (Nat.le_refl _) hg' hm'))
          | (go_at_call 14; (with_reducible refine (CR.out _ _ HP8.out).mono ?_); rintro e w9 ⟨rfl, hb9⟩; have HB9 := Lib.hid (Bx.below2 (g := g) (m := m) HB8.out (Bx.below hb9) (Nat.le_refl _) hg' hm'); clear hb9)
          | (go_at_call 7; (with_reducible refine (AW.out _).mono ?_); rintro e w10 ⟨rfl, hb10⟩; have HB10 := Lib.hid (Bx.below2 (g := g) (m := m) HB9.out (Bx.below hb10) (Nat.le_refl _) hg' hm'); clear hb10))
        go_ret
        exact ⟨rfl, HB10.out⟩
  · have hrd := beside_old hB2 lo1 keep
    have hSk : Siz d2 20 := hS2.mono (by omega)
    have CR : Hid (∀ W k, PD W g m k (crashV d2 keep) → Calls Try.prog 14 #[.pointer (some ⟨g, 0, none⟩), .string ⟨#[97]⟩] W fun e w' => e = .returned (.tuple #[.string old, .int .i64 0]) ∧ Below W.heap.size W w') := fun W k h => by
      have hq := read_any W g m k _ h ⟨#[97]⟩ (by decide)
      rw [show readV (crashV d2 keep) (ByteArray.mk #[97]).data.toList = (old.data.toList, 0) from hrd] at hq
      exact hq
    by_cases hof : old = fresh
    · have hbe : (old.toList == fresh.toList) = true := by rw [neq_str]; exact decide_eq_true hof
      go_wp2_with (first
        | (go_at_call 9; (with_reducible refine (CA2.out _ HP4.out).mono ?_); rintro e w5 ⟨rfl, HP5, HX5⟩; have HB5 := Lib.hid (Bx.below2 HB4.out HX5.out (Nat.le_refl _) hg' hm'))
        | (go_at_call 13; (with_reducible refine (CK.out _ _ _ hSk HP5.out HB5.out).mono ?_); rintro e w8 ⟨rfl, HP8, HX8⟩; have HB8 := Lib.hid (Bx.below2 HB5.out HX8.out (Nat.le_refl _) hg' hm'))
        | (go_at_call 14; (with_reducible refine (CR.out _ _ HP8.out).mono ?_); rintro e w9 ⟨rfl, hb9⟩; have HB9 := Lib.hid (Bx.below2 (g := g) (m := m) HB8.out (Bx.below hb9) (Nat.le_refl _) hg' hm'); clear hb9)
        | (go_at_call 7; (with_reducible refine (AW.out _).mono ?_); rintro e w10 ⟨rfl, hb10⟩; have HB10 := Lib.hid (Bx.below2 (g := g) (m := m) HB9.out (Bx.below hb10) (Nat.le_refl _) hg' hm'); clear hb10))
      go_ret
      exact ⟨rfl, HB10.out⟩
    · have hbe : (old.toList == fresh.toList) = false := by rw [neq_str]; exact decide_eq_false hof
      go_wp2_with (first
        | (go_at_call 9; (with_reducible refine (CA2.out _ HP4.out).mono ?_); rintro e w5 ⟨rfl, HP5, HX5⟩; have HB5 := Lib.hid (Bx.below2 HB4.out HX5.out (Nat.le_refl _) hg' hm'))
        | (go_at_call 13; (with_reducible refine (CK.out _ _ _ hSk HP5.out HB5.out).mono ?_); rintro e w8 ⟨rfl, HP8, HX8⟩; have HB8 := Lib.hid (Bx.below2 HB5.out HX8.out (Nat.le_refl _) hg' hm'))
        | (go_at_call 14; (with_reducible refine (CR.out _ _ HP8.out).mono ?_); rintro e w9 ⟨rfl, hb9⟩; have HB9 := Lib.hid (Bx.below2 (g := g) (m := m) HB8.out (Bx.below hb9) (Nat.le_refl _) hg' hm'); clear hb9)
        | (go_at_call 7; (with_reducible refine (AW.out _).mono ?_); rintro e w10 ⟨rfl, hb10⟩; have HB10 := Lib.hid (Bx.below2 (g := g) (m := m) HB9.out (Bx.below hb10) (Nat.le_refl _) hg' hm'); clear hb10))
      go_ret
      exact ⟨rfl, HB10.out⟩
end Dsk
end Go.Proofs.Ytnbmjbelmcibgaa
