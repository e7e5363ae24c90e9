/- The document's disk: it is made, an act is done: the walks. -/
import Derived.Test.YtnbmjbelmcibgaaRdI
set_option linter.unusedSimpArgs false
set_option linter.unusedVariables false
namespace Go.Proofs.Ytnbmjbelmcibgaa
open Go.RowKit Go.Great Go.Maps
namespace Dsk
set_option maxRecDepth 100000 in
theorem rnew_any (w : World) (z : Int) (h : 0 ≤ z ∧ z ≤ 16777216) : Calls Try.prog 17 #[.int .i64 z] w fun e w' => e = .returned (.tuple #[.pointer (some ⟨w.heap.size, 0, none⟩), .int .i64 0]) ∧ Hid (RD w' w.heap.size w.heap.size (.slice none 0 0) (newD z)) ∧ Hid (Below w.heap.size w w') := by
  obtain ⟨h0, h1⟩ := h
  have d0 : decide (z < 0) = false := decide_eq_false (by omega)
  have d1 : decide (16777216 < z) = false := decide_eq_false (by omega)
  have n0 : ¬ z < 0 := by omega
  have n1 : ¬ 16777216 < z := by omega
  go_enter Try.func17, Try.ntmps17
  go_wp2
  go_ret2
  refine ⟨rfl, ⟨?_, World.ownsRow_nil _ _ _ _, by simp [Value.ownBlock], Nat.le_refl _⟩, below_al (Below.refl _ _) _⟩
  exact World.rowIs_alloc w #[.slice none 0 0, .int .i64 z, .int .i64 0, .int .i64 0, .bool false, .bool false] 50 (cellR (.slice none 0 0) (newD z)) (fun i hi => by
    match i, hi with
    | 0, _ => rfl
    | 1, _ => rfl
    | 2, _ => rfl
    | 3, _ => rfl
    | 4, _ => rfl
    | 5, _ => rfl)
theorem rnew_bad (w : World) (z : Int) (h : z < 0 ∨ 16777216 < z) : Calls Try.prog 17 #[.int .i64 z] w fun e w' => e = .returned (.tuple #[.pointer none, .int .i64 1]) ∧ w = w' := by
  by_cases h0 : z < 0
  · have d0 : decide (z < 0) = true := decide_eq_true h0
    go_enter Try.func17, Try.ntmps17
    go_wp2
    go_ret2
    exact ⟨rfl, rfl⟩
  · have d0 : decide (z < 0) = false := decide_eq_false h0
    have h1 : 16777216 < z := h.resolve_left h0
    have d1 : decide (16777216 < z) = true := decide_eq_true h1
    go_enter Try.func17, Try.ntmps17
    go_wp2
    go_ret2
    exact ⟨rfl, rfl⟩
set_option maxRecDepth 100000 in
set_option maxHeartbeats 4000000 in
theorem rdo_any (W0 w : World) (g B : Nat) (v : Value) (d : DkIn) (h : RD w g B v d) (k : Nat) (hs : Siz d k) (hk : k ≤ 1000) (b : ActB) (hc : ActCame W0 b) (hf : Few b.a) (hw : Below W0.heap.size W0 w) : Calls Try.prog 18 #[.pointer (some ⟨g, 0, none⟩), .agg b.val] w fun e w' => e = .returned (.tuple #[.string ⟨(doV d b.a).1.1.toArray⟩, .int .i64 (doV d b.a).1.2]) ∧ (∃ v', Hid (RD w' g B v' (doV d b.a).2)) ∧ Hid (Below B w w') := by
  obtain ⟨hl, hb, -⟩ := hs.lens hk
  have hn : d.files.length < 80000 := by have := hs.len; omega
  obtain ⟨⟨kind, nn, name, arg, half, keep⟩, ka, kc⟩ := b
  have hkeep := hc.keep
  obtain ⟨f1, f2, f3, f4⟩ := hf
  dsimp only at hkeep f1 f2 f3 f4
  have hd := hs.ok
  unfold ActB.val
  dsimp only
  have hbs := h.hB
  have hlo := h.lo
  have sz1 : (ByteArray.mk name.toArray).size ≤ 1000000000 := by show name.toArray.size ≤ _; rw [List.size_toArray]; omega
  have sz2 : (ByteArray.mk arg.toArray).size ≤ 1000000000 := by show arg.toArray.size ≤ _; rw [List.size_toArray]; omega
  obtain ⟨K, hK⟩ : ∃ K, K = Obj.cells #[.int .i64 kind, .int .i64 nn, .string ⟨name.toArray⟩, .string ⟨arg.toArray⟩, .bool half, .slice ka keep.length kc] 40 := ⟨_, rfl⟩
  have HP : Hid (RD (w.alloc K) g B v d) := h.below (below_al (Below.refl _ _) _)
  have HX : Hid (Below B w (w.alloc K)) := (below_al (Below.refl w.heap.size w) _).mono hbs
  have HW : Hid (Below W0.heap.size W0 (w.alloc K)) := below_al hw _
  have CA : Hid (RD (w.alloc K) g B v d → Calls Try.prog 32 #[.pointer (some ⟨g, 0, none⟩), .string ⟨name.toArray⟩, .string ⟨arg.toArray⟩] (w.alloc K) fun e w' => e = .returned (.int .i64 (appendV d name arg).1) ∧ (∃ v', Hid (RD w' g B v' (appendV d name arg).2)) ∧ Hid (Below B (w.alloc K) w')) := fun h => rappend_any _ g B v d h hd hn _ _ sz1 sz2 hb
  have CS : Hid (RD (w.alloc K) g B v d → Calls Try.prog 33 #[.pointer (some ⟨g, 0, none⟩), .string ⟨name.toArray⟩] (w.alloc K) fun e w' => e = .returned (.int .i64 (syncV d name).1) ∧ (∃ v', Hid (RD w' g B v' (syncV d name).2)) ∧ Hid (Below B (w.alloc K) w')) := fun h => rsync_any _ g B v d h hd (by omega) _
  have CC : Hid (RD (w.alloc K) g B v d → Calls Try.prog 34 #[.pointer (some ⟨g, 0, none⟩), .string ⟨name.toArray⟩, .int .i64 nn] (w.alloc K) fun e w' => e = .returned (.int .i64 (cutV d name nn).1) ∧ (∃ v', Hid (RD w' g B v' (cutV d name nn).2)) ∧ Hid (Below B (w.alloc K) w')) := fun h => rcut_any _ g B v d h hd (by omega) hl _ _
  have CR : Hid (RD (w.alloc K) g B v d → Calls Try.prog 35 #[.pointer (some ⟨g, 0, none⟩), .string ⟨name.toArray⟩, .string ⟨arg.toArray⟩] (w.alloc K) fun e w' => e = .returned (.int .i64 (renameV d name arg).1) ∧ (∃ v', Hid (RD w' g B v' (renameV d name arg).2)) ∧ Hid (Below B (w.alloc K) w')) := fun h => rrename_any _ g B v d h hd hn _ _ sz1 sz2
  have CF : Hid (RD (w.alloc K) g B v d → Calls Try.prog 36 #[.pointer (some ⟨g, 0, none⟩), .int .i64 nn, .bool half] (w.alloc K) fun e w' => e = .returned (.tuple #[]) ∧ (∃ v', Hid (RD w' g B v' (fuseV d nn half))) ∧ Hid (Below B (w.alloc K) w')) := fun h => (rfuse_any _ g B v d h _ _).mono fun e w' ⟨h1, h2, h3⟩ => ⟨h1, ⟨v, h2⟩, toB h3.out h.hB hlo⟩
  have CK : Hid (RD (w.alloc K) g B v d → Below W0.heap.size W0 (w.alloc K) → Calls Try.prog 37 #[.pointer (some ⟨g, 0, none⟩), .slice ka keep.length kc] (w.alloc K) fun e w' => e = .returned (.int .i64 0) ∧ (∃ v', Hid (RD w' g B v' (crashV d keep))) ∧ Hid (Below B (w.alloc K) w')) := fun h h2 => rcrash_any W0 _ g B v d h hd.fok hn hl _ keep hkeep h2
  have CD : Hid (RD (w.alloc K) g B v d → Calls Try.prog 38 #[.pointer (some ⟨g, 0, none⟩), .string ⟨name.toArray⟩] (w.alloc K) fun e w' => e = .returned (.tuple #[.string ⟨(readV d name).1.toArray⟩, .int .i64 (readV d name).2]) ∧ w.alloc K = w') := fun h => rread_any _ g B v d h hd (by omega) _
  subst hK
  clear h hw hc hkeep
  unfold doV
  dsimp only
  by_cases n1 : kind = 1
  · rw [if_pos n1]
    subst n1
    have b1 : ((1 : Int) == 1) = true := rfl
    go_enter Try.func18, Try.ntmps18
    go_wp2_with (go_at_call 32; (refine (CA.out HP.out).mono ?_); rintro e w2 ⟨rfl, ⟨v2, HP2⟩, HX2⟩)
    go_ret2
    exact ⟨rfl, ⟨_, HP2⟩, HX.out.trans HX2.out⟩
  · rw [if_neg n1]
    by_cases n2 : kind = 2
    · rw [if_pos n2]
      subst n2
      have b2 : ((2 : Int) == 2) = true := rfl
      go_enter Try.func18, Try.ntmps18
      go_wp2_with (go_at_call 33; (refine (CS.out HP.out).mono ?_); rintro e w2 ⟨rfl, ⟨v2, HP2⟩, HX2⟩)
      go_ret2
      exact ⟨rfl, ⟨_, HP2⟩, HX.out.trans HX2.out⟩
    · rw [if_neg n2]
      by_cases n3 : kind = 3
      · rw [if_pos n3]
        subst n3
        have b3 : ((3 : Int) == 3) = true := rfl
        go_enter Try.func18, Try.ntmps18
        go_wp2_with (go_at_call 34; (refine (CC.out HP.out).mono ?_); rintro e w2 ⟨rfl, ⟨v2, HP2⟩, HX2⟩)
        go_ret2
        exact ⟨rfl, ⟨_, HP2⟩, HX.out.trans HX2.out⟩
      · rw [if_neg n3]
        by_cases n4 : kind = 4
        · rw [if_pos n4]
          subst n4
          have b4 : ((4 : Int) == 4) = true := rfl
          go_enter Try.func18, Try.ntmps18
          go_wp2_with (go_at_call 35; (refine (CR.out HP.out).mono ?_); rintro e w2 ⟨rfl, ⟨v2, HP2⟩, HX2⟩)
          go_ret2
          exact ⟨rfl, ⟨_, HP2⟩, HX.out.trans HX2.out⟩
        · rw [if_neg n4]
          by_cases n5 : kind = 5
          · rw [if_pos n5]
            subst n5
            have b5 : ((5 : Int) == 5) = true := rfl
            go_enter Try.func18, Try.ntmps18
            go_wp2_with (go_at_call 36; (refine (CF.out HP.out).mono ?_); rintro e w2 ⟨rfl, ⟨v2, HP2⟩, HX2⟩)
            go_ret2
            exact ⟨rfl, ⟨_, HP2⟩, HX.out.trans HX2.out⟩
          · rw [if_neg n5]
            by_cases n6 : kind = 6
            · rw [if_pos n6]
              subst n6
              have b6 : ((6 : Int) == 6) = true := rfl
              go_enter Try.func18, Try.ntmps18
              go_wp2_with (go_at_call 37; (refine (CK.out HP.out HW.out).mono ?_); rintro e w2 ⟨rfl, ⟨v2, HP2⟩, HX2⟩)
              go_ret2
              exact ⟨rfl, ⟨_, HP2⟩, HX.out.trans HX2.out⟩
            · rw [if_neg n6]
              have b1 : (kind == 1) = false := beq_eq_false_iff_ne.2 n1
              have b2 : (kind == 2) = false := beq_eq_false_iff_ne.2 n2
              have b3 : (kind == 3) = false := beq_eq_false_iff_ne.2 n3
              have b4 : (kind == 4) = false := beq_eq_false_iff_ne.2 n4
              have b5 : (kind == 5) = false := beq_eq_false_iff_ne.2 n5
              have b6 : (kind == 6) = false := beq_eq_false_iff_ne.2 n6
              go_enter Try.func18, Try.ntmps18
              go_wp2_with (go_at_call 38; (refine (CD.out HP.out).mono ?_); rintro e w2 ⟨rfl, rfl⟩)
              go_ret2
              exact ⟨rfl, ⟨_, HP⟩, HX⟩
end Dsk
end Go.Proofs.Ytnbmjbelmcibgaa
