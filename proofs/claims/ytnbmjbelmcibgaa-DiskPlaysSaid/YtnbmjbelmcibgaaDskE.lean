/- An act is done: the walk. -/
import Derived.Test.YtnbmjbelmcibgaaDskD
set_option linter.unusedSimpArgs false
set_option linter.unusedVariables false
namespace Go.Proofs.Ytnbmjbelmcibgaa
open Go.RowKit Go.Great Go.Maps
namespace Dsk
/-- An act, and where its numbers lie. -/
structure ActB where
  a : ActIn
  ka : Option Addr
  kc : Nat
def ActB.val (b : ActB) : Array Value := #[.int .i64 b.a.kind, .int .i64 b.a.n, .string ⟨b.a.name.toArray⟩, .string ⟨b.a.arg.toArray⟩, .bool b.a.half, .slice b.ka b.a.keep.length b.kc]
/-- What is known of an act that came. -/
structure ActCame (W : World) (b : ActB) : Prop where
  keep : In.IsInts .i64 W (.slice b.ka b.a.keep.length b.kc) b.a.keep
  n : b.a.n ≤ 9223372036854775807
set_option maxRecDepth 100000 in
set_option maxHeartbeats 4000000 in
theorem do_any (W0 w : World) (g m : Nat) (d : DkIn) (h : PD w g m d.files.length d) (k : Nat) (hs : Siz d k) (hk : k ≤ 1000) (b : ActB) (hc : ActCame W0 b) (hf : Few b.a) (hw : Below W0.heap.size W0 w) (hg0 : W0.heap.size ≤ g) (hm0 : W0.heap.size ≤ m) : Calls Try.prog 16 #[.pointer (some ⟨g, 0, none⟩), .agg b.val] w fun e w' => e = .returned (.tuple #[.string ⟨(doV d b.a).1.1.toArray⟩, .int .i64 (doV d b.a).1.2]) ∧ Hid (PD w' g m (doV d b.a).2.files.length (doV d b.a).2) ∧ Hid (Bx g m w w') := by
  obtain ⟨hl, hb, hn⟩ := hs.lens hk
  obtain ⟨⟨kind, nn, name, arg, half, keep⟩, ka, kc⟩ := b
  have hkeep := hc.keep
  obtain ⟨f1, f2, f3, f4⟩ := hf
  dsimp only at hkeep f1 f2 f3 f4
  have hd := hs.ok
  unfold ActB.val
  dsimp only
  have sz1 : (ByteArray.mk name.toArray).size ≤ 1000000000 := by show name.toArray.size ≤ _; rw [List.size_toArray]; omega
  have sz2 : (ByteArray.mk arg.toArray).size ≤ 1000000000 := by show arg.toArray.size ≤ _; rw [List.size_toArray]; omega
  obtain ⟨B, hB⟩ : ∃ B, B = Obj.cells #[.int .i64 kind, .int .i64 nn, .string ⟨name.toArray⟩, .string ⟨arg.toArray⟩, .bool half, .slice ka keep.length kc] 40 := ⟨_, rfl⟩
  have HP : Hid (PD (w.alloc B) g m d.files.length d) := h.below (below_al (Below.refl _ _) _)
  have HX : Hid (Bx g m w (w.alloc B)) := Bx.below (below_al (Below.refl _ _) _)
  have HW : Hid (Below W0.heap.size W0 (w.alloc B)) := below_al hw _
  have CA : Hid (PD (w.alloc B) g m d.files.length d → Calls Try.prog 9 #[.pointer (some ⟨g, 0, none⟩), .string ⟨name.toArray⟩, .string ⟨arg.toArray⟩] (w.alloc B) fun e w' => e = .returned (.int .i64 (appendV d name arg).1) ∧ Hid (PD w' g m (d.files.length + 1) (appendV d name arg).2) ∧ Hid (Bx g m (w.alloc B) w')) := fun h => append_any _ g m _ d h hd (by omega) _ _ sz1 sz2 hb hl
  have CS : Hid (PD (w.alloc B) g m d.files.length d → Calls Try.prog 10 #[.pointer (some ⟨g, 0, none⟩), .string ⟨name.toArray⟩] (w.alloc B) fun e w' => e = .returned (.int .i64 (syncV d name).1) ∧ Hid (PD w' g m (d.files.length + 1) (syncV d name).2) ∧ Hid (Bx g m (w.alloc B) w')) := fun h => sync_any _ g m _ d h hd (by omega) _ sz1
  have CC : Hid (PD (w.alloc B) g m d.files.length d → Calls Try.prog 31 #[.pointer (some ⟨g, 0, none⟩), .string ⟨name.toArray⟩, .int .i64 nn] (w.alloc B) fun e w' => e = .returned (.int .i64 (cutV d name nn).1) ∧ Hid (PD w' g m (d.files.length + 1) (cutV d name nn).2) ∧ Hid (Bx g m (w.alloc B) w')) := fun h => cut_any _ g m _ d h hd (by omega) _ sz1 _ hl
  have CR : Hid (PD (w.alloc B) g m d.files.length d → Calls Try.prog 12 #[.pointer (some ⟨g, 0, none⟩), .string ⟨name.toArray⟩, .string ⟨arg.toArray⟩] (w.alloc B) fun e w' => e = .returned (.int .i64 (renameV d name arg).1) ∧ Hid (PD w' g m (d.files.length + 1) (renameV d name arg).2) ∧ Hid (Bx g m (w.alloc B) w')) := fun h => rename_any _ g m _ d h hd (by omega) _ _ sz1 sz2
  have CF : Hid (PD (w.alloc B) g m d.files.length d → Calls Try.prog 11 #[.pointer (some ⟨g, 0, none⟩), .int .i64 nn, .bool half] (w.alloc B) fun e w' => e = .returned (.tuple #[]) ∧ Hid (PD w' g m d.files.length (fuseV d nn half)) ∧ Hid (Bx g m (w.alloc B) w')) := fun h => fuse_any _ g m _ d h _ _
  have CK : Hid (PD (w.alloc B) g m d.files.length d → Below W0.heap.size W0 (w.alloc B) → Calls Try.prog 13 #[.pointer (some ⟨g, 0, none⟩), .slice ka keep.length kc] (w.alloc B) fun e w' => e = .returned (.int .i64 0) ∧ Hid (PD w' g m d.files.length (crashV d keep)) ∧ Hid (Bx g m (w.alloc B) w')) := fun h h2 => crash_any W0 _ g m _ d h hd hn hl _ keep hkeep h2 hg0 hm0
  have CD : Hid (PD (w.alloc B) g m d.files.length d → Calls Try.prog 14 #[.pointer (some ⟨g, 0, none⟩), .string ⟨name.toArray⟩] (w.alloc B) fun e w' => e = .returned (.tuple #[.string ⟨(readV d name).1.toArray⟩, .int .i64 (readV d name).2]) ∧ Below (w.alloc B).heap.size (w.alloc B) w') := fun h => read_any _ g m _ d h _ sz1
  subst hB
  clear h hw hc hkeep
  unfold doV
  dsimp only
  by_cases n1 : kind = 1
  · rw [if_pos n1]
    subst n1
    have b1 : ((1 : Int) == 1) = true := rfl
    go_enter Try.func16, Try.ntmps16
    go_wp2_with (go_at_call 9; (refine (CA.out HP.out).mono ?_); rintro e w2 ⟨rfl, HP2, HX2⟩)
    go_ret2
    exact ⟨rfl, HP2.out.tight, HX.out.trans HX2.out⟩
  · rw [if_neg n1]
    by_cases n2 : kind = 2
    · rw [if_pos n2]
      subst n2
      have b2 : ((2 : Int) == 2) = true := rfl
      go_enter Try.func16, Try.ntmps16
      go_wp2_with (go_at_call 10; (refine (CS.out HP.out).mono ?_); rintro e w2 ⟨rfl, HP2, HX2⟩)
      go_ret2
      exact ⟨rfl, HP2.out.tight, HX.out.trans HX2.out⟩
    · rw [if_neg n2]
      by_cases n3 : kind = 3
      · rw [if_pos n3]
        subst n3
        have b3 : ((3 : Int) == 3) = true := rfl
        go_enter Try.func16, Try.ntmps16
        go_wp2_with (go_at_call 31; (refine (CC.out HP.out).mono ?_); rintro e w2 ⟨rfl, HP2, HX2⟩)
        go_ret2
        exact ⟨rfl, HP2.out.tight, HX.out.trans HX2.out⟩
      · rw [if_neg n3]
        by_cases n4 : kind = 4
        · rw [if_pos n4]
          subst n4
          have b4 : ((4 : Int) == 4) = true := rfl
          go_enter Try.func16, Try.ntmps16
          go_wp2_with (go_at_call 12; (refine (CR.out HP.out).mono ?_); rintro e w2 ⟨rfl, HP2, HX2⟩)
          go_ret2
          exact ⟨rfl, HP2.out.tight, HX.out.trans HX2.out⟩
        · rw [if_neg n4]
          by_cases n5 : kind = 5
          · rw [if_pos n5]
            subst n5
            have b5 : ((5 : Int) == 5) = true := rfl
            go_enter Try.func16, Try.ntmps16
            go_wp2_with (go_at_call 11; (refine (CF.out HP.out).mono ?_); rintro e w2 ⟨rfl, HP2, HX2⟩)
            go_ret2
            exact ⟨rfl, HP2.out.tight, HX.out.trans HX2.out⟩
          · rw [if_neg n5]
            by_cases n6 : kind = 6
            · rw [if_pos n6]
              subst n6
              have b6 : ((6 : Int) == 6) = true := rfl
              go_enter Try.func16, Try.ntmps16
              go_wp2_with (go_at_call 13; (refine (CK.out HP.out HW.out).mono ?_); rintro e w2 ⟨rfl, HP2, HX2⟩)
              go_ret2
              exact ⟨rfl, HP2.out.tight, HX.out.trans HX2.out⟩
            · rw [if_neg n6]
              have b1 : (kind == 1) = false := beq_eq_false_iff_ne.2 n1
              have b2 : (kind == 2) = false := beq_eq_false_iff_ne.2 n2
              have b3 : (kind == 3) = false := beq_eq_false_iff_ne.2 n3
              have b4 : (kind == 4) = false := beq_eq_false_iff_ne.2 n4
              have b5 : (kind == 5) = false := beq_eq_false_iff_ne.2 n5
              have b6 : (kind == 6) = false := beq_eq_false_iff_ne.2 n6
              go_enter Try.func16, Try.ntmps16
              go_wp2_with (go_at_call 14; (refine (CD.out HP.out).mono ?_); rintro e w2 ⟨rfl, hb2⟩)
              go_ret2
              exact ⟨rfl, HP.out.below hb2, HX.out.trans (Bx.below hb2)⟩
end Dsk
end Go.Proofs.Ytnbmjbelmcibgaa
