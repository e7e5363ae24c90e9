/- Lists of names that are the same; an act on a disk that nobody made: the walks. -/
import Derived.Test.YtnbmjbelmcibgaaDskE
import Derived.BigQuiet
import Derived.Deep.QuietTactic
set_option linter.unusedSimpArgs false
set_option linter.unusedVariables false
namespace Go.Proofs.Ytnbmjbelmcibgaa
open Go.RowKit Go.Great Go.Maps
namespace Dsk
theorem neq_str (a b : ByteArray) : (a.toList == b.toList) = decide (a = b) := by
  rw [ByteArray.toList_eq, ByteArray.toList_eq, Bool.eq_iff_iff]
  simp [ByteArray.ext_iff]
/-- Are lists of texts the same? -/
def same (l m : List ByteArray) : Bool := decide (l = m)
set_option maxHeartbeats 1000000 in
theorem same_any (a b : Option Addr) (cap cap2 : Nat) (l m : List ByteArray) (hl : l.length ≤ maxLen) (hm : m.length ≤ maxLen) (w : World) (ha : In.Strs w a l) (hb : In.Strs w b m) :
    Calls Try.prog 23 #[.slice a l.length cap, .slice b m.length cap2] w fun e w' => e = .returned (.bool (same l m)) ∧ Below w.heap.size w w' := by
  unfold maxLen at hl hm
  by_cases hlen : l.length = m.length
  · have hlen1 : ((l.length : Int) != (m.length : Int)) = false := by simp [hlen]
    have HL := Lib.hid hlen
    clear hlen
    go_enter Try.func23, Try.ntmps23
    go_wp2
    go_loopw [5] (fun i wr => ∃ k q : Nat, k ≤ l.length ∧ i = .int .i64 k ∧ wr = w.drewN q ∧ Hid (l.take k = m.take k)) (fun i _ => l.length - (intOf i).toNat)
    case atStart => exact ⟨0, 0, by omega, rfl, rfl, rfl⟩
    case round =>
      obtain ⟨k, q, hk, rfl, rfl, HK⟩ := hrel
      have HLo := HL.out
      have hBW : Hid (Below w.heap.size w (w.drewN q)) := below_dN (Below.refl _ _) q
      by_cases hlt : k < l.length
      · obtain ⟨b1, off1, rfl, hb1, hc1⟩ := ha k hlt
        obtain ⟨b2, off2, rfl, hb2, hc2⟩ := hb k (by omega)
        have hlt2 : (k : Int) < (m.length : Int) := by omega
        have hlt1 : (k : Int) < (l.length : Int) := by omega
        have e1 : l.take (k + 1) = l.take k ++ [l.getD k ByteArray.empty] := by
          rw [List.take_succ_eq_append_getElem hlt, List.getD_eq_getElem?_getD, List.getElem?_eq_getElem hlt]; rfl
        have e2 : m.take (k + 1) = m.take k ++ [m.getD k ByteArray.empty] := by
          have h2 : k < m.length := by omega
          rw [List.take_succ_eq_append_getElem h2, List.getD_eq_getElem?_getD, List.getElem?_eq_getElem h2]; rfl
        have E1 := Lib.hid e1
        have E2 := Lib.hid e2
        have HLo := Lib.hid HLo
        clear e1 e2 ha hb
        clear HLo
        generalize l.getD k ByteArray.empty = x at *
        generalize m.getD k ByteArray.empty = y at *
        by_cases hxy : x = y
        · have hbeq : (x.toList == y.toList) = true := by rw [neq_str]; simp [hxy]
          have HXY := Lib.hid hxy
          clear hxy
          go_wp2
          go_quiet (fail)
          go_wp2
          go_roundw
          case rel => exact ⟨k + 1, q + nq, by omega, by go_num, rfl, by show List.take _ _ = _; rw [E1.out, E2.out, HK.out, HXY.out]⟩
          case measure => simp [intOf]; omega
        · have hbeq : (x.toList == y.toList) = false := by rw [neq_str]; simp [hxy]
          have hs : Hid (same l m = false) := by
            show same l m = false
            apply decide_eq_false
            intro h
            subst h
            have h3 := E1.out.symm.trans E2.out
            exact hxy (by simpa using List.append_cancel_left h3)
          have HN := Lib.hid hxy
          clear hxy
          go_wp2
          go_quiet (fail)
          go_wp2
          go_ret
          exact ⟨by rw [hs.out]; rfl, below_dN hBW.out _⟩
      · have hs : Hid (same l m = true) := by
          show same l m = true
          apply decide_eq_true
          have h1 := HK.out
          rw [List.take_of_length_le (by omega), List.take_of_length_le (by omega)] at h1
          exact h1
        have hlt1 : decide ((k : Int) < (l.length : Int)) = false := decide_eq_false (by omega)
        clear ha hb HLo
        go_wp2
        go_ret
        exact ⟨by rw [hs.out]; rfl, below_dN (Below.refl _ _) _⟩
  · have hlen1 : ((l.length : Int) != (m.length : Int)) = true := by simp; omega
    have hs : Hid (same l m = false) := by
      show same l m = false
      apply decide_eq_false
      intro h
      exact hlen (by rw [h])
    clear hlen ha hb
    go_enter Try.func23, Try.ntmps23
    go_wp2
    go_ret
    exact ⟨by rw [hs.out]; rfl, Below.refl _ _⟩

set_option maxRecDepth 100000 in
set_option maxHeartbeats 4000000 in
theorem do_no (w : World) (p : Value) (h : NoD w p) (b : ActB) : Calls Try.prog 16 #[p, .agg b.val] w fun e w' => e = .returned (.tuple #[.string ⟨#[]⟩, .int .i64 (if b.a.kind = 5 then 0 else 1)]) ∧ Below w.heap.size w w' := by
  obtain ⟨⟨kind, nn, name, arg, half, keep⟩, ka, kc⟩ := b
  unfold ActB.val
  dsimp only
  have CA : Hid (∀ W, Below w.heap.size w W → Calls Try.prog 9 #[p, .string ⟨name.toArray⟩, .string ⟨arg.toArray⟩] W fun e w' => e = .returned (.int .i64 1) ∧ W = w') := fun W hW => append_no W p (h.below hW) _ _
  have CR : Hid (∀ W, Below w.heap.size w W → Calls Try.prog 12 #[p, .string ⟨name.toArray⟩, .string ⟨arg.toArray⟩] W fun e w' => e = .returned (.int .i64 1) ∧ W = w') := fun W hW => rename_no W p (h.below hW) _ _
  have CS : Hid (∀ W, Below w.heap.size w W → Calls Try.prog 10 #[p, .string ⟨name.toArray⟩] W fun e w' => e = .returned (.int .i64 1) ∧ Below W.heap.size W w') := fun W hW => sync_no W p (h.below hW) _
  have CC : Hid (∀ W, Below w.heap.size w W → Calls Try.prog 31 #[p, .string ⟨name.toArray⟩, .int .i64 nn] W fun e w' => e = .returned (.int .i64 1) ∧ Below W.heap.size W w') := fun W hW => cut_no W p (h.below hW) _ _
  have CF : Hid (∀ W, Below w.heap.size w W → Calls Try.prog 11 #[p, .int .i64 nn, .bool half] W fun e w' => e = .returned (.tuple #[]) ∧ W = w') := fun W hW => fuse_no W p (h.below hW) _ _
  have CK : Hid (∀ W, Below w.heap.size w W → Calls Try.prog 13 #[p, .slice ka keep.length kc] W fun e w' => e = .returned (.int .i64 1) ∧ W = w') := fun W hW => crash_no W p (h.below hW) _
  have CD : Hid (∀ W, Below w.heap.size w W → Calls Try.prog 14 #[p, .string ⟨name.toArray⟩] W fun e w' => e = .returned (.tuple #[.string ⟨#[]⟩, .int .i64 1]) ∧ Below W.heap.size W w') := fun W hW => read_no W p (h.below hW) _
  clear h
  by_cases n1 : kind = 1
  · subst n1
    have b1 : ((1 : Int) == 1) = true := rfl
    rw [if_neg (by decide)]
    go_enter Try.func16, Try.ntmps16
    go_wp2_with (go_at_call 9; (refine (CA.out _ (below_al (Below.refl _ _) _)).mono ?_); rintro e w2 ⟨rfl, rfl⟩)
    go_ret2
    exact ⟨rfl, below_al (Below.refl _ _) _⟩
  · skip
    by_cases n2 : kind = 2
    · subst n2
      have b2 : ((2 : Int) == 2) = true := rfl
      rw [if_neg (by decide)]
      go_enter Try.func16, Try.ntmps16
      go_wp2_with (go_at_call 10; (refine (CS.out _ (below_al (Below.refl _ _) _)).mono ?_); rintro e w2 ⟨rfl, hb2⟩)
      go_ret2
      exact ⟨rfl, below2 (below_al (Below.refl _ _) _) hb2⟩
    · skip
      by_cases n3 : kind = 3
      · subst n3
        have b3 : ((3 : Int) == 3) = true := rfl
        rw [if_neg (by decide)]
        go_enter Try.func16, Try.ntmps16
        go_wp2_with (go_at_call 31; (refine (CC.out _ (below_al (Below.refl _ _) _)).mono ?_); rintro e w2 ⟨rfl, hb2⟩)
        go_ret2
        exact ⟨rfl, below2 (below_al (Below.refl _ _) _) hb2⟩
      · skip
        by_cases n4 : kind = 4
        · subst n4
          have b4 : ((4 : Int) == 4) = true := rfl
          rw [if_neg (by decide)]
          go_enter Try.func16, Try.ntmps16
          go_wp2_with (go_at_call 12; (refine (CR.out _ (below_al (Below.refl _ _) _)).mono ?_); rintro e w2 ⟨rfl, rfl⟩)
          go_ret2
          exact ⟨rfl, below_al (Below.refl _ _) _⟩
        · skip
          by_cases n5 : kind = 5
          · subst n5
            have b5 : ((5 : Int) == 5) = true := rfl
            rw [if_pos rfl]
            go_enter Try.func16, Try.ntmps16
            go_wp2_with (go_at_call 11; (refine (CF.out _ (below_al (Below.refl _ _) _)).mono ?_); rintro e w2 ⟨rfl, rfl⟩)
            go_ret2
            exact ⟨rfl, below_al (Below.refl _ _) _⟩
          · skip
            by_cases n6 : kind = 6
            · subst n6
              have b6 : ((6 : Int) == 6) = true := rfl
              rw [if_neg (by decide)]
              go_enter Try.func16, Try.ntmps16
              go_wp2_with (go_at_call 13; (refine (CK.out _ (below_al (Below.refl _ _) _)).mono ?_); rintro e w2 ⟨rfl, rfl⟩)
              go_ret2
              exact ⟨rfl, below_al (Below.refl _ _) _⟩
            · skip
              have b1 : (kind == 1) = false := beq_eq_false_iff_ne.2 n1
              have b2 : (kind == 2) = false := beq_eq_false_iff_ne.2 n2
              have b3 : (kind == 3) = false := beq_eq_false_iff_ne.2 n3
              have b4 : (kind == 4) = false := beq_eq_false_iff_ne.2 n4
              have b5 : (kind == 5) = false := beq_eq_false_iff_ne.2 n5
              have b6 : (kind == 6) = false := beq_eq_false_iff_ne.2 n6
              rw [if_neg n5]
              go_enter Try.func16, Try.ntmps16
              go_wp2_with (go_at_call 14; (refine (CD.out _ (below_al (Below.refl _ _) _)).mono ?_); rintro e w2 ⟨rfl, hb2⟩)
              go_ret2
              exact ⟨rfl, below2 (below_al (Below.refl _ _) _) hb2⟩
end Dsk
end Go.Proofs.Ytnbmjbelmcibgaa
