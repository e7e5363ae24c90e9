/- All files' names: the walk. -/
import Derived.Test.YtnbmjbelmcibgaaDskG
import Derived.Test.YtnbmjbelmcibgaaIter
import Derived.Test.YtnbmjbelmcibgaaIn
import Derived.Sort.KeysCollected
import Derived.WideShapes
import Derived.Deep.Onto
set_option linter.unusedSimpArgs false
set_option linter.unusedVariables false
namespace Go.Proofs.Ytnbmjbelmcibgaa
open Go.RowKit Go.Great Go.Maps
namespace Dsk
theorem bytes_le : ∀ (a b : List UInt8), bytesBefore a b = true → a ≤ b
  | [], b, _ => List.nil_le b
  | a :: r, [], h => by cases h
  | a :: r, b :: s, h => by
    rw [List.cons_le_cons_iff]
    unfold bytesBefore at h
    rcases (Bool.or_eq_true _ _).mp h with h | h
    · exact Or.inl (of_decide_eq_true h)
    · obtain ⟨h1, h2⟩ := (Bool.and_eq_true _ _).mp h
      exact Or.inr ⟨eq_of_beq h1, bytes_le r s h2⟩
def nmsOf (l : List FileIn) : List (List UInt8) := l.map fun f => f.nm
theorem keys_datum (l : List FileIn) : strKeys (datum l) = nmsOf l := by
  unfold strKeys datum nmsOf
  dsimp only
  rw [List.map_map]
  rfl
theorem sorted_nms {l : List FileIn} (h : Fok l) {ss : List (List UInt8)} (hp : ss.Perm (strKeys (datum l))) : ss.mergeSort (fun x y => decide (x ≤ y)) = nmsOf l := by
  rw [keys_datum] at hp
  rw [show ss.mergeSort (fun x y => decide (x ≤ y)) = ss.mergeSort leB from rfl, mergeSort_of_perm hp]
  refine List.mergeSort_of_pairwise ?_
  unfold nmsOf
  rw [List.pairwise_map]
  refine h.rise.imp fun {a b} hab => ?_
  exact decide_eq_true (bytes_le _ _ hab)
/-- Texts, as they stand in a row. -/
def rowOf (l : List (List UInt8)) : List Value := l.map Go.Proofs.encStr
theorem names_dead {d : DkIn} (h : d.dead = true) : namesV d = [] := by unfold namesV; rw [h]; rfl
theorem names_live {d : DkIn} (h : d.dead = false) : namesV d = nmsOf d.files := by unfold namesV; rw [h]; rfl
set_option maxRecDepth 100000 in
set_option maxHeartbeats 2000000 in
theorem names_any (w : World) (g m n : Nat) (d : DkIn) (h : PD w g m n d) (hd : Dok d) (hn : n < 1000000) : Calls Try.prog 24 #[.pointer (some ⟨g, 0, none⟩)] w fun e w' => ∃ v, e = .returned v ∧ Hid (w'.ownsRow w.heap.size 9 1 v (namesV d).length (rowOf (namesV d))) ∧ Hid (Below w.heap.size w w') := by
  have HP := Lib.hid h
  have CW : Hid (Calls Try.prog 26 #[.pointer (some ⟨g, 0, none⟩)] w fun e w' => e = .returned (.int .i64 (if d.dead then 14 else 0)) ∧ w = w') := wakes_any w g m n d h
  obtain ⟨c0, -⟩ := h.cells
  have hl : g < w.heap.size := h.lt.1
  have hml : m < w.heap.size := h.lt.2
  clear h
  cases hdd : d.dead with
  | true =>
    rw [names_dead hdd]
    rw [hdd] at CW
    go_enter Try.func24, Try.ntmps24
    go_wp2_with (go_at_call 26; (with_reducible refine CW.out.mono ?_); rintro e w1 ⟨rfl, rfl⟩)
    go_ret
    exact ⟨_, rfl, World.ownsRow_nil _ _ _ _, Below.refl _ _⟩
  | false =>
    rw [names_live hdd]
    rw [hdd] at CW
    have hsz : Maps.size (datum d.files) ≤ n := HP.out.own.size_le
    apply (callsIn_wide (n := 6)).1
    have hfK : Fence.wide.fn 40 := trivial
    have hfS : Fence.wide.fn 39 := trivial
    have hfW : Fence.wide.fn 26 := trivial
    have CW2 : Hid (CallsIn Fence.wide 5 Try.prog 26 #[.pointer (some ⟨g, 0, none⟩)] w fun e w' => e = .returned (.int .i64 0) ∧ w = w') := callsIn_wide.2 CW.out
    refine callsIn_of_wp Try.func24 rfl trivial ?_
    simp only [Try.ntmps24, List.size_toArray, List.length_cons, List.length_nil, Nat.reduceAdd, Nat.reduceSub, Array.replicate_succ, Array.replicate_zero, List.push_toArray, List.append_toArray, List.nil_append, List.cons_append]
    gi_wp2_with (first
      | (gi_at_call 26; refine CW2.out.mono ?_; rintro e w1 ⟨rfl, rfl⟩)
      | (gi_at_call 40; refine (Try.maps_Keys_40 _ _).mono ?_; rintro e w' ⟨rfl, rfl⟩)
      | (gi_at_call 39; refine (Try.slices_Sorted_keys_39_40 m n (datum d.files) fileElem w HP.out.own (by unfold maxLen; omega) (by omega)).mono ?_; rintro e w' ⟨v, ss, rfl, hS, hrow, hnil, hb⟩))
    go_ret
    rw [sorted_nms hd.fok hS] at hrow
    have hlen : ss.length = (nmsOf d.files).length := by rw [hS.length_eq, keys_datum]
    rw [hlen] at hrow
    exact ⟨v, rfl, hrow.mono (by simp), (below_al (Below.refl _ _) _).trans (hb.mono (by simp))⟩
end Dsk
end Go.Proofs.Ytnbmjbelmcibgaa
