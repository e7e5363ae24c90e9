/- Roles as words: the words, and what Names answers. -/
import Derived.Test.YtfmcggejifnhfaaDoorRolP
import Derived.Test.YtfmcggejifnhfaaDoorIn
import Derived.Test.YtfmcggejifnhfaaDoorOwn
import Derived.Test.YtfmcggejifnhfaaDoorShelf
namespace Go.Proofs.YtfmcggejifnhfaaDoor
open Go.RowKit
namespace Rol
open In (strVals Strs)
theorem below2 {w a b : World} (h : Below w.heap.size w a) (h2 : Below a.heap.size a b) : Below w.heap.size w b := h.trans (h2.mono h.size)
theorem below_al {w x : World} (h : Below w.heap.size w x) (o : Obj) : Below w.heap.size w (x.alloc o) := h.alloc h.size o
def wds : List ByteArray := [⟨#[100, 105, 114, 101, 99, 116, 111, 114]⟩, ⟨#[119, 97, 108, 108, 101, 116]⟩, ⟨#[102, 97, 99, 116, 111, 114, 121]⟩, ⟨#[98, 114, 111, 107, 101, 114]⟩, ⟨#[116, 97, 107, 101, 49]⟩, ⟨#[116, 97, 107, 101, 50]⟩, ⟨#[116, 97, 107, 101, 51]⟩, ⟨#[116, 97, 107, 101, 52]⟩]
theorem words_any (w : World) : Calls Tryd.prog 20 #[] w fun e w' => e = .returned (.agg #[.string ⟨#[100, 105, 114, 101, 99, 116, 111, 114]⟩, .string ⟨#[119, 97, 108, 108, 101, 116]⟩, .string ⟨#[102, 97, 99, 116, 111, 114, 121]⟩, .string ⟨#[98, 114, 111, 107, 101, 114]⟩, .string ⟨#[116, 97, 107, 101, 49]⟩, .string ⟨#[116, 97, 107, 101, 50]⟩, .string ⟨#[116, 97, 107, 101, 51]⟩, .string ⟨#[116, 97, 107, 101, 52]⟩]) ∧ Below w.heap.size w w' := by
  go_enter Tryd.func20, Tryd.ntmps20
  go_wp2
  refine bodyPost_ret (by simp [results, Tryd.results20, go_sem]; rfl) rfl ?_
  exact ⟨rfl, (Below.refl _ _).alloc (Nat.le_refl _) _⟩
theorem strs_new (W : World) (t : TypeId) : Strs (W.alloc (.cells #[.string ⟨#[100, 105, 114, 101, 99, 116, 111, 114]⟩, .string ⟨#[119, 97, 108, 108, 101, 116]⟩, .string ⟨#[102, 97, 99, 116, 111, 114, 121]⟩, .string ⟨#[98, 114, 111, 107, 101, 114]⟩, .string ⟨#[116, 97, 107, 101, 49]⟩, .string ⟨#[116, 97, 107, 101, 50]⟩, .string ⟨#[116, 97, 107, 101, 51]⟩, .string ⟨#[116, 97, 107, 101, 52]⟩] t)) (some ⟨W.heap.size, 0, none⟩) wds := by
  intro i hi
  refine ⟨W.heap.size, 0, rfl, by rw [World.size_alloc]; omega, ?_⟩
  match i, hi with
  | 0, _ => go_simp; rfl
  | 1, _ => go_simp; rfl
  | 2, _ => go_simp; rfl
  | 3, _ => go_simp; rfl
  | 4, _ => go_simp; rfl
  | 5, _ => go_simp; rfl
  | 6, _ => go_simp; rfl
  | 7, _ => go_simp; rfl
theorem refWords_any (w : World) : Calls Tryd.prog 22 #[] w fun e w' => e = .returned (.slice (some ⟨w.heap.size, 0, none⟩) 8 8) ∧ Hid (Strs w' (some ⟨w.heap.size, 0, none⟩) wds) ∧ Below w.heap.size w w' := by
  go_enter Tryd.func22, Tryd.ntmps22
  go_wp2
  go_ret
  exact ⟨rfl, strs_new w _, (Below.refl _ _).alloc (Nat.le_refl _) _⟩
/-- The words of the first k bits. -/
def namesL (n : Nat) : Nat → List ByteArray
  | 0 => []
  | k + 1 => namesL n k ++ if n.testBit k then [wds.getD k ByteArray.empty] else []
theorem namesL_length (n k : Nat) : (namesL n k).length ≤ k := by
  induction k with
  | zero => exact Nat.le_refl _
  | succ k ih =>
    rw [namesL, List.length_append]
    split
    · simpa using ih
    · simp; omega
theorem bit_row (n k : Nat) (hn : n < 256) (c : Int) (hc : (2 : Int) ^ k = c) : (bits .and .i64 ((n : Int) / c) 1 == 1) = n.testBit k := by rw [← hc]; exact bit_one n k hn
theorem bit_row0 (n : Nat) (hn : n < 256) : (bits .and .i64 (n : Int) 1 == 1) = n.testBit 0 := by
  have := bit_one n 0 hn
  rwa [show ((n : Int) / 2 ^ 0) = n by simp] at this
theorem joinTail_len (r : List (List UInt8)) (h : ∀ x ∈ r, x.length ≤ 8) : (Lib.joinTail [44] r).length ≤ 9 * r.length := by
  induction r with
  | nil => exact Nat.le_refl _
  | cons a r ih =>
    have h1 := h a (List.mem_cons_self)
    have h2 := ih fun x hx => h x (List.mem_cons_of_mem _ hx)
    unfold Lib.joinTail at h2 ⊢
    simp only [List.map_cons, List.flatten_cons, List.length_append, List.length_cons, List.length_nil] at h2 ⊢
    omega
theorem wds_small (k : Nat) : (wds.getD k ByteArray.empty).data.toList.length ≤ 8 := by
  match k with
  | 0 => decide
  | 1 => decide
  | 2 => decide
  | 3 => decide
  | 4 => decide
  | 5 => decide
  | 6 => decide
  | 7 => decide
  | k + 8 => exact Nat.zero_le _
theorem namesL_small (n k : Nat) : ∀ x ∈ (namesL n k).map (·.data.toList), x.length ≤ 8 := by
  induction k with
  | zero => intro x hx; cases hx
  | succ k ih =>
    intro x hx
    rw [namesL, List.map_append, List.mem_append] at hx
    rcases hx with hx | hx
    · exact ih x hx
    · split at hx
      · simp only [List.map_cons, List.map_nil, List.mem_singleton] at hx
        rw [hx]
        exact wds_small k
      · cases hx
theorem names_join (n : Nat) : (Lib.join ((namesL n 8).map (·.data.toList)) [44]).length ≤ 140737488355328 := by
  have h := namesL_small n 8
  have hl := namesL_length n 8
  cases hc : (namesL n 8).map (·.data.toList) with
  | nil => rw [Lib.join_nil]; exact Nat.zero_le _
  | cons a r =>
    rw [hc] at h
    rw [Lib.join_cons, List.length_append]
    have h1 := h a List.mem_cons_self
    have h2 := joinTail_len r fun x hx => h x (List.mem_cons_of_mem _ hx)
    have h3 := congrArg List.length hc
    rw [List.length_map, List.length_cons] at h3
    omega
theorem cap_of_own {w : World} {base : Nat} {T : TypeId} {a : Option Addr} {n c cap : Nat} {xs : List Value} (h : w.ownsRow base T 1 (.slice a n cap) c xs) : n ≤ cap := by
  rcases h.2 with ⟨h0, h1⟩ | ⟨g, cap', cur, h0, h1, h2⟩
  · cases h0; exact Nat.le_refl _
  · cases h0
    exact h2.2.1
def dash : ByteArray := ⟨#[45]⟩
/-- What Names answers. -/
def namesV (n : Nat) : ByteArray := if namesL n 8 = [] then dash else ⟨(Lib.join ((namesL n 8).map (·.data.toList)) [44]).toArray⟩
theorem info9 : (Tryd.prog.info? 9).map (fun i => (i.zero, i.size, i.bytes)) = some (some (.string ⟨#[]⟩), 1, 16) := by kernel_rfl
set_option maxHeartbeats 4000000 in
theorem names_any (a : Int) (w : World) :
    Calls Tryd.prog 7 #[.int .i64 a] w fun e w' => e = .returned (.tuple #[.string (if isP a then namesV a.toNat else ⟨#[]⟩), .int .i64 (if isP a then 0 else 1)]) ∧ Below w.heap.size w w' := by
  obtain ⟨i0, hi, hz0, hz1, hz2⟩ := info_parts info9
  have I1 : Hid (∀ W, Calls Tryd.prog 19 #[.int .i64 a] W fun e w' => e = .returned (.bool (isP a)) ∧ W = w') := is_any a
  cases h1 : isP a
  · rw [h1] at I1
    go_enter Tryd.func7, Tryd.ntmps7
    go_wp2_with (go_at_call 19; ((with_reducible refine (I1.out _).mono ?_); rintro e w1 ⟨rfl, rfl⟩))
    go_ret2
    exact ⟨rfl, Below.refl _ _⟩
  rw [h1] at I1
  obtain ⟨n, hn, rfl⟩ := isP_yes h1
  have HV : Hid ((if true = true then namesV (n : Int).toNat else (⟨#[]⟩ : ByteArray)) = namesV n) := rfl
  have HN := Lib.hid hn
  clear h1 hn
  have x0 : ∀ w : World, (Instr.index 36 (.agg #[.string ⟨#[100, 105, 114, 101, 99, 116, 111, 114]⟩, .string ⟨#[119, 97, 108, 108, 101, 116]⟩, .string ⟨#[102, 97, 99, 116, 111, 114, 121]⟩, .string ⟨#[98, 114, 111, 107, 101, 114]⟩, .string ⟨#[116, 97, 107, 101, 49]⟩, .string ⟨#[116, 97, 107, 101, 50]⟩, .string ⟨#[116, 97, 107, 101, 51]⟩, .string ⟨#[116, 97, 107, 101, 52]⟩]) (.int .i64 0)).run Tryd.prog w = .ok (.string ⟨#[100, 105, 114, 101, 99, 116, 111, 114]⟩) w := fun _ => by kernel_rfl
  have x1 : ∀ w : World, (Instr.index 36 (.agg #[.string ⟨#[100, 105, 114, 101, 99, 116, 111, 114]⟩, .string ⟨#[119, 97, 108, 108, 101, 116]⟩, .string ⟨#[102, 97, 99, 116, 111, 114, 121]⟩, .string ⟨#[98, 114, 111, 107, 101, 114]⟩, .string ⟨#[116, 97, 107, 101, 49]⟩, .string ⟨#[116, 97, 107, 101, 50]⟩, .string ⟨#[116, 97, 107, 101, 51]⟩, .string ⟨#[116, 97, 107, 101, 52]⟩]) (.int .i64 1)).run Tryd.prog w = .ok (.string ⟨#[119, 97, 108, 108, 101, 116]⟩) w := fun _ => by kernel_rfl
  have x2 : ∀ w : World, (Instr.index 36 (.agg #[.string ⟨#[100, 105, 114, 101, 99, 116, 111, 114]⟩, .string ⟨#[119, 97, 108, 108, 101, 116]⟩, .string ⟨#[102, 97, 99, 116, 111, 114, 121]⟩, .string ⟨#[98, 114, 111, 107, 101, 114]⟩, .string ⟨#[116, 97, 107, 101, 49]⟩, .string ⟨#[116, 97, 107, 101, 50]⟩, .string ⟨#[116, 97, 107, 101, 51]⟩, .string ⟨#[116, 97, 107, 101, 52]⟩]) (.int .i64 2)).run Tryd.prog w = .ok (.string ⟨#[102, 97, 99, 116, 111, 114, 121]⟩) w := fun _ => by kernel_rfl
  have x3 : ∀ w : World, (Instr.index 36 (.agg #[.string ⟨#[100, 105, 114, 101, 99, 116, 111, 114]⟩, .string ⟨#[119, 97, 108, 108, 101, 116]⟩, .string ⟨#[102, 97, 99, 116, 111, 114, 121]⟩, .string ⟨#[98, 114, 111, 107, 101, 114]⟩, .string ⟨#[116, 97, 107, 101, 49]⟩, .string ⟨#[116, 97, 107, 101, 50]⟩, .string ⟨#[116, 97, 107, 101, 51]⟩, .string ⟨#[116, 97, 107, 101, 52]⟩]) (.int .i64 3)).run Tryd.prog w = .ok (.string ⟨#[98, 114, 111, 107, 101, 114]⟩) w := fun _ => by kernel_rfl
  have x4 : ∀ w : World, (Instr.index 36 (.agg #[.string ⟨#[100, 105, 114, 101, 99, 116, 111, 114]⟩, .string ⟨#[119, 97, 108, 108, 101, 116]⟩, .string ⟨#[102, 97, 99, 116, 111, 114, 121]⟩, .string ⟨#[98, 114, 111, 107, 101, 114]⟩, .string ⟨#[116, 97, 107, 101, 49]⟩, .string ⟨#[116, 97, 107, 101, 50]⟩, .string ⟨#[116, 97, 107, 101, 51]⟩, .string ⟨#[116, 97, 107, 101, 52]⟩]) (.int .i64 4)).run Tryd.prog w = .ok (.string ⟨#[116, 97, 107, 101, 49]⟩) w := fun _ => by kernel_rfl
  have x5 : ∀ w : World, (Instr.index 36 (.agg #[.string ⟨#[100, 105, 114, 101, 99, 116, 111, 114]⟩, .string ⟨#[119, 97, 108, 108, 101, 116]⟩, .string ⟨#[102, 97, 99, 116, 111, 114, 121]⟩, .string ⟨#[98, 114, 111, 107, 101, 114]⟩, .string ⟨#[116, 97, 107, 101, 49]⟩, .string ⟨#[116, 97, 107, 101, 50]⟩, .string ⟨#[116, 97, 107, 101, 51]⟩, .string ⟨#[116, 97, 107, 101, 52]⟩]) (.int .i64 5)).run Tryd.prog w = .ok (.string ⟨#[116, 97, 107, 101, 50]⟩) w := fun _ => by kernel_rfl
  have x6 : ∀ w : World, (Instr.index 36 (.agg #[.string ⟨#[100, 105, 114, 101, 99, 116, 111, 114]⟩, .string ⟨#[119, 97, 108, 108, 101, 116]⟩, .string ⟨#[102, 97, 99, 116, 111, 114, 121]⟩, .string ⟨#[98, 114, 111, 107, 101, 114]⟩, .string ⟨#[116, 97, 107, 101, 49]⟩, .string ⟨#[116, 97, 107, 101, 50]⟩, .string ⟨#[116, 97, 107, 101, 51]⟩, .string ⟨#[116, 97, 107, 101, 52]⟩]) (.int .i64 6)).run Tryd.prog w = .ok (.string ⟨#[116, 97, 107, 101, 51]⟩) w := fun _ => by kernel_rfl
  have x7 : ∀ w : World, (Instr.index 36 (.agg #[.string ⟨#[100, 105, 114, 101, 99, 116, 111, 114]⟩, .string ⟨#[119, 97, 108, 108, 101, 116]⟩, .string ⟨#[102, 97, 99, 116, 111, 114, 121]⟩, .string ⟨#[98, 114, 111, 107, 101, 114]⟩, .string ⟨#[116, 97, 107, 101, 49]⟩, .string ⟨#[116, 97, 107, 101, 50]⟩, .string ⟨#[116, 97, 107, 101, 51]⟩, .string ⟨#[116, 97, 107, 101, 52]⟩]) (.int .i64 7)).run Tryd.prog w = .ok (.string ⟨#[116, 97, 107, 101, 52]⟩) w := fun _ => by kernel_rfl
  go_enter Tryd.func7, Tryd.ntmps7
  go_wp2_with (first
    | (go_at_call 19; ((with_reducible refine (I1.out _).mono ?_); rintro e w0 ⟨rfl, rfl⟩))
    | (go_at_call 20; ((with_reducible refine (words_any _).mono ?_); rintro e w1 ⟨rfl, hb1⟩)))
  have HB1 := Lib.hid hb1
  clear hb1
  go_loopw [4, 11] (fun o i wr => ∃ k : Nat, k ≤ 8 ∧ i = .int .i64 k ∧ wr.ownsRow w1.heap.size 9 1 o (namesL n k).length (strVals (namesL n k)) ∧ Below w1.heap.size w1 wr) (fun _ i _ => 8 - (intOf i).toNat)
  case atStart => exact ⟨0, by omega, rfl, ⟨rfl, .inl ⟨rfl, rfl⟩⟩, Below.refl _ _⟩
  case round =>
    obtain ⟨k, hk, rfl, hown, hbr⟩ := hrel
    by_cases hlt : k < 8
    · have hk8 : k = 0 ∨ k = 1 ∨ k = 2 ∨ k = 3 ∨ k = 4 ∨ k = 5 ∨ k = 6 ∨ k = 7 := by omega
      clear hk hlt
      rcases hk8 with rfl | rfl | rfl | rfl | rfl | rfl | rfl | rfl
      · have hb := bit_row0 n HN.out
        have hL : Hid (namesL n 1 = namesL n 0 ++ if n.testBit 0 then [wds.getD 0 ByteArray.empty] else []) := rfl
        cases ht : n.testBit 0
        · rw [ht] at hb hL
          have hL2 : Hid (namesL n 1 = namesL n 0) := by show _ = _; rw [hL.out]; simp
          clear ht
          go_wp2
          go_roundw
          case rel => exact ⟨1, by omega, rfl, by rw [hL2.out]; exact hown, hbr⟩
          case measure => simp [intOf]
        · rw [ht] at hb hL
          have hL2 : Hid (namesL n 1 = namesL n 0 ++ [⟨#[100, 105, 114, 101, 99, 116, 111, 114]⟩]) := by show _ = _; rw [hL.out]; rfl
          clear ht
          go_wp2_with (at_builtin; refine Own.list_one rfl (.tmp 20) (.tmp 22) 35 rfl w1.heap.size 9 i0 _ 16 Tryd.underlying35 hi hz0 hz1 hz2 rfl _ (namesL n 0).length _ rfl _ _ _ rfl (hown.alloc _) (Own.cell_new _ _ _) rfl ?h1 ?h2 ?h3 ?_; (case h1 => have := namesL_length n 0; unfold maxLen; omega); (case h2 => have := namesL_length n 0; omega); (case h3 => have := hbr.size; simp; omega); intro v' w3 hown3 hgrow3)
          go_roundw
          case rel => exact ⟨1, by omega, rfl, by rw [hL2.out, List.length_append, strVals, List.map_append]; exact hown3, (below_al hbr _).grown hgrow3 (below_al hbr _).size (Own.own_block hown (Nat.le_refl _))⟩
          case measure => simp [intOf]
      · have hb := bit_row n 1 HN.out 2 rfl
        have hL : Hid (namesL n 2 = namesL n 1 ++ if n.testBit 1 then [wds.getD 1 ByteArray.empty] else []) := rfl
        cases ht : n.testBit 1
        · rw [ht] at hb hL
          have hL2 : Hid (namesL n 2 = namesL n 1) := by show _ = _; rw [hL.out]; simp
          clear ht
          go_wp2
          go_roundw
          case rel => exact ⟨2, by omega, rfl, by rw [hL2.out]; exact hown, hbr⟩
          case measure => simp [intOf]
        · rw [ht] at hb hL
          have hL2 : Hid (namesL n 2 = namesL n 1 ++ [⟨#[119, 97, 108, 108, 101, 116]⟩]) := by show _ = _; rw [hL.out]; rfl
          clear ht
          go_wp2_with (at_builtin; refine Own.list_one rfl (.tmp 20) (.tmp 22) 35 rfl w1.heap.size 9 i0 _ 16 Tryd.underlying35 hi hz0 hz1 hz2 rfl _ (namesL n 1).length _ rfl _ _ _ rfl (hown.alloc _) (Own.cell_new _ _ _) rfl ?h1 ?h2 ?h3 ?_; (case h1 => have := namesL_length n 1; unfold maxLen; omega); (case h2 => have := namesL_length n 1; omega); (case h3 => have := hbr.size; simp; omega); intro v' w3 hown3 hgrow3)
          go_roundw
          case rel => exact ⟨2, by omega, rfl, by rw [hL2.out, List.length_append, strVals, List.map_append]; exact hown3, (below_al hbr _).grown hgrow3 (below_al hbr _).size (Own.own_block hown (Nat.le_refl _))⟩
          case measure => simp [intOf]
      · have hb := bit_row n 2 HN.out 4 rfl
        have hL : Hid (namesL n 3 = namesL n 2 ++ if n.testBit 2 then [wds.getD 2 ByteArray.empty] else []) := rfl
        cases ht : n.testBit 2
        · rw [ht] at hb hL
          have hL2 : Hid (namesL n 3 = namesL n 2) := by show _ = _; rw [hL.out]; simp
          clear ht
          go_wp2
          go_roundw
          case rel => exact ⟨3, by omega, rfl, by rw [hL2.out]; exact hown, hbr⟩
          case measure => simp [intOf]
        · rw [ht] at hb hL
          have hL2 : Hid (namesL n 3 = namesL n 2 ++ [⟨#[102, 97, 99, 116, 111, 114, 121]⟩]) := by show _ = _; rw [hL.out]; rfl
          clear ht
          go_wp2_with (at_builtin; refine Own.list_one rfl (.tmp 20) (.tmp 22) 35 rfl w1.heap.size 9 i0 _ 16 Tryd.underlying35 hi hz0 hz1 hz2 rfl _ (namesL n 2).length _ rfl _ _ _ rfl (hown.alloc _) (Own.cell_new _ _ _) rfl ?h1 ?h2 ?h3 ?_; (case h1 => have := namesL_length n 2; unfold maxLen; omega); (case h2 => have := namesL_length n 2; omega); (case h3 => have := hbr.size; simp; omega); intro v' w3 hown3 hgrow3)
          go_roundw
          case rel => exact ⟨3, by omega, rfl, by rw [hL2.out, List.length_append, strVals, List.map_append]; exact hown3, (below_al hbr _).grown hgrow3 (below_al hbr _).size (Own.own_block hown (Nat.le_refl _))⟩
          case measure => simp [intOf]
      · have hb := bit_row n 3 HN.out 8 rfl
        have hL : Hid (namesL n 4 = namesL n 3 ++ if n.testBit 3 then [wds.getD 3 ByteArray.empty] else []) := rfl
        cases ht : n.testBit 3
        · rw [ht] at hb hL
          have hL2 : Hid (namesL n 4 = namesL n 3) := by show _ = _; rw [hL.out]; simp
          clear ht
          go_wp2
          go_roundw
          case rel => exact ⟨4, by omega, rfl, by rw [hL2.out]; exact hown, hbr⟩
          case measure => simp [intOf]
        · rw [ht] at hb hL
          have hL2 : Hid (namesL n 4 = namesL n 3 ++ [⟨#[98, 114, 111, 107, 101, 114]⟩]) := by show _ = _; rw [hL.out]; rfl
          clear ht
          go_wp2_with (at_builtin; refine Own.list_one rfl (.tmp 20) (.tmp 22) 35 rfl w1.heap.size 9 i0 _ 16 Tryd.underlying35 hi hz0 hz1 hz2 rfl _ (namesL n 3).length _ rfl _ _ _ rfl (hown.alloc _) (Own.cell_new _ _ _) rfl ?h1 ?h2 ?h3 ?_; (case h1 => have := namesL_length n 3; unfold maxLen; omega); (case h2 => have := namesL_length n 3; omega); (case h3 => have := hbr.size; simp; omega); intro v' w3 hown3 hgrow3)
          go_roundw
          case rel => exact ⟨4, by omega, rfl, by rw [hL2.out, List.length_append, strVals, List.map_append]; exact hown3, (below_al hbr _).grown hgrow3 (below_al hbr _).size (Own.own_block hown (Nat.le_refl _))⟩
          case measure => simp [intOf]
      · have hb := bit_row n 4 HN.out 16 rfl
        have hL : Hid (namesL n 5 = namesL n 4 ++ if n.testBit 4 then [wds.getD 4 ByteArray.empty] else []) := rfl
        cases ht : n.testBit 4
        · rw [ht] at hb hL
          have hL2 : Hid (namesL n 5 = namesL n 4) := by show _ = _; rw [hL.out]; simp
          clear ht
          go_wp2
          go_roundw
          case rel => exact ⟨5, by omega, rfl, by rw [hL2.out]; exact hown, hbr⟩
          case measure => simp [intOf]
        · rw [ht] at hb hL
          have hL2 : Hid (namesL n 5 = namesL n 4 ++ [⟨#[116, 97, 107, 101, 49]⟩]) := by show _ = _; rw [hL.out]; rfl
          clear ht
          go_wp2_with (at_builtin; refine Own.list_one rfl (.tmp 20) (.tmp 22) 35 rfl w1.heap.size 9 i0 _ 16 Tryd.underlying35 hi hz0 hz1 hz2 rfl _ (namesL n 4).length _ rfl _ _ _ rfl (hown.alloc _) (Own.cell_new _ _ _) rfl ?h1 ?h2 ?h3 ?_; (case h1 => have := namesL_length n 4; unfold maxLen; omega); (case h2 => have := namesL_length n 4; omega); (case h3 => have := hbr.size; simp; omega); intro v' w3 hown3 hgrow3)
          go_roundw
          case rel => exact ⟨5, by omega, rfl, by rw [hL2.out, List.length_append, strVals, List.map_append]; exact hown3, (below_al hbr _).grown hgrow3 (below_al hbr _).size (Own.own_block hown (Nat.le_refl _))⟩
          case measure => simp [intOf]
      · have hb := bit_row n 5 HN.out 32 rfl
        have hL : Hid (namesL n 6 = namesL n 5 ++ if n.testBit 5 then [wds.getD 5 ByteArray.empty] else []) := rfl
        cases ht : n.testBit 5
        · rw [ht] at hb hL
          have hL2 : Hid (namesL n 6 = namesL n 5) := by show _ = _; rw [hL.out]; simp
          clear ht
          go_wp2
          go_roundw
          case rel => exact ⟨6, by omega, rfl, by rw [hL2.out]; exact hown, hbr⟩
          case measure => simp [intOf]
        · rw [ht] at hb hL
          have hL2 : Hid (namesL n 6 = namesL n 5 ++ [⟨#[116, 97, 107, 101, 50]⟩]) := by show _ = _; rw [hL.out]; rfl
          clear ht
          go_wp2_with (at_builtin; refine Own.list_one rfl (.tmp 20) (.tmp 22) 35 rfl w1.heap.size 9 i0 _ 16 Tryd.underlying35 hi hz0 hz1 hz2 rfl _ (namesL n 5).length _ rfl _ _ _ rfl (hown.alloc _) (Own.cell_new _ _ _) rfl ?h1 ?h2 ?h3 ?_; (case h1 => have := namesL_length n 5; unfold maxLen; omega); (case h2 => have := namesL_length n 5; omega); (case h3 => have := hbr.size; simp; omega); intro v' w3 hown3 hgrow3)
          go_roundw
          case rel => exact ⟨6, by omega, rfl, by rw [hL2.out, List.length_append, strVals, List.map_append]; exact hown3, (below_al hbr _).grown hgrow3 (below_al hbr _).size (Own.own_block hown (Nat.le_refl _))⟩
          case measure => simp [intOf]
      · have hb := bit_row n 6 HN.out 64 rfl
        have hL : Hid (namesL n 7 = namesL n 6 ++ if n.testBit 6 then [wds.getD 6 ByteArray.empty] else []) := rfl
        cases ht : n.testBit 6
        · rw [ht] at hb hL
          have hL2 : Hid (namesL n 7 = namesL n 6) := by show _ = _; rw [hL.out]; simp
          clear ht
          go_wp2
          go_roundw
          case rel => exact ⟨7, by omega, rfl, by rw [hL2.out]; exact hown, hbr⟩
          case measure => simp [intOf]
        · rw [ht] at hb hL
          have hL2 : Hid (namesL n 7 = namesL n 6 ++ [⟨#[116, 97, 107, 101, 51]⟩]) := by show _ = _; rw [hL.out]; rfl
          clear ht
          go_wp2_with (at_builtin; refine Own.list_one rfl (.tmp 20) (.tmp 22) 35 rfl w1.heap.size 9 i0 _ 16 Tryd.underlying35 hi hz0 hz1 hz2 rfl _ (namesL n 6).length _ rfl _ _ _ rfl (hown.alloc _) (Own.cell_new _ _ _) rfl ?h1 ?h2 ?h3 ?_; (case h1 => have := namesL_length n 6; unfold maxLen; omega); (case h2 => have := namesL_length n 6; omega); (case h3 => have := hbr.size; simp; omega); intro v' w3 hown3 hgrow3)
          go_roundw
          case rel => exact ⟨7, by omega, rfl, by rw [hL2.out, List.length_append, strVals, List.map_append]; exact hown3, (below_al hbr _).grown hgrow3 (below_al hbr _).size (Own.own_block hown (Nat.le_refl _))⟩
          case measure => simp [intOf]
      · have hb := bit_row n 7 HN.out 128 rfl
        have hL : Hid (namesL n 8 = namesL n 7 ++ if n.testBit 7 then [wds.getD 7 ByteArray.empty] else []) := rfl
        cases ht : n.testBit 7
        · rw [ht] at hb hL
          have hL2 : Hid (namesL n 8 = namesL n 7) := by show _ = _; rw [hL.out]; simp
          clear ht
          go_wp2
          go_roundw
          case rel => exact ⟨8, by omega, rfl, by rw [hL2.out]; exact hown, hbr⟩
          case measure => simp [intOf]
        · rw [ht] at hb hL
          have hL2 : Hid (namesL n 8 = namesL n 7 ++ [⟨#[116, 97, 107, 101, 52]⟩]) := by show _ = _; rw [hL.out]; rfl
          clear ht
          go_wp2_with (at_builtin; refine Own.list_one rfl (.tmp 20) (.tmp 22) 35 rfl w1.heap.size 9 i0 _ 16 Tryd.underlying35 hi hz0 hz1 hz2 rfl _ (namesL n 7).length _ rfl _ _ _ rfl (hown.alloc _) (Own.cell_new _ _ _) rfl ?h1 ?h2 ?h3 ?_; (case h1 => have := namesL_length n 7; unfold maxLen; omega); (case h2 => have := namesL_length n 7; omega); (case h3 => have := hbr.size; simp; omega); intro v' w3 hown3 hgrow3)
          go_roundw
          case rel => exact ⟨8, by omega, rfl, by rw [hL2.out, List.length_append, strVals, List.map_append]; exact hown3, (below_al hbr _).grown hgrow3 (below_al hbr _).size (Own.own_block hown (Nat.le_refl _))⟩
          case measure => simp [intOf]
    · have hke : k = 8 := by omega
      subst hke
      have hl := namesL_length n 8
      obtain ⟨a2, c2, rfl, hst⟩ := In.strs_of_own hown
      by_cases h0 : namesL n 8 = []
      · have HV2 : Hid (namesV n = dash) := if_pos h0
        rw [h0] at *
        go_wp2
        go_ret2
        exact ⟨by first | (rw [HV2.out]; rfl) | (rw [HV.out, HV2.out]; rfl), below2 HB1.out hbr⟩
      · have HV2 : Hid (namesV n = ⟨(Lib.join ((namesL n 8).map (·.data.toList)) [44]).toArray⟩) := if_neg h0
        have HJ := Lib.hid (names_join n)
        obtain ⟨b, off, rfl, hbl, hc0⟩ := hst 0 (List.length_pos_iff.2 h0)
        have CJ : Hid (Calls Tryd.prog 21 #[.slice (some ⟨b, off, none⟩) (namesL n 8).length c2, .string ⟨#[44]⟩] wr fun e w' => e = .returned (.string ⟨(Lib.join ((namesL n 8).map (·.data.toList)) [44]).toArray⟩) ∧ Below wr.heap.size wr w') := Tryd.strings_Join b off c2 (namesL n 8) ⟨#[44]⟩ wr (fun j x hj => by
            have hjl : j < (namesL n 8).length := (List.getElem?_eq_some_iff.1 hj).1
            obtain ⟨b2, off2, he, _, hc2⟩ := hst j hjl
            cases he
            rw [hc2]
            simp only [List.getD, hj, Option.getD]) hbl (by omega) (cap_of_own hown) HJ.out
        have dl : (((namesL n 8).length : Int) == 0) = false := beq_eq_false_iff_ne.2 (by have := List.length_pos_iff.2 h0; omega)
        clear h0 hc0
        go_wp2_with (go_at_call 21; ((with_reducible refine CJ.out.mono ?_); rintro e w3 ⟨rfl, hb3⟩))
        go_ret2
        exact ⟨by first | (rw [HV2.out]; rfl) | (rw [HV.out, HV2.out]; rfl), below2 (below2 HB1.out hbr) hb3⟩
end Rol
end Go.Proofs.YtfmcggejifnhfaaDoor
