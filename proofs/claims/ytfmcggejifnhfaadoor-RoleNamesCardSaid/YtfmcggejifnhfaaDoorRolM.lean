/- The reference's Names. -/
import Derived.Test.YtfmcggejifnhfaaDoorRolS
import Derived.Test.YtfmcggejifnhfaaDoorRolB
namespace Go.Proofs.YtfmcggejifnhfaaDoor
open Go.RowKit
namespace Rol
open In (strVals Strs)
theorem joinTail_snoc (r : List (List UInt8)) (x : List UInt8) : Lib.joinTail [44] (r ++ [x]) = Lib.joinTail [44] r ++ 44 :: x := by simp [Lib.joinTail]
theorem joinB_one (x : ByteArray) : joinB [x] = x := by
  apply bytes_ext
  show (Lib.join [x.data.toList] [44]).toArray.toList = _
  rw [Lib.join_one]
theorem joinB_snoc (l : List ByteArray) (x : ByteArray) (h : l ≠ []) : joinB (l ++ [x]) = (joinB l ++ comma) ++ x := by
  cases l with
  | nil => exact absurd rfl h
  | cons a r =>
    apply bytes_ext
    show (Lib.join ((a :: r ++ [x]).map (·.data.toList)) [44]).toArray.toList = _
    rw [List.cons_append, List.map_cons, Lib.join_cons, List.map_append, List.map_cons, List.map_nil, joinTail_snoc]
    simp [joinB, Lib.join_cons, comma]
theorem joinB_size (l : List ByteArray) (a : ByteArray) (h : 1 ≤ a.size) (hl : l.head? = some a) : joinB l ≠ ⟨#[]⟩ := by
  cases l with
  | nil => cases hl
  | cons b r =>
    cases hl
    intro e
    have := congrArg (fun s : ByteArray => s.data.toList.length) e
    simp [joinB, Lib.join_cons] at this
    have h2 : a.data.toList.length = 0 := by rw [this.1]; rfl
    have : a.size = a.data.toList.length := rfl
    omega
theorem wds_pos (k : Nat) (hk : k < 8) : 1 ≤ (wds.getD k ByteArray.empty).size := by
  match k, hk with
  | 0, _ => decide
  | 1, _ => decide
  | 2, _ => decide
  | 3, _ => decide
  | 4, _ => decide
  | 5, _ => decide
  | 6, _ => decide
  | 7, _ => decide
theorem namesL_pos (n k : Nat) (hk : k ≤ 8) : ∀ x ∈ namesL n k, 1 ≤ x.size := by
  induction k with
  | zero => intro x hx; cases hx
  | succ k ih =>
    intro x hx
    rw [namesL, List.mem_append] at hx
    rcases hx with hx | hx
    · exact ih (by omega) x hx
    · split at hx
      · rw [List.mem_singleton.1 hx]
        exact wds_pos k (by omega)
      · cases hx
theorem joinB_empty (n k : Nat) (hk : k ≤ 8) : joinB (namesL n k) = ⟨#[]⟩ ↔ namesL n k = [] := by
  constructor
  · intro h
    cases hc : namesL n k with
    | nil => rfl
    | cons a r =>
      exfalso
      rw [hc] at h
      exact joinB_size (a :: r) a (namesL_pos n k hk a (by rw [hc]; exact List.mem_cons_self)) rfl h
  · intro h
    rw [h]
    rfl
theorem joinB_small (n k : Nat) (hk : k ≤ 8) : (joinB (namesL n k)).size ≤ 80 := by
  have h := namesL_small n k
  have hl := namesL_length n k
  show (Lib.join ((namesL n k).map (·.data.toList)) [44]).toArray.size ≤ 80
  rw [List.size_toArray]
  cases hc : (namesL n k).map (·.data.toList) with
  | nil => rw [Lib.join_nil]; exact Nat.zero_le _
  | cons a r =>
    rw [hc] at h
    rw [Lib.join_cons, List.length_append]
    have h1 := h a List.mem_cons_self
    have h2 := joinTail_len r fun x hx => h x (List.mem_cons_of_mem _ hx)
    have h3 := congrArg List.length hc
    rw [List.length_map, List.length_cons] at h3
    omega
theorem empty_app (x : ByteArray) : (⟨#[]⟩ : ByteArray) ++ x = x := bytes_ext (by simp)
theorem namesV_join (n : Nat) : namesV n = if namesL n 8 = [] then dash else joinB (namesL n 8) := rfl
set_option maxHeartbeats 4000000 in
theorem refNames_any (a : Int) (w : World) :
    Calls Tryd.prog 8 #[.int .i64 a] w fun e w' => e = .returned (.tuple #[.string (if isP a then namesV a.toNat else ⟨#[]⟩), .int .i64 (if isP a then 0 else 1)]) ∧ Below w.heap.size w w' := by
  have I1 : Hid (∀ W, Calls Tryd.prog 18 #[.int .i64 a] W fun e w' => e = .returned (.bool (isP a)) ∧ W = w') := may_any a
  cases h1 : isP a
  · rw [h1] at I1
    go_enter Tryd.func8, Tryd.ntmps8
    go_wp2_with (go_at_call 18; ((with_reducible refine (I1.out _).mono ?_); rintro e w1 ⟨rfl, rfl⟩))
    go_ret2
    exact ⟨rfl, Below.refl _ _⟩
  rw [h1] at I1
  obtain ⟨n, hn, rfl⟩ := isP_yes h1
  have HN := Lib.hid hn
  clear h1 hn
  go_enter Tryd.func8, Tryd.ntmps8
  go_wp2_with (first
    | (go_at_call 18; ((with_reducible refine (I1.out _).mono ?_); rintro e w0 ⟨rfl, rfl⟩))
    | (go_at_call 22; ((with_reducible refine (refWords_any _).mono ?_); rintro e w1 ⟨rfl, HW, hb1⟩)))
  have HB1 := Lib.hid hb1
  clear hb1
  go_loop [4, 6] (fun s i => ∃ k : Nat, k ≤ 8 ∧ i = .int .i64 k ∧ s = .string (joinB (namesL n k))) (fun _ i => 8 - (intOf i).toNat)
  case atStart => exact ⟨0, by omega, rfl, rfl⟩
  case round =>
    obtain ⟨k, hk, rfl, rfl⟩ := hrel
    by_cases hlt : k < 8
    · have dl : decide ((k : Int) < 8) = true := decide_eq_true (by omega)
      obtain ⟨b, off, ha, hbl, hc⟩ := HW.out k hlt
      cases ha
      rw [Nat.zero_add] at hc
      have B1 : Hid (∀ W, Calls Tryd.prog 23 #[.int .i64 (n : Int), .int .i64 (k : Int)] W fun e w' => e = .returned (.bool (n.testBit k)) ∧ W = w') := bit_any n k HN.out hlt
      have hL : Hid (namesL n (k + 1) = namesL n k ++ if n.testBit k then [wds.getD k ByteArray.empty] else []) := rfl
      have hE := joinB_empty n k hk
      have hsz := joinB_small n k hk
      have hwz : (wds.getD k ByteArray.empty).size ≤ 8 := wds_small k
      have J1 : Hid (∀ x, namesL n k = [] → joinB (namesL n k ++ [x]) = x) := fun x h => by rw [h]; exact joinB_one x
      have J2 : Hid (∀ x, namesL n k ≠ [] → joinB (namesL n k ++ [x]) = (joinB (namesL n k) ++ comma) ++ x) := fun x h => joinB_snoc _ x h
      generalize wds.getD k ByteArray.empty = x at *
      cases ht : n.testBit k
      · rw [ht] at B1 hL
        have hL2 : Hid (namesL n (k + 1) = namesL n k) := by show _ = _; rw [hL.out]; simp
        clear ht hE hsz hwz
        go_wp2_with (go_at_call 23; ((with_reducible refine (B1.out _).mono ?_); rintro e w2 ⟨rfl, rfl⟩))
        go_round
        case rel => exact ⟨k + 1, by omega, by go_num, by rw [hL2.out]⟩
        case measure => simp [intOf]; omega
      · rw [ht] at B1 hL
        have hL2 : Hid (namesL n (k + 1) = namesL n k ++ [x]) := hL.out
        by_cases h0 : namesL n k = []
        · have hj := hE.2 h0
          have HJ := Lib.hid (J1.out x h0)
          rw [hj] at *
          clear ht hE hsz h0
          go_wp2_with (go_at_call 23; ((with_reducible refine (B1.out _).mono ?_); rintro e w2 ⟨rfl, rfl⟩))
          go_round
          case rel => exact ⟨k + 1, by omega, by go_num, by rw [hL2.out, HJ.out, empty_app]⟩
          case measure => simp [intOf]; omega
        · have HJ := Lib.hid (J2.out x h0)
          have hq : ((joinB (namesL n k)).toList == []) = false := by rw [← show (⟨#[]⟩ : ByteArray).toList = [] by decide +kernel]; exact (Lib.bytes_beq_false_iff _ ⟨#[]⟩).2 (fun e => h0 (hE.1 e))
          generalize joinB (namesL n k) = S at *
          clear ht hE h0
          go_wp2_with (go_at_call 23; ((with_reducible refine (B1.out _).mono ?_); rintro e w2 ⟨rfl, rfl⟩))
          go_round
          case rel => exact ⟨k + 1, by omega, by go_num, by rw [hL2.out, HJ.out]; rfl⟩
          case measure => simp [intOf]; omega
    · have hke : k = 8 := by omega
      subst hke
      have hE := joinB_empty n 8 hk
      have HV : Hid (namesV n = if namesL n 8 = [] then dash else joinB (namesL n 8)) := rfl
      by_cases h0 : namesL n 8 = []
      · have HV2 : Hid (namesV n = dash) := by show _ = _; rw [HV.out, if_pos h0]
        rw [hE.2 h0] at *
        clear hE h0
        go_wp2
        go_ret2
        exact ⟨by first | (rw [HV2.out]; rfl) | (show _ = Ending.returned (.tuple #[.string (namesV n), .int .i64 0]); rw [HV2.out]; rfl), HB1.out⟩
      · have HV2 : Hid (namesV n = joinB (namesL n 8)) := by show _ = _; rw [HV.out, if_neg h0]
        have hq : ((joinB (namesL n 8)).toList == []) = false := by rw [← show (⟨#[]⟩ : ByteArray).toList = [] by decide +kernel]; exact (Lib.bytes_beq_false_iff _ ⟨#[]⟩).2 (fun e => h0 (hE.1 e))
        generalize joinB (namesL n 8) = S at *
        clear hE h0
        go_wp2
        go_ret2
        exact ⟨by first | (rw [HV2.out]; rfl) | (show _ = Ending.returned (.tuple #[.string (namesV n), .int .i64 0]); rw [HV2.out]; rfl), HB1.out⟩
end Rol
end Go.Proofs.YtfmcggejifnhfaaDoor
