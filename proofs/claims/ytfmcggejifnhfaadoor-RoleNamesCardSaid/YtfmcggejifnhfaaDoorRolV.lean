/- The reference's Of. -/
import Derived.Test.YtfmcggejifnhfaaDoorRolM
namespace Go.Proofs.YtfmcggejifnhfaaDoor
open Go.RowKit
namespace Rol
open In (strVals Strs)
theorem ofTo_succ (l : List ByteArray) (k q : Nat) (h : ofTo l k = some q) : ofTo l (k + 1) = if find (l.getD k ByteArray.empty) < 0 then none else if q.testBit (find (l.getD k ByteArray.empty)).toNat then none else some (q + 2 ^ (find (l.getD k ByteArray.empty)).toNat) := by
  rw [ofTo, h]
/-- How far the reference is: k words are told, one is begun, and the letters from i on are left. -/
def At (s : ByteArray) (k : Nat) (wd : ByteArray) (i : Nat) : Prop :=
  ((pieces s).drop k).map (·.data.toList) = splitL (wd.data.toList ++ s.data.toList.drop i) ∧ (44 : UInt8) ∉ wd.data.toList ∧ wd.size ≤ i
theorem at_start (s : ByteArray) : At s 0 ⟨#[]⟩ 0 := ⟨by rw [List.drop_zero, pieces_split]; rfl, by simp, Nat.le_refl _⟩
theorem ext_one (s : ByteArray) (i : Nat) (h : i < s.size) : (s.extract i (i + 1)).data.toList = [s[i]] := by
  show (s.extract i (i + 1)).data.toList = _
  rw [ByteArray.data_extract, Array.toList_extract, List.extract_eq_take_drop, show i + 1 - i = 1 by omega, List.drop_eq_getElem_cons (show i < s.data.toList.length by simpa using h)]
  rfl
theorem at_letter (s wd : ByteArray) (k i : Nat) (h : At s k wd i) (hi : i < s.size) (hc : s[i] ≠ 44) : At s k (wd ++ s.extract i (i + 1)) (i + 1) := by
  obtain ⟨h1, h2, h3⟩ := h
  have e := ext_one s i hi
  have hd : s.data.toList.drop i = s[i] :: s.data.toList.drop (i + 1) := List.drop_eq_getElem_cons (by simpa using hi)
  refine ⟨?_, ?_, ?_⟩
  · rw [h1, hd, ByteArray.data_append, Array.toList_append, e]
    simp
  · rw [ByteArray.data_append, Array.toList_append, e, List.mem_append]
    rintro (g | g)
    · exact h2 g
    · exact hc (List.mem_singleton.1 g).symm
  · rw [ByteArray.size_append]
    have : (s.extract i (i + 1)).size = 1 := by
      show (s.extract i (i + 1)).data.size = 1
      rw [← Array.length_toList, e]; rfl
    omega
theorem at_piece (s wd : ByteArray) (k : Nat) (rest : List (List UInt8)) (h : ((pieces s).drop k).map (·.data.toList) = wd.data.toList :: rest) : k < (pieces s).length ∧ (pieces s).getD k ByteArray.empty = wd ∧ ((pieces s).drop (k + 1)).map (·.data.toList) = rest := by
  have hk : k < (pieces s).length := by
    rcases Nat.lt_or_ge k (pieces s).length with g | g
    · exact g
    · rw [List.drop_eq_nil_of_le g] at h; cases h
  have hd : (pieces s).drop k = (pieces s).getD k ByteArray.empty :: (pieces s).drop (k + 1) := by
    rw [List.drop_eq_getElem_cons hk]
    simp [List.getD, hk]
  rw [hd, List.map_cons] at h
  have h1 := (List.cons.inj h)
  exact ⟨hk, bytes_ext h1.1, h1.2⟩
theorem at_comma (s wd : ByteArray) (k i : Nat) (h : At s k wd i) (hi : i < s.size) (hc : s[i] = 44) : k < (pieces s).length ∧ (pieces s).getD k ByteArray.empty = wd ∧ At s (k + 1) ⟨#[]⟩ (i + 1) := by
  obtain ⟨h1, h2, h3⟩ := h
  have hd : s.data.toList.drop i = s[i] :: s.data.toList.drop (i + 1) := List.drop_eq_getElem_cons (by simpa using hi)
  rw [hd, hc, splitL_comma _ _ h2] at h1
  obtain ⟨a, b, c⟩ := at_piece s wd k _ h1
  exact ⟨a, b, c, by simp, by show 0 ≤ _; omega⟩
theorem at_end (s wd : ByteArray) (k : Nat) (h : At s k wd s.size) : k < (pieces s).length ∧ (pieces s).getD k ByteArray.empty = wd ∧ (pieces s).length = k + 1 := by
  obtain ⟨h1, h2, h3⟩ := h
  have hd : s.data.toList.drop s.size = [] := List.drop_eq_nil_of_le (by simp)
  rw [hd, List.append_nil, splitL_end _ h2] at h1
  obtain ⟨a, b, c⟩ := at_piece s wd k _ h1
  refine ⟨a, b, ?_⟩
  have := congrArg List.length c
  simp at this
  omega
set_option maxHeartbeats 8000000 in
theorem refOf_any (s : ByteArray) (w : World) (hs : s.size ≤ 256) :
    Calls Tryd.prog 10 #[.string s] w fun e w' => e = .returned (.tuple #[.int .i64 (ofV s).1, .int .i64 (ofV s).2]) ∧ Below w.heap.size w w' := by
  have HV : Hid (ofV s = if s = dash then (0, 0) else ofP (pieces s)) := rfl
  by_cases hd : s = dash
  · have HV2 : Hid (ofV s = (0, 0)) := by show ofV s = _; rw [HV.out, if_pos hd]
    generalize ofV s = V at *
    subst hd
    unfold dash at *
    go_enter Tryd.func10, Tryd.ntmps10
    go_wp2
    go_ret2
    exact ⟨by rw [HV2.out]; rfl, Below.refl _ _⟩
  have HV2 : Hid (ofV s = ofP (pieces s)) := by show ofV s = _; rw [HV.out, if_neg hd]
  generalize ofV s = V at *
  have hq0 : (s.toList == [45]) = false := by rw [← show dash.toList = [45] by decide +kernel]; exact (Lib.bytes_beq_false_iff s dash).2 hd
  clear hd HV
  go_enter Tryd.func10, Tryd.ntmps10
  go_wp2_with (go_at_call 22; ((with_reducible refine (refWords_any _).mono ?_); rintro e w1 ⟨rfl, HW, hb1⟩))
  have HB1 := Lib.hid hb1
  clear hb1
  go_loop [4, 6, 7] (fun n x i => ∃ (i' k q : Nat) (wd : ByteArray), i' ≤ s.size + 1 ∧ i = .int .i64 i' ∧ n = .int .i64 q ∧ x = .string wd ∧ Hid (ofTo (pieces s) k = some q) ∧ Hid ((i' ≤ s.size ∧ At s k wd i') ∨ (i' = s.size + 1 ∧ k = (pieces s).length))) (fun _ _ i => s.size + 1 - (intOf i).toNat)
  case atStart => exact ⟨0, 0, 0, ⟨#[]⟩, by omega, rfl, rfl, rfl, rfl, .inl ⟨by omega, at_start s⟩⟩
  case round =>
    obtain ⟨i, k, q, wd, hi, rfl, rfl, rfl, HQ, HA⟩ := hrel
    by_cases hile : i ≤ s.size
    · have HAt : Hid (At s k wd i) := by
        rcases HA.out with h | h
        · exact h.2
        · omega
      clear HA
      have dl : decide ((i : Int) ≤ (s.size : Int)) = true := decide_eq_true (by omega)
      have hwz : wd.size ≤ 256 := by have := HAt.out.2.2; omega
      by_cases hilt : i < s.size
      · have dl2 : decide ((i : Int) < (s.size : Int)) = true := decide_eq_true (by omega)
        by_cases hc : s[i] = 44
        · have hc1 : (((s[i].toNat : Nat) : Int) == 44) = true := by rw [hc]; rfl
          have hc2 : (((s[i].toNat : Nat) : Int) != 44) = false := by rw [hc]; rfl
          obtain ⟨p1, p2, p3⟩ := at_comma s wd k i HAt.out hilt hc
          have PW : Hid (k < (pieces s).length ∧ (pieces s).getD k ByteArray.empty = wd) := ⟨p1, p2⟩
          have PN := Lib.hid p3
          clear p1 p2 p3 hc HAt
          go_wp2
          go_loop [8, 9] (fun fo j => ∃ z : Nat, z ≤ 8 ∧ j = .int .i64 z ∧ fo = .int .i64 (fnd wd z)) (fun _ j => 8 - (intOf j).toNat)
          case atStart => exact ⟨0, by omega, rfl, rfl⟩
          case round =>
            obtain ⟨z, hz, rfl, rfl⟩ := hrel
            by_cases hz8 : z < 8
            · have dz : decide ((z : Int) < 8) = true := decide_eq_true (by omega)
              obtain ⟨b, off, ha, hbl, hc⟩ := HW.out z hz8
              cases ha
              rw [Nat.zero_add] at hc
              have HF : Hid (fnd wd (z + 1) = if wds.getD z ByteArray.empty = wd then (z : Int) else fnd wd z) := rfl
              generalize wds.getD z ByteArray.empty = y at *
              by_cases hyw : y = wd
              · have hF : Hid (fnd wd (z + 1) = z) := by show _ = _; rw [HF.out, if_pos hyw]
                have hq : (y.toList == wd.toList) = true := (Lib.bytes_beq_iff _ _).2 hyw
                clear hyw
                go_wp2
                go_round
                case rel => exact ⟨z + 1, by omega, by go_num, by rw [hF.out]⟩
                case measure => simp [intOf]; omega
              · have hF : Hid (fnd wd (z + 1) = fnd wd z) := by show _ = _; rw [HF.out, if_neg hyw]
                have hq : (y.toList == wd.toList) = false := (Lib.bytes_beq_false_iff _ _).2 hyw
                clear hyw
                go_wp2
                go_round
                case rel => exact ⟨z + 1, by omega, by go_num, by rw [hF.out]⟩
                case measure => simp [intOf]; omega
            · have hze : z = 8 := by omega
              subst hze
              have hfe := fnd_find wd
              rw [hfe]
              clear hfe
              have HT := ofTo_succ (pieces s) k q HQ.out
              rw [PW.out.2] at HT
              replace HT := Lib.hid HT
              have HN : Hid (ofTo (pieces s) (k + 1) = none → V = (0, 2)) := fun h => by
                rw [HV2.out]
                unfold ofP
                rw [ofTo_no (pieces s) (k + 1) (pieces s).length h PW.out.1]
              have hfl := find_lt wd
              generalize find wd = F at *
              by_cases hF : F < 0
              · have dF : decide (F < 0) = true := decide_eq_true hF
                have HN2 : Hid (V = (0, 2)) := HN.out (by rw [HT.out, if_pos hF])
                clear hfl hF
                go_wp2
                go_ret2
                exact ⟨by rw [HN2.out]; rfl, HB1.out⟩
              · obtain ⟨g, rfl⟩ := Int.eq_ofNat_of_zero_le (show 0 ≤ F by omega)
                have dF : decide ((g : Int) < 0) = false := decide_eq_false hF
                have hg8 : g < 8 := by omega
                have hq256 := ofTo_lt (pieces s) k q HQ.out
                have BT : Hid (∀ W, Calls Tryd.prog 23 #[.int .i64 (q : Int), .int .i64 (g : Int)] W fun e w' => e = .returned (.bool (q.testBit g)) ∧ W = w') := bit_any q g hq256 hg8
                rw [Int.toNat_natCast, if_neg hF] at HT
                cases hb : q.testBit g
                · rw [hb] at BT HT
                  have HQ2 : Hid (ofTo (pieces s) (k + 1) = some (q + 2 ^ g)) := HT.out
                  have o2 := (or_pow q g hq256 hg8 hb).2
                  obtain ⟨P, qP, zP⟩ : ∃ P : Int, wrap64 (2 ^ g) = P ∧ P = ((2 ^ g : Nat) : Int) := ⟨_, by
                    have e : (2 : Int) ^ g = ((2 ^ g : Nat) : Int) := by rw [Int.natCast_pow]; rfl
                    rw [e]; clear e; generalize 2 ^ g = Y at *; unfold wrap64; omega, rfl⟩
                  obtain ⟨Z, qZ, zZ⟩ : ∃ Z : Int, wrap64 ((q : Int) + P) = Z ∧ Z = ((q + 2 ^ g : Nat) : Int) := ⟨_, by rw [zP]; generalize 2 ^ g = Y at *; unfold wrap64; omega, rfl⟩
                  have zZ := Lib.hid zZ
                  clear hfl hF hb o2 zP
                  go_wp2_with (go_at_call 23; ((with_reducible refine (BT.out _).mono ?_); rintro e w2 ⟨rfl, rfl⟩))
                  go_round
                  case rel => exact ⟨i + 1, k + 1, q + 2 ^ g, ⟨#[]⟩, by omega, by go_num, by rw [← zZ.out, ← qZ], rfl, HQ2, .inl ⟨by omega, PN.out⟩⟩
                  case measure => simp [intOf]; omega
                · rw [hb] at BT HT
                  have HN2 : Hid (V = (0, 2)) := HN.out HT.out
                  clear hfl hF hb
                  go_wp2_with (go_at_call 23; ((with_reducible refine (BT.out _).mono ?_); rintro e w2 ⟨rfl, rfl⟩))
                  go_ret2
                  exact ⟨by rw [HN2.out]; rfl, HB1.out⟩

        · have hc1 : (((s[i].toNat : Nat) : Int) == 44) = false := by
            rw [beq_eq_false_iff_ne]
            intro h
            exact hc (UInt8.toNat_inj.1 (by have : s[i].toNat = 44 := by omega
                                            rw [this]; rfl))
          have hc2 : (((s[i].toNat : Nat) : Int) != 44) = true := by show (!(((s[i].toNat : Nat) : Int) == 44)) = true; rw [hc1]; rfl
          have PN := Lib.hid (at_letter s wd k i HAt.out hilt hc)
          have hsl := Own.slice_str (P := Tryd.prog) Tryd.underlying9 s i (i + 1) (i : Int) ((i : Int) + 1) rfl (by omega) (by omega) (by omega)
          have hez : (s.extract i (i + 1)).size ≤ 1 := by simp; omega
          clear hc HAt
          go_wp2
          go_round
          case rel => exact ⟨i + 1, k, q, wd ++ s.extract i (i + 1), by omega, by go_num, rfl, rfl, HQ, .inl ⟨by omega, PN.out⟩⟩
          case measure => simp [intOf]; omega
      · have dl2 : decide ((i : Int) < (s.size : Int)) = false := decide_eq_false (by omega)
        have hie : i = s.size := by omega
        obtain ⟨p1, p2, p3⟩ := at_end s wd k (by rw [← hie]; exact HAt.out)
        have PW : Hid (k < (pieces s).length ∧ (pieces s).getD k ByteArray.empty = wd) := ⟨p1, p2⟩
        have PN : Hid ((pieces s).length = k + 1 ∧ i = s.size) := ⟨p3, hie⟩
        clear p1 p2 p3 HAt hie
        go_wp2
        go_loop [8, 9] (fun fo j => ∃ z : Nat, z ≤ 8 ∧ j = .int .i64 z ∧ fo = .int .i64 (fnd wd z)) (fun _ j => 8 - (intOf j).toNat)
        case atStart => exact ⟨0, by omega, rfl, rfl⟩
        case round =>
          obtain ⟨z, hz, rfl, rfl⟩ := hrel
          by_cases hz8 : z < 8
          · have dz : decide ((z : Int) < 8) = true := decide_eq_true (by omega)
            obtain ⟨b, off, ha, hbl, hc⟩ := HW.out z hz8
            cases ha
            rw [Nat.zero_add] at hc
            have HF : Hid (fnd wd (z + 1) = if wds.getD z ByteArray.empty = wd then (z : Int) else fnd wd z) := rfl
            generalize wds.getD z ByteArray.empty = y at *
            by_cases hyw : y = wd
            · have hF : Hid (fnd wd (z + 1) = z) := by show _ = _; rw [HF.out, if_pos hyw]
              have hq : (y.toList == wd.toList) = true := (Lib.bytes_beq_iff _ _).2 hyw
              clear hyw
              go_wp2
              go_round
              case rel => exact ⟨z + 1, by omega, by go_num, by rw [hF.out]⟩
              case measure => simp [intOf]; omega
            · have hF : Hid (fnd wd (z + 1) = fnd wd z) := by show _ = _; rw [HF.out, if_neg hyw]
              have hq : (y.toList == wd.toList) = false := (Lib.bytes_beq_false_iff _ _).2 hyw
              clear hyw
              go_wp2
              go_round
              case rel => exact ⟨z + 1, by omega, by go_num, by rw [hF.out]⟩
              case measure => simp [intOf]; omega
          · have hze : z = 8 := by omega
            subst hze
            have hfe := fnd_find wd
            rw [hfe]
            clear hfe
            have HT := ofTo_succ (pieces s) k q HQ.out
            rw [PW.out.2] at HT
            replace HT := Lib.hid HT
            have HN : Hid (ofTo (pieces s) (k + 1) = none → V = (0, 2)) := fun h => by
              rw [HV2.out]
              unfold ofP
              rw [ofTo_no (pieces s) (k + 1) (pieces s).length h PW.out.1]
            have hfl := find_lt wd
            generalize find wd = F at *
            by_cases hF : F < 0
            · have dF : decide (F < 0) = true := decide_eq_true hF
              have HN2 : Hid (V = (0, 2)) := HN.out (by rw [HT.out, if_pos hF])
              clear hfl hF
              go_wp2
              go_ret2
              exact ⟨by rw [HN2.out]; rfl, HB1.out⟩
            · obtain ⟨g, rfl⟩ := Int.eq_ofNat_of_zero_le (show 0 ≤ F by omega)
              have dF : decide ((g : Int) < 0) = false := decide_eq_false hF
              have hg8 : g < 8 := by omega
              have hq256 := ofTo_lt (pieces s) k q HQ.out
              have BT : Hid (∀ W, Calls Tryd.prog 23 #[.int .i64 (q : Int), .int .i64 (g : Int)] W fun e w' => e = .returned (.bool (q.testBit g)) ∧ W = w') := bit_any q g hq256 hg8
              rw [Int.toNat_natCast, if_neg hF] at HT
              cases hb : q.testBit g
              · rw [hb] at BT HT
                have HQ2 : Hid (ofTo (pieces s) (k + 1) = some (q + 2 ^ g)) := HT.out
                have o2 := (or_pow q g hq256 hg8 hb).2
                obtain ⟨P, qP, zP⟩ : ∃ P : Int, wrap64 (2 ^ g) = P ∧ P = ((2 ^ g : Nat) : Int) := ⟨_, by
                  have e : (2 : Int) ^ g = ((2 ^ g : Nat) : Int) := by rw [Int.natCast_pow]; rfl
                  rw [e]; clear e; generalize 2 ^ g = Y at *; unfold wrap64; omega, rfl⟩
                obtain ⟨Z, qZ, zZ⟩ : ∃ Z : Int, wrap64 ((q : Int) + P) = Z ∧ Z = ((q + 2 ^ g : Nat) : Int) := ⟨_, by rw [zP]; generalize 2 ^ g = Y at *; unfold wrap64; omega, rfl⟩
                have zZ := Lib.hid zZ
                clear hfl hF hb o2 zP
                go_wp2_with (go_at_call 23; ((with_reducible refine (BT.out _).mono ?_); rintro e w2 ⟨rfl, rfl⟩))
                go_round
                case rel => exact ⟨i + 1, k + 1, q + 2 ^ g, ⟨#[]⟩, by omega, by go_num, by rw [← zZ.out, ← qZ], rfl, HQ2, .inr ⟨by have := PN.out.2; omega, PN.out.1.symm⟩⟩
                case measure => simp [intOf]; omega
              · rw [hb] at BT HT
                have HN2 : Hid (V = (0, 2)) := HN.out HT.out
                clear hfl hF hb
                go_wp2_with (go_at_call 23; ((with_reducible refine (BT.out _).mono ?_); rintro e w2 ⟨rfl, rfl⟩))
                go_ret2
                exact ⟨by rw [HN2.out]; rfl, HB1.out⟩

    · have hke : Hid (k = (pieces s).length) := by
        rcases HA.out with h | h
        · omega
        · exact h.2
      have dl : decide ((i : Int) ≤ (s.size : Int)) = false := decide_eq_false (by omega)
      have HE : Hid (V = ((q : Int), 0)) := by
        show V = _
        rw [HV2.out]
        unfold ofP
        rw [← hke.out, HQ.out]
      clear HA
      go_wp2
      go_ret2
      exact ⟨by rw [HE.out]; rfl, HB1.out⟩
end Rol
end Go.Proofs.YtfmcggejifnhfaaDoor
