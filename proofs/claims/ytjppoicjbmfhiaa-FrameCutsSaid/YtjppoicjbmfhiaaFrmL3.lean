/- The walk of the statement on records' bytes that are cut. -/
import Derived.Test.YtjppoicjbmfhiaaFrmL
namespace Go.Proofs.Ytjppoicjbmfhiaa
open Go.RowKit
namespace Frm
open Crc (few few_any getD_mem)
open In (strVals Strs IsStrs)
theorem cats_len_take (l : List ByteArray) (k : Nat) : cats l = cats (l.take k) ++ cats (l.drop k) := by
  rw [← cats_append, List.take_append_drop]
theorem oks_mem {l : List ByteArray} (h : oks l = true) : ∀ s ∈ l, ok s = true := by
  unfold oks at h
  rwa [List.all_eq_true] at h
/-- Of records' bytes, cut anywhere, just those are told that are there whole. -/
theorem scan_cut (l : List ByteArray) (h : oks l = true) (n k : Nat) (hk : k ≤ l.length) (h1 : (cats (l.take k)).length ≤ n) (h2 : k = l.length ∨ n < (cats (l.take (k + 1))).length) (hn : n ≤ (cats l).length) :
    scan ((cats l).take n) = (strs (l.take k), (cats (l.take k)).length) := by
  have hok := oks_mem (oks_take l h k)
  rw [cats_len_take l k, List.take_append, List.take_of_length_le h1, scan_cats _ hok]
  have hrest : scan ((cats (l.drop k)).take (n - (cats (l.take k)).length)) = ([], 0) := by
    rcases h2 with rfl | h2
    · rw [List.drop_length, show cats [] = [] from rfl, List.take_nil]
      rfl
    · have hlt : k < l.length := by
        rcases Nat.lt_or_ge k l.length with h' | h'
        · exact h'
        · rw [List.take_of_length_le (by omega)] at h1
          rw [List.take_of_length_le (by omega)] at h2
          omega
      apply scan_none
      have hd : l.drop k = l.getD k ByteArray.empty :: l.drop (k + 1) := by
        rw [List.drop_eq_getElem_cons hlt, List.getD_eq_getElem?_getD, List.getElem?_eq_getElem hlt]; rfl
      rw [cats_take l k hlt, List.length_append] at h2
      have hf : fits (l.getD k ByteArray.empty).data.toList.length = true := by simpa using oks_get l h k hlt
      rw [hd, cats_cons, List.take_append_of_le_length (by omega)]
      rw [put_length] at h2
      exact first_cut _ _ hf (by omega)
  rw [hrest]
  simp [strs]
theorem cats_mono (l : List ByteArray) (k : Nat) : (cats (l.take k)).length ≤ (cats l).length := by
  rw [cats_len_take l k, List.length_append]; omega
theorem Strs_take {w : World} {a : Option Addr} {l : List ByteArray} (h : Strs w a l) (k : Nat) : Strs w a (l.take k) := fun i hi => by
  rw [List.length_take] at hi
  obtain ⟨b, off, ha, hb, hc⟩ := h i (by omega)
  refine ⟨b, off, ha, hb, ?_⟩
  rw [hc]
  simp [List.getD, show i < k by omega]
set_option maxHeartbeats 2000000 in
theorem frameCuts_walk (w : World) (v : Value) (l : List ByteArray) (hw : IsStrs w v l) (c : Int) (hcu : (Lit.int .u16 c).wf = true) :
    Calls Try.prog 5 #[v, .int .u16 c] w fun e w' => e = .returned (.bool true) ∧ Below w.heap.size w w' := by
  obtain ⟨a, cap, rfl, hlen, ha, hsz, hcap1, hcap2⟩ := hw
  have hcb := bounds_u16 hcu
  clear hcu
  have FA := few_any a cap l 10 256 hlen
  cases hfew : few l 10 256
  · rw [hfew] at FA
    have FA := Lib.hid FA
    go_enter Try.func5, Try.ntmps5
    go_wp2_with (first
      | (go_at_call 7; ((with_reducible refine (FA.out _ ha hsz (by decide)).mono ?_); rintro e w1 ⟨rfl, rfl⟩))
      | (go_at_call 8; ((with_reducible refine (awake_any _).mono ?_); rintro e w2 ⟨rfl, hb2⟩)))
    go_ret
    exact ⟨rfl, hb2⟩
  · rw [hfew] at FA
    have FA := Lib.hid FA
    obtain ⟨hf1, hf2⟩ := of_decide_eq_true hfew
    have hl10 : l.length ≤ 10 := by omega
    have HF2 := Lib.hid hf2
    have HA := Lib.hid ha
    have HZ := Lib.hid hsz
    clear hf1 hf2 hfew ha hsz hlen
    cases hok : oks l
    · obtain ⟨j, hj, hbad, hgood⟩ := bad_at l hok
      have hbj : Hid ((l.getD j ByteArray.empty).size = 0) := by
        have h1 := HF2.out _ (getD_mem l j hj)
        have h2 := of_decide_eq_false hbad
        show _ = _
        omega
      have hgi : Hid (∀ i, i < j → (l.getD i ByteArray.empty).size ≠ 0) := by
        show ∀ i, i < j → _
        intro i hi h0
        have h2 := of_decide_eq_true (hgood i hi)
        omega
      have AN : Hid (∀ w : World, Strs w a l → (∀ s ∈ l, s.size ≤ maxLen) → Calls Try.prog 11 #[.slice a l.length cap] w fun e w' => e = .returned (.tuple #[.string ⟨#[]⟩, .int .i64 1]) ∧ w = w') := fun w ha hz => all_no a cap l (by omega) hok w ha hz
      clear hok hbad hgood HF2
      go_enter Try.func5, Try.ntmps5
      go_wp2_with (first
        | (go_at_call 7; ((with_reducible refine (FA.out _ HA.out HZ.out (by decide)).mono ?_); rintro e w1 ⟨rfl, rfl⟩))
        | (go_at_call 11; ((with_reducible refine (AN.out _ HA.out HZ.out).mono ?_); rintro e w2 ⟨rfl, rfl⟩)))
      go_loop [7] (fun i => ∃ k : Nat, k ≤ j ∧ i = .int .i64 k) (fun i => l.length - (intOf i).toNat)
      case atStart => exact ⟨0, by omega, rfl⟩
      case round =>
        obtain ⟨k, hk, rfl⟩ := hrel
        have hlt : (k : Int) < (l.length : Int) := by omega
        obtain ⟨b, off, rfl, hb, hc⟩ := HA.out k (by omega)
        by_cases hkj : k < j
        · have hne := hgi.out k hkj
          have hx : ∃ x, l.getD k ByteArray.empty = x := ⟨_, rfl⟩
          have hsm := HZ.out _ (getD_mem l k (by omega))
          generalize l.getD k ByteArray.empty = x at hc hne hsm
          have hne1 : ((x.size : Int) == 0) = false := beq_eq_false_iff_ne.2 (by omega)
          clear hne hx
          unfold maxLen at hsm
          go_wp2
          go_round
          case rel => exact ⟨k + 1, by omega, by go_num⟩
          case measure => simp [intOf]; omega
        · have : k = j := by omega
          subst this
          have he := hbj.out
          generalize l.getD k ByteArray.empty = x at hc he
          have he1 : ((x.size : Int) == 0) = true := by rw [he]; rfl
          clear he
          go_wp2_with (go_at_call 8; ((with_reducible refine (awake_any _).mono ?_); rintro e w3 ⟨rfl, hb3⟩))
          go_ret
          exact ⟨rfl, hb3⟩
    · have hgood := oks_get l hok
      have hgi : Hid (∀ i, i < l.length → (l.getD i ByteArray.empty).size ≠ 0) := by
        show ∀ i, i < l.length → _
        intro i hi h0
        have h2 := of_decide_eq_true (hgood i hi)
        omega
      have AY : Hid (∀ w : World, Strs w a l → Calls Try.prog 11 #[.slice a l.length cap] w fun e w' => e = .returned (.tuple #[.string ⟨(cats l).toArray⟩, .int .i64 0]) ∧ Below w.heap.size w w') := fun w ha => all_yes a cap l (by omega) hok w ha
      have hcl := cats_len l hok
      have HOK := Lib.hid hok
      clear hok hgood
      obtain ⟨CB, hCB⟩ : ∃ CB : ByteArray, Hid ((⟨(cats l).toArray⟩ : ByteArray) = CB) := ⟨_, rfl⟩
      have hcs : CB.size = (cats l).length := by rw [← hCB.out]; simp [ByteArray.size]
      have hcz : CB.size ≤ 41040 := by omega
      rw [hCB.out] at AY
      have HCS := Lib.hid hcs
      clear hcs hcl
      go_enter Try.func5, Try.ntmps5
      go_wp2_with (first
        | (go_at_call 7; ((with_reducible refine (FA.out _ HA.out HZ.out (by decide)).mono ?_); rintro e w1 ⟨rfl, rfl⟩))
        | (go_at_call 11; ((with_reducible refine (AY.out _ HA.out).mono ?_); rintro e w2 ⟨rfl, hb2⟩)))
      have HA2 := Lib.hid (HA.out.below hb2)
      have HB2 := Lib.hid hb2
      clear hb2
      go_loop [7] (fun i => ∃ k : Nat, k ≤ l.length ∧ i = .int .i64 k) (fun i => l.length - (intOf i).toNat)
      case atStart => exact ⟨0, by omega, rfl⟩
      case round =>
        obtain ⟨k, hk, rfl⟩ := hrel
        by_cases hkj : k < l.length
        · obtain ⟨b, off, rfl, hb, hc⟩ := HA2.out k hkj
          have hne := hgi.out k hkj
          have hsm := HZ.out _ (getD_mem l k (by omega))
          generalize l.getD k ByteArray.empty = x at hc hne hsm
          have hne1 : ((x.size : Int) == 0) = false := beq_eq_false_iff_ne.2 (by omega)
          clear hne
          unfold maxLen at hsm
          go_wp2
          go_round
          case rel => exact ⟨k + 1, by omega, by go_num⟩
          case measure => simp [intOf]; omega
        · obtain ⟨n, hn⟩ : ∃ n : Nat, Hid (c % ((CB.size : Int) + 1) = (n : Int)) := ⟨(c % ((CB.size : Int) + 1)).toNat, (Int.toNat_of_nonneg (Int.emod_nonneg _ (by omega))).symm⟩
          have hn1 := hn.out
          have hnle : n ≤ CB.size := by
            have := Int.emod_lt_of_pos c (show (0 : Int) < (CB.size : Int) + 1 by omega)
            omega
          go_wp2
          go_loop [9, 10] (fun i at_ => ∃ k : Nat, k ≤ l.length ∧ i = .int .i64 k ∧ at_ = .int .i64 ((cats (l.take k)).length : Int) ∧ (cats (l.take k)).length ≤ n) (fun i _ => l.length - (intOf i).toNat)
          case atStart => exact ⟨0, by omega, rfl, rfl, Nat.zero_le _⟩
          case round =>
            clear hkj hk
            obtain ⟨k, hk, rfl, rfl, hatn⟩ := hrel
            by_cases hlt : k < l.length
            · have hct : Hid ((cats (l.take (k + 1))).length = (cats (l.take k)).length + (8 + (l.getD k ByteArray.empty).size)) := by
                show _ = _
                rw [cats_take l k hlt, List.length_append, put_length]; simp
              obtain ⟨b, off, hba, hb, hc⟩ := HA2.out k hlt
              have hsm := HF2.out _ (getD_mem l k hlt)
              by_cases hfit : (cats (l.take k)).length + 8 + (l.getD k ByteArray.empty).size ≤ n
              · subst hba
                generalize l.getD k ByteArray.empty = x at *
                go_wp2
                go_round
                case rel => exact ⟨k + 1, by omega, by go_num, by rw [hct.out]; exact congrArg (Value.int .i64) (by omega), by rw [hct.out]; omega⟩
                case measure => simp [intOf]; omega
              · have HX : Hid (k = l.length ∨ n < (cats (l.take (k + 1))).length) := by
                  show _ ∨ _
                  right
                  rw [hct.out]
                  omega
                have HBA := Lib.hid hba
                subst hba
                generalize l.getD k ByteArray.empty = x at *
                have hcut := scan_cut l HOK.out n k hk hatn HX.out (by have := HCS.out; omega)
                have hXb : (CB.extract 0 n).data.toList = (cats l).take n := by rw [ByteArray.data_extract, ← hCB.out]; simp
                have hXs : (CB.extract 0 n).size = n := by simp; omega
                have s1 := scan_s (CB.extract 0 n) (by omega) (l.take k) (by rw [hXb, hcut])
                have s2 := scan_s CB (by omega) l (by rw [← hCB.out]; have := scan_cats l (oks_mem HOK.out) []; rw [List.append_nil, scan_none first_nil] at this; rw [this]; simp [strs])
                have e1 : ((scan (CB.extract 0 n).data.toList).2 : Int) = ((cats (l.take k)).length : Int) := by rw [hXb, hcut]
                have e2 : ((scan CB.data.toList).2 : Int) = (CB.size : Int) := by
                  have := scan_cats l (oks_mem HOK.out) []
                  rw [List.append_nil, scan_none first_nil] at this
                  have h3 := HCS.out
                  rw [show CB.data.toList = cats l from by rw [← hCB.out], this]
                  simp; omega
                have htk : (l.take k).length = k := by rw [List.length_take]; omega
                have sm1 := same_l (l.take k) (by rw [htk]; unfold maxLen; omega)
                have sm2 := same_l l (by unfold maxLen; omega)
                rw [e1, htk] at s1
                rw [e2] at s2
                rw [htk] at sm1
                have S1 := Lib.hid s1
                have S2 := Lib.hid s2
                have SM1 := Lib.hid sm1
                have SM2 := Lib.hid sm2
                clear s1 s2 sm1 sm2 e1 e2 hcut hXb hXs htk
                go_wp2_with (first
                  | (go_at_call 15; ((with_reducible refine (S1.out _).mono ?_); rintro e w3 ⟨⟨a3, cap3, rfl, hst3⟩, hb3⟩))
                  | (go_at_call 15; ((with_reducible refine (S2.out _).mono ?_); rintro e w4 ⟨⟨a4, cap4, rfl, hst4⟩, hb4⟩))
                  | (go_at_call 17; ((with_reducible refine (SM1.out a3 _ cap3 cap _ (hst3.below hb4) ?t1).mono ?_); (case t1 => exact Strs_take ((HA2.out.below hb3).below hb4) k); rintro e w5 ⟨rfl, hb5⟩))
                  | (go_at_call 17; ((with_reducible refine (SM2.out a4 _ cap4 cap _ (hst4.below hb5) ?t2).mono ?_); (case t2 => exact ((HA2.out.below hb3).below hb4).below hb5); rintro e w6 ⟨rfl, hb6⟩))
                  | (go_at_call 8; ((with_reducible refine (awake_any _).mono ?_); rintro e w7 ⟨rfl, hb7⟩)))
                go_ret
                exact ⟨rfl, below2 (below2 (below2 (below2 (below2 HB2.out hb3) hb4) hb5) hb6) hb7⟩
            · have HX : Hid (k = l.length ∨ n < (cats (l.take (k + 1))).length) := by
                show _ ∨ _
                left
                omega
              have hcut := scan_cut l HOK.out n k hk hatn HX.out (by have := HCS.out; omega)
              have hXb : (CB.extract 0 n).data.toList = (cats l).take n := by rw [ByteArray.data_extract, ← hCB.out]; simp
              have hXs : (CB.extract 0 n).size = n := by simp; omega
              have s1 := scan_s (CB.extract 0 n) (by omega) (l.take k) (by rw [hXb, hcut])
              have s2 := scan_s CB (by omega) l (by rw [← hCB.out]; have := scan_cats l (oks_mem HOK.out) []; rw [List.append_nil, scan_none first_nil] at this; rw [this]; simp [strs])
              have e1 : ((scan (CB.extract 0 n).data.toList).2 : Int) = ((cats (l.take k)).length : Int) := by rw [hXb, hcut]
              have e2 : ((scan CB.data.toList).2 : Int) = (CB.size : Int) := by
                have := scan_cats l (oks_mem HOK.out) []
                rw [List.append_nil, scan_none first_nil] at this
                have h3 := HCS.out
                rw [show CB.data.toList = cats l from by rw [← hCB.out], this]
                simp; omega
              have htk : (l.take k).length = k := by rw [List.length_take]; omega
              have sm1 := same_l (l.take k) (by rw [htk]; unfold maxLen; omega)
              have sm2 := same_l l (by unfold maxLen; omega)
              rw [e1, htk] at s1
              rw [e2] at s2
              rw [htk] at sm1
              have S1 := Lib.hid s1
              have S2 := Lib.hid s2
              have SM1 := Lib.hid sm1
              have SM2 := Lib.hid sm2
              clear s1 s2 sm1 sm2 e1 e2 hcut hXb hXs htk
              go_wp2_with (first
                | (go_at_call 15; ((with_reducible refine (S1.out _).mono ?_); rintro e w3 ⟨⟨a3, cap3, rfl, hst3⟩, hb3⟩))
                | (go_at_call 15; ((with_reducible refine (S2.out _).mono ?_); rintro e w4 ⟨⟨a4, cap4, rfl, hst4⟩, hb4⟩))
                | (go_at_call 17; ((with_reducible refine (SM1.out a3 _ cap3 cap _ (hst3.below hb4) ?t1).mono ?_); (case t1 => exact Strs_take ((HA2.out.below hb3).below hb4) k); rintro e w5 ⟨rfl, hb5⟩))
                | (go_at_call 17; ((with_reducible refine (SM2.out a4 _ cap4 cap _ (hst4.below hb5) ?t2).mono ?_); (case t2 => exact ((HA2.out.below hb3).below hb4).below hb5); rintro e w6 ⟨rfl, hb6⟩))
                | (go_at_call 8; ((with_reducible refine (awake_any _).mono ?_); rintro e w7 ⟨rfl, hb7⟩)))
              go_ret
              exact ⟨rfl, below2 (below2 (below2 (below2 (below2 HB2.out hb3) hb4) hb5) hb6) hb7⟩
end Frm
end Go.Proofs.Ytjppoicjbmfhiaa
