/- Put, the reference's All, sizes; and what awake() answers. -/
import Derived.Test.YtjppoicjbmfhiaaFrmW4
namespace Go.Proofs.Ytjppoicjbmfhiaa
open Go.RowKit
namespace Frm
open Crc (sum sum_any refSum_any)
open In (strVals Strs)
theorem strs_one (w : World) (s : ByteArray) (T : TypeId) : Strs (w.alloc (.cells #[.string s] T)) (some ⟨w.heap.size, 0, none⟩) [s] := by
  intro i hi
  have : i = 0 := by simpa using hi
  subst this
  exact ⟨w.heap.size, 0, rfl, by simp, Own.cell_new _ _ _⟩
theorem put_yes (s : ByteArray) (h : fits s.size = true) (w : World) :
    Calls Try.prog 9 #[.string s] w fun e w' => e = .returned (.tuple #[.string ⟨(put s.data.toList).toArray⟩, .int .i64 0]) ∧ Below w.heap.size w w' := by
  have HY : Hid (∀ w : World, Calls Try.prog 11 #[.slice (some ⟨w.heap.size, 0, none⟩) 1 1] (w.alloc (.cells #[.string s] 9)) fun e w' => e = .returned (.tuple #[.string ⟨(put s.data.toList).toArray⟩, .int .i64 0]) ∧ Below (w.alloc (.cells #[.string s] 9)).heap.size (w.alloc (.cells #[.string s] 9)) w') := fun w => by
    have := all_yes (some ⟨w.heap.size, 0, none⟩) 1 [s] (by simp) (by simpa [oks, ok] using h) (w.alloc (.cells #[.string s] 9)) (strs_one w s _)
    simpa [cats] using this
  go_enter Try.func9, Try.ntmps9
  go_wp2_with (go_at_call 11; ((with_reducible refine (HY.out _).mono ?_); rintro e w1 ⟨rfl, hb1⟩))
  go_ret2
  exact ⟨rfl, below2 (below_al (Below.refl _ _) _) hb1⟩
theorem put_no (s : ByteArray) (hm : s.size ≤ maxLen) (h : fits s.size = false) (w : World) :
    Calls Try.prog 9 #[.string s] w fun e w' => e = .returned (.tuple #[.string ⟨#[]⟩, .int .i64 1]) ∧ Below w.heap.size w w' := by
  have HN : Hid (∀ w : World, Calls Try.prog 11 #[.slice (some ⟨w.heap.size, 0, none⟩) 1 1] (w.alloc (.cells #[.string s] 9)) fun e w' => e = .returned (.tuple #[.string ⟨#[]⟩, .int .i64 1]) ∧ (w.alloc (.cells #[.string s] 9)) = w') := fun w =>
    all_no (some ⟨w.heap.size, 0, none⟩) 1 [s] (by simp) (by simpa [oks, ok] using h) (w.alloc (.cells #[.string s] 9)) (strs_one w s _) (fun x hx => by simp at hx; subst hx; exact hm)
  go_enter Try.func9, Try.ntmps9
  go_wp2_with (go_at_call 11; ((with_reducible refine (HN.out _).mono ?_); rintro e w1 ⟨rfl, rfl⟩))
  go_ret2
  exact ⟨rfl, below_al (Below.refl _ _) _⟩
set_option maxHeartbeats 1000000 in
theorem refAll_no (a : Option Addr) (cap : Nat) (l : List ByteArray) (hl : l.length ≤ 1000000) (h : oks l = false) (w : World) (ha : Strs w a l) (hsz : ∀ s ∈ l, s.size ≤ maxLen) :
    Calls Try.prog 12 #[.slice a l.length cap] w fun e w' => e = .returned (.tuple #[.string ⟨#[]⟩, .int .i64 1]) ∧ Below w.heap.size w w' := by
  obtain ⟨j, hj, hbad, hgood⟩ := bad_at l h
  have HG := Lib.hid hgood
  have HA := Lib.hid ha
  clear h hgood ha
  go_enter Try.func12, Try.ntmps12
  go_wp2
  go_loopw [4, 5] (fun o i wr => ∃ k : Nat, k ≤ j ∧ i = .int .i64 k ∧ (∃ S : ByteArray, S.size ≤ 4104 * k ∧ o = .string S) ∧ Hid (Below w.heap.size w wr)) (fun _ i _ => l.length - (intOf i).toNat)
  case atStart => exact ⟨0, by omega, rfl, ⟨⟨#[]⟩, by simp [ByteArray.size], rfl⟩, Below.refl _ _⟩
  case round =>
    obtain ⟨k, hk, rfl, ⟨S, hS, rfl⟩, HB⟩ := hrel
    have hlt : (k : Int) < (l.length : Int) := by omega
    obtain ⟨b, off, rfl, hb, hc⟩ := HA.out.below HB.out k (by omega)
    have hsm := hsz _ (Crc.getD_mem l k (by omega))
    clear hsz
    by_cases hkj : k < j
    · have hg := HG.out k hkj
      have h4 := (of_decide_eq_true hg).2
      have PY := Lib.hid (refPut_yes _ hg)
      clear hg hbad
      generalize l.getD k ByteArray.empty = x at *
      have hps : (⟨(put x.data.toList).toArray⟩ : ByteArray).size = 8 + x.size := by
        show (put x.data.toList).toArray.size = _
        rw [List.size_toArray, put_length]; simp
      obtain ⟨PB, hPB⟩ : ∃ PB : ByteArray, Hid ((⟨(put x.data.toList).toArray⟩ : ByteArray) = PB) := ⟨_, rfl⟩
      rw [hPB.out] at hps PY
      go_wp2_with (go_at_call 10; ((with_reducible refine (PY.out _).mono ?_); rintro e w1 ⟨rfl, hb1⟩))
      go_roundw
      case rel => exact ⟨k + 1, by omega, by go_num, ⟨S ++ PB, by rw [ByteArray.size_append]; omega, rfl⟩, below2 HB.out hb1⟩
      case measure => simp [intOf]; omega
    · have : k = j := by omega
      subst this
      have PN := Lib.hid (refPut_no _ hsm hbad)
      clear hbad
      generalize l.getD k ByteArray.empty = x at *
      go_wp2_with (go_at_call 10; ((with_reducible refine (PN.out _).mono ?_); rintro e w1 ⟨rfl, rfl⟩))
      go_ret2
      exact ⟨rfl, HB.out⟩
set_option maxHeartbeats 1000000 in
theorem refAll_yes (a : Option Addr) (cap : Nat) (l : List ByteArray) (hl : l.length ≤ 1000000) (h : oks l = true) (w : World) (ha : Strs w a l) :
    Calls Try.prog 12 #[.slice a l.length cap] w fun e w' => e = .returned (.tuple #[.string ⟨(cats l).toArray⟩, .int .i64 0]) ∧ Below w.heap.size w w' := by
  have HG := Lib.hid (oks_get l h)
  have HT := Lib.hid (fun k => cats_len (l.take k) (oks_take l h k))
  have HA := Lib.hid ha
  clear h ha
  go_enter Try.func12, Try.ntmps12
  go_wp2
  go_loopw [4, 5] (fun o i wr => ∃ k : Nat, k ≤ l.length ∧ i = .int .i64 k ∧ o = .string ⟨(cats (l.take k)).toArray⟩ ∧ Hid (Below w.heap.size w wr)) (fun _ i _ => l.length - (intOf i).toNat)
  case atStart => exact ⟨0, by omega, rfl, rfl, Below.refl _ _⟩
  case round =>
    obtain ⟨k, hk, rfl, rfl, HB⟩ := hrel
    have hck := HT.out k
    rw [List.length_take] at hck
    by_cases hlt : k < l.length
    · obtain ⟨b, off, rfl, hb, hc⟩ := HA.out.below HB.out k hlt
      have hg := HG.out k hlt
      have h4 := (of_decide_eq_true hg).2
      have PY := Lib.hid (refPut_yes _ hg)
      have hct : Hid ((⟨(cats (l.take (k + 1))).toArray⟩ : ByteArray) = ⟨(cats (l.take k)).toArray⟩ ++ ⟨(put (l.getD k ByteArray.empty).data.toList).toArray⟩) := by
        show _ = _
        apply ByteArray.ext
        rw [ByteArray.data_append, cats_take l k hlt]
        simp
      clear hg
      generalize l.getD k ByteArray.empty = x at *
      have hps : (⟨(put x.data.toList).toArray⟩ : ByteArray).size = 8 + x.size := by
        show (put x.data.toList).toArray.size = _
        rw [List.size_toArray, put_length]; simp
      have hCs : (⟨(cats (l.take k)).toArray⟩ : ByteArray).size = (cats (l.take k)).length := by simp [ByteArray.size]
      obtain ⟨PB, hPB⟩ : ∃ PB : ByteArray, Hid ((⟨(put x.data.toList).toArray⟩ : ByteArray) = PB) := ⟨_, rfl⟩
      obtain ⟨CB, hCB⟩ : ∃ CB : ByteArray, Hid ((⟨(cats (l.take k)).toArray⟩ : ByteArray) = CB) := ⟨_, rfl⟩
      rw [hPB.out] at hps PY hct
      rw [hCB.out] at hCs hct ⊢
      go_wp2_with (go_at_call 10; ((with_reducible refine (PY.out _).mono ?_); rintro e w1 ⟨rfl, hb1⟩))
      go_roundw
      case rel => exact ⟨k + 1, by omega, by go_num, by rw [hct.out], below2 HB.out hb1⟩
      case measure => simp [intOf]; omega
    · have hke : Hid (l.take k = l) := by show l.take k = l; rw [List.take_of_length_le (by omega)]
      go_wp2
      go_ret2
      exact ⟨by rw [hke.out]; rfl, HB.out⟩
def size4 (n : Int) : Int := if 1 ≤ n ∧ n ≤ 4096 then 8 + n else 0
theorem size4_in {n : Int} (h1 : 1 ≤ n) (h2 : n ≤ 4096) : size4 n = 8 + n := if_pos ⟨h1, h2⟩
theorem size4_out {n : Int} (h : n < 1 ∨ 4096 < n) : size4 n = 0 := if_neg (by omega)
theorem refSize_any (n : Int) (hn : n ≤ 9223372036854775807) (w : World) :
    Calls Try.prog 14 #[.int .i64 n] w fun e w' => e = .returned (.int .i64 (size4 n)) ∧ w = w' := by
  by_cases h1 : n < 1
  · have hs := Lib.hid (size4_out (.inl h1))
    go_enter Try.func14, Try.ntmps14
    go_wp2
    go_ret
    exact ⟨by rw [hs.out]; rfl, rfl⟩
  · by_cases h2 : 4096 < n
    · have hs := Lib.hid (size4_out (.inr h2))
      have h1' : decide (n < 1) = false := decide_eq_false h1
      go_enter Try.func14, Try.ntmps14
      go_wp2
      go_ret
      exact ⟨by rw [hs.out]; rfl, rfl⟩
    · have hs := Lib.hid (size4_in (n := n) (by omega) (by omega))
      have h1' : decide (n < 1) = false := decide_eq_false h1
      have h2' : decide (4096 < n) = false := decide_eq_false h2
      go_enter Try.func14, Try.ntmps14
      go_wp2
      go_ret
      exact ⟨by rw [hs.out]; rfl, rfl⟩
theorem size_any (n : Int) (hn : n ≤ 9223372036854775807) (w : World) :
    Calls Try.prog 13 #[.int .i64 n] w fun e w' => e = .returned (.int .i64 (size4 n)) ∧ w = w' := by
  by_cases h1 : 1 ≤ n
  · by_cases h2 : n ≤ 4096
    · have hs := Lib.hid (size4_in h1 h2)
      go_enter Try.func13, Try.ntmps13
      go_wp2
      go_ret
      exact ⟨by rw [hs.out]; rfl, rfl⟩
    · have hs := Lib.hid (size4_out (n := n) (.inr (by omega)))
      go_enter Try.func13, Try.ntmps13
      go_wp2
      go_ret
      exact ⟨by rw [hs.out]; rfl, rfl⟩
  · have hs := Lib.hid (size4_out (n := n) (.inl (by omega)))
    have h1' : decide (1 ≤ n) = false := decide_eq_false h1
    go_enter Try.func13, Try.ntmps13
    go_wp2
    go_ret
    exact ⟨by rw [hs.out]; rfl, rfl⟩
/-! ### awake() -/
def sa : ByteArray := ⟨#[97]⟩
def pa : ByteArray := ⟨#[0, 0, 0, 1, 232, 183, 190, 67, 97]⟩
theorem put_a : (⟨(put sa.data.toList).toArray⟩ : ByteArray) = pa := by decide +kernel
def sx : ByteArray := ⟨#[0, 0, 0, 1, 232, 183, 190, 67, 97, 0, 0, 0, 1, 232, 183, 190, 67, 97, 120]⟩
theorem cat_x : pa ++ pa ++ ⟨#[120]⟩ = sx := by decide +kernel
theorem scan_x : scan sx.data.toList = ([[97], [97]], 18) := by decide +kernel
theorem strs_two {l : List ByteArray} (h : strs l = [[97], [97]]) : l = [sa, sa] := by
  have e : ∀ z : ByteArray, z.data.toList = [97] → z = sa := fun z hz => by
    apply ByteArray.ext
    rw [← Array.toList_inj, hz]
    rfl
  cases l with
  | nil => simp [strs] at h
  | cons x l => cases l with
    | nil => simp [strs] at h
    | cons y l => cases l with
      | nil =>
        simp [strs] at h
        rw [e x (by rw [h.1]), e y (by rw [h.2])]
      | cons z l => simp [strs] at h
theorem strs_new2 (w : World) (s t : ByteArray) (T : TypeId) : Strs (w.alloc (.cells #[.string s, .string t] T)) (some ⟨w.heap.size, 0, none⟩) [s, t] := by
  intro i hi
  refine ⟨w.heap.size, 0, rfl, by simp, ?_⟩
  rw [cell_of_row _ _ _ _ _ _ (Own.heap_new w _)]
  match i, hi with
  | 0, _ => rfl
  | 1, _ => rfl
theorem scan_c (w : World) : Calls Try.prog 15 #[.string sx] w fun e w' => (∃ a cap, e = .returned (.tuple #[.slice a 2 cap, .int .i64 18]) ∧ Strs w' a [sa, sa]) ∧ Below w.heap.size w w' :=
  (scan_any sx (by decide) w).mono fun e w' ⟨v, outs, he, hs, ho, hb⟩ => by
    rw [scan_x] at he hs
    have := strs_two hs
    subst this
    obtain ⟨a, cap, rfl, hst⟩ := In.strs_of_own ho
    exact ⟨⟨a, cap, he, hst⟩, hb⟩
theorem same_c (a b : Option Addr) (cap cap2 : Nat) (w : World) (ha : Strs w a [sa, sa]) (hb : Strs w b [sa, sa]) :
    Calls Try.prog 17 #[.slice a 2 cap, .slice b 2 cap2] w fun e w' => e = .returned (.bool true) ∧ Below w.heap.size w w' :=
  (same_any a b cap cap2 [sa, sa] [sa, sa] (by decide) (by decide) w ha hb).mono fun e w' ⟨h, hb⟩ => ⟨by rw [h]; rfl, hb⟩
theorem size_1 (w : World) : Calls Try.prog 13 #[.int .i64 1] w fun e w' => e = .returned (.int .i64 9) ∧ w = w' := size_any 1 (by decide) w
set_option maxHeartbeats 1000000 in
theorem awake_any (w : World) : Calls Try.prog 8 #[] w fun e w' => e = .returned (.bool true) ∧ Below w.heap.size w w' := by
  have P1 : Hid (∀ w : World, Calls Try.prog 9 #[.string ⟨#[97]⟩] w fun e w' => e = .returned (.tuple #[.string pa, .int .i64 0]) ∧ Below w.heap.size w w') := fun w => by
    have := put_yes sa (by decide) w
    rwa [put_a] at this
  have P2 := Lib.hid (put_no ⟨#[]⟩ (by decide) (by decide))
  have hpa : pa.size = 9 := rfl
  have hcat : Hid (pa ++ pa ++ ⟨#[120]⟩ = sx) := cat_x
  have hpb : (pa.toList == [0, 0, 0, 1, 232, 183, 190, 67, 97]) = true := by decide +kernel
  go_enter Try.func8, Try.ntmps8
  go_wp2_with (first
    | (go_at_call 9; ((with_reducible refine (P1.out _).mono ?_); rintro e w1 ⟨rfl, hb1⟩))
    | (go_at_call 15; rw [hcat.out]; ((with_reducible refine (scan_c _).mono ?_); rintro e w2 ⟨⟨a, cap, rfl, hst⟩, hb2⟩))
    | (go_at_call 9; ((with_reducible refine (P2.out _).mono ?_); rintro e w3 ⟨rfl, hb3⟩))
    | (go_at_call 17; ((with_reducible refine (same_c a _ cap 2 _ ?hs1 ?hs2).mono ?_); (case hs1 => exact (hst.below hb3).below ((Below.refl _ _).alloc (Nat.le_refl _) _)); (case hs2 => exact strs_new2 _ sa sa _); rintro e w4 ⟨rfl, hb4⟩))
    | (go_at_call 13; ((with_reducible refine (size_1 _).mono ?_); rintro e w5 ⟨rfl, rfl⟩)))
  go_ret
  exact ⟨rfl, below2 (below_al (below2 (below2 hb1 hb2) hb3) _) hb4⟩
end Frm
end Go.Proofs.Ytjppoicjbmfhiaa
