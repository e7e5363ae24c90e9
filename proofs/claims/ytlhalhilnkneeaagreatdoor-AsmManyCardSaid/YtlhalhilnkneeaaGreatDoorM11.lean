/- Texts put together: CrcF, FrmW4, FrmA, FrmL, FrmL3, AsmS, AsmR. -/
import Derived.Test.YtlhalhilnkneeaaGreatDoorM08
import Derived.Test.YtlhalhilnkneeaaGreatDoorM02
import Derived.Lib.Hide
import Derived.Test.YtlhalhilnkneeaaGreatDoorM10
import Derived.Lib.AppendStr
import Derived.OwnWalk
import Derived.OpenShut
import Derived.Test.YtlhalhilnkneeaaGreatDoorM00
import Derived.Lib.DecodeN
set_option linter.all false
section
namespace Go.Proofs.YtlhalhilnkneeaaGreatDoor
open Go.RowKit
namespace Crc
def few (l : List ByteArray) (most bytes : Int) : Bool := decide ((l.length : Int) ≤ most ∧ ∀ s ∈ l, (s.size : Int) ≤ bytes)
theorem getD_mem (l : List ByteArray) (k : Nat) (h : k < l.length) : l.getD k ByteArray.empty ∈ l := by
  rw [List.getD_eq_getElem?_getD, List.getElem?_eq_getElem h]; exact List.getElem_mem h
end Crc
end Go.Proofs.YtlhalhilnkneeaaGreatDoor
end
section
set_option maxRecDepth 100000
namespace Go.Proofs.YtlhalhilnkneeaaGreatDoor
open Go.RowKit
namespace Frm
open Crc (sum sum_any refSum_any)
open In (strVals Strs)
theorem uinfo : (Tryz.prog.info? 5).map (fun i => (i.zero, i.size, i.bytes)) = some (some (.int .u8 0), 1, 1) := by kernel_rfl
/-- May all of them be records? -/
def oks (l : List ByteArray) : Bool := l.all ok
theorem cats_take (l : List ByteArray) (k : Nat) (h : k < l.length) : cats (l.take (k + 1)) = cats (l.take k) ++ put (l.getD k ByteArray.empty).data.toList := by
  rw [List.take_succ_eq_append_getElem h, cats_append, List.getD_eq_getElem?_getD, List.getElem?_eq_getElem h]
  simp [cats]
theorem cats_len (l : List ByteArray) (h : oks l = true) : (cats l).length ≤ 4104 * l.length := by
  induction l with
  | nil => simp [cats]
  | cons s l ih =>
    simp only [oks, List.all_cons, Bool.and_eq_true] at h
    have h1 := of_decide_eq_true h.1
    have h2 := ih h.2
    have h3 : s.data.toList.length = s.size := by simp
    rw [cats_cons, List.length_append, put_length, List.length_cons]
    omega
theorem oks_take (l : List ByteArray) (h : oks l = true) (k : Nat) : oks (l.take k) = true := by
  unfold oks at *
  rw [List.all_eq_true] at *
  exact fun x hx => h x (List.mem_of_mem_take hx)
theorem oks_get (l : List ByteArray) (h : oks l = true) (k : Nat) (hk : k < l.length) : fits (l.getD k ByteArray.empty).size = true := by
  unfold oks at h
  rw [List.all_eq_true] at h
  rw [List.getD_eq_getElem?_getD, List.getElem?_eq_getElem hk]
  exact h _ (List.getElem_mem hk)
/-- The first one that is none. -/
theorem bad_at (l : List ByteArray) (h : oks l = false) : ∃ j, j < l.length ∧ fits (l.getD j ByteArray.empty).size = false ∧ ∀ i, i < j → fits (l.getD i ByteArray.empty).size = true := by
  induction l with
  | nil => cases h
  | cons s l ih =>
    cases hs : ok s
    · exact ⟨0, by simp, hs, fun i hi => by omega⟩
    · simp only [oks, List.all_cons, hs, Bool.true_and] at h
      obtain ⟨j, h1, h2, h3⟩ := ih h
      refine ⟨j + 1, by simp; omega, by simpa using h2, fun i hi => ?_⟩
      cases i with
      | zero => exact hs
      | succ i => simpa using h3 i (by omega)
set_option maxHeartbeats 1000000 in
theorem all_no (a : Option Addr) (cap : Nat) (l : List ByteArray) (hl : l.length ≤ 1000000) (h : oks l = false) (w : World) (ha : Strs w a l) (hsz : ∀ s ∈ l, s.size ≤ maxLen) :
    Calls Tryz.prog 36 #[.slice a l.length cap] w fun e w' => e = .returned (.tuple #[.string ⟨#[]⟩, .int .i64 1]) ∧ w = w' := by
  obtain ⟨j, hj, hbad, hgood⟩ := bad_at l h
  have HG := Lib.hid hgood
  clear h hgood
  go_enter Tryz.func36, Tryz.ntmps36
  go_wp2
  go_loop [4, 6, 13] (fun sz _ i => ∃ k : Nat, k ≤ j ∧ i = .int .i64 k ∧ ∃ z : Nat, z ≤ 4104 * k ∧ sz = .int .i64 z) (fun _ _ i => l.length - (intOf i).toNat)
  case atStart => exact ⟨0, by omega, rfl, 0, by omega, rfl⟩
  case round =>
    obtain ⟨k, hk, rfl, z, hz, rfl⟩ := hrel
    have hlt : (k : Int) < (l.length : Int) := by omega
    obtain ⟨b, off, rfl, hb, hc⟩ := ha k (by omega)
    have hsm := hsz _ (Crc.getD_mem l k (by omega))
    unfold maxLen at hsm
    clear ha hsz
    by_cases hkj : k < j
    · have hg := HG.out k hkj
      have h4 := (of_decide_eq_true hg).2
      have FY := Lib.hid (fits_yes _ hg)
      clear hg hbad
      generalize l.getD k ByteArray.empty = x at *
      go_wp2_with (go_at_call 75; ((with_reducible refine (FY.out _).mono ?_); rintro e w1 ⟨rfl, rfl⟩))
      go_round
      case rel => exact ⟨k + 1, by omega, by go_num, z + (8 + x.size), by omega, by go_num⟩
      case measure => simp [intOf]; omega
    · have : k = j := by omega
      subst this
      have FN := Lib.hid (fits_no _ hbad)
      clear hbad
      generalize l.getD k ByteArray.empty = x at *
      go_wp2_with (go_at_call 75; ((with_reducible refine (FN.out _).mono ?_); rintro e w1 ⟨rfl, rfl⟩))
      go_ret2
      exact ⟨rfl, rfl⟩
set_option maxHeartbeats 1000000 in
theorem all_yes (a : Option Addr) (cap : Nat) (l : List ByteArray) (hl : l.length ≤ 1000000) (h : oks l = true) (w : World) (ha : Strs w a l) :
    Calls Tryz.prog 36 #[.slice a l.length cap] w fun e w' => e = .returned (.tuple #[.string ⟨(cats l).toArray⟩, .int .i64 0]) ∧ Below w.heap.size w w' := by
  obtain ⟨i0, hi, hz0, hz1, hz2⟩ := info_parts uinfo
  have HG := Lib.hid (oks_get l h)
  have HT := Lib.hid (fun k => cats_len (l.take k) (oks_take l h k))
  have HA := Lib.hid ha
  clear h ha
  go_enter Tryz.func36, Tryz.ntmps36
  go_wp2
  go_loop [4, 6, 13] (fun sz _ i => ∃ k : Nat, k ≤ l.length ∧ i = .int .i64 k ∧ sz = .int .i64 ((cats (l.take k)).length : Int)) (fun _ _ i => l.length - (intOf i).toNat)
  case atStart => exact ⟨0, by omega, rfl, rfl⟩
  case round =>
    obtain ⟨k, hk, rfl, rfl⟩ := hrel
    have hck := HT.out k
    rw [List.length_take] at hck
    by_cases hlt : k < l.length
    · obtain ⟨b, off, rfl, hb, hc⟩ := HA.out k hlt
      have hg := HG.out k hlt
      have h4 := (of_decide_eq_true hg).2
      have FY := Lib.hid (fits_yes _ hg)
      have hct : Hid ((cats (l.take (k + 1))).length = (cats (l.take k)).length + (8 + (l.getD k ByteArray.empty).size)) := by
        show _ = _
        rw [cats_take l k hlt, List.length_append, put_length]; simp
      clear hg
      generalize l.getD k ByteArray.empty = x at *
      go_wp2_with (go_at_call 75; ((with_reducible refine (FY.out _).mono ?_); rintro e w1 ⟨rfl, rfl⟩))
      go_round
      case rel => exact ⟨k + 1, by omega, by go_num, by rw [hct.out]; go_num⟩
      case measure => simp [intOf]; omega
    · have hke : k = l.length := by omega
      subst hke
      have hct : Hid ((cats l).length = (cats (l.take l.length)).length) := by show _ = _; rw [List.take_length]
      generalize (cats (l.take l.length)).length = N at *
      go_wp2_with (at_make; refine wpList_make_own _ rfl (.const (.int .i64 0)) (.tmp 27) 92 rfl w.heap.size 5 i0 _ 1 Tryz.underlying92 hi hz0 hz1 .i64 .i64 _ N rfl rfl rfl ?b2 ?b3 ?b4 ?_; (case b2 => rw [hz2]; omega); (case b3 => unfold maxLen; omega); (case b4 => exact Nat.le_refl _); intro w1 hown1 hgrow1)
      have hb1 : Below w.heap.size w w1 := (Below.refl _ _).grown hgrow1 (Nat.le_refl _) (fun k hk => by cases hk)
      have HO1 := Lib.hid hown1
      have HB1 := Lib.hid hb1
      clear hown1 hb1 hgrow1
      go_loopw [7, 31] (fun v i wr => ∃ k : Nat, k ≤ l.length ∧ i = .int .i64 k ∧ Hid (wr.ownsRow w.heap.size 5 1 v (cats (l.take k)).length (Own.byteVals (cats (l.take k)))) ∧ Hid (Below w.heap.size w wr)) (fun _ i _ => l.length - (intOf i).toNat)
      case atStart => exact ⟨0, by omega, rfl, HO1, HB1⟩
      case round =>
        obtain ⟨k, hk, rfl, HO, HB⟩ := hrel
        have hck := HT.out k
        rw [List.length_take] at hck
        by_cases hlt : k < l.length
        · obtain ⟨b, off, rfl, hb, hc⟩ := HA.out.below HB.out k hlt
          have hg := HG.out k hlt
          have h4 := (of_decide_eq_true hg).2
          have hct : Hid (cats (l.take (k + 1)) = cats (l.take k) ++ put (l.getD k ByteArray.empty).data.toList) := cats_take l k hlt
          clear hg
          generalize l.getD k ByteArray.empty = x at *
          generalize cats (l.take k) = C at *
          have HH := Lib.hid (headOf_any x h4)
          obtain ⟨h8, hh8⟩ : ∃ h8 : Array Value, Hid ((Own.byteVals (hd x.data.toList)).toArray = h8) := ⟨_, rfl⟩
          have h8s : h8.size = 8 := by rw [← hh8.out]; rfl
          have h8l : h8.toList.length = 8 * 1 := by simpa using h8s
          have hsz : (Tryz.prog.info? 108).map (·.size) = some h8.size := by rw [h8s]; kernel_rfl
          have hone : h8.all (·.oneCell') = true := by rw [← hh8.out]; simp [Own.byteVals, Value.oneCell']
          have hone2 : ∀ u ∈ h8.toList, u.oneCell' = true := by
            intro u hu
            rw [← hh8.out] at hu
            simp [Own.byteVals] at hu
            obtain ⟨z, _, rfl⟩ := hu
            rfl
          have HH2 := Lib.hid (And.intro h8s (And.intro h8l (And.intro hsz (And.intro hone hone2))))
          clear h8s h8l hsz hone hone2
          go_wp2_with (first
            | (go_at_call 76; ((with_reducible refine (HH.out _).mono ?_); rintro e w2 ⟨rfl, hb2⟩); rw [hh8.out])
            | (refine wpList_store_row rfl 108 (.tmp 10) (.tmp 36) rfl _ h8 rfl rfl 108 _ (heap_alloc_last _ _) HH2.out.2.2.1 ?hh HH2.out.2.2.2.1 ?_; (case hh => rw [HH2.out.1]; rfl); rw [World.setRow_alloc_new])
            | (at_builtin; refine wpList_append_own _ rfl (.tmp 37) (.tmp 38) 92 rfl w.heap.size 5 i0 _ 1 1 Tryz.underlying92 hi hz0 hz1 hz2 rfl (by decide) _ C.length _ rfl ((Own.own_below HO.out hb2).alloc _) _ 8 _ h8.toList rfl HH2.out.2.1 (World.news_of_block (heap_alloc_last _ _)) HH2.out.2.2.2.2 ?c1 ?c2 ?c3 ?_; (case c1 => unfold maxLen; omega); (case c2 => omega); (case c3 => have := HB.out.size; have := hb2.size; simp; omega); intro v3 w3 hown3 hgrow3 _; have hb3 := (below_al (below2 HB.out hb2) (.cells h8 108)).grown hgrow3 (below_al (below2 HB.out hb2) (.cells h8 108)).size (Own.own_block HO.out (Nat.le_refl _)))
            | (at_builtin; refine Lib.wpList_append_own_string _ rfl (.tmp 40) (.tmp 41) 92 9 rfl w.heap.size 5 i0 Tryz.underlying92 Tryz.underlying9 hi hz0 hz1 hz2 _ (C.length + 8) _ rfl hown3 x rfl ?d1 ?d2 ?d3 ?_; (case d1 => unfold maxLen; omega); (case d2 => omega); (case d3 => have := hb3.size; omega); intro v4 w4 hown4 hgrow4 _))
          have hb4 := hb3.grown hgrow4 hb3.size (Own.own_block hown3 (Nat.le_refl _))
          have hown5 : Hid (w4.ownsRow w.heap.size 5 1 v4 (C ++ put x.data.toList).length (Own.byteVals (C ++ put x.data.toList))) := by
            show World.ownsRow _ _ _ _ _ _ _
            have e1 : (C ++ put x.data.toList).length = C.length + 8 + x.size := by rw [List.length_append, put_length]; simp; omega
            have e2 : Own.byteVals (C ++ put x.data.toList) = (Own.byteVals C ++ h8.toList) ++ Lib.strCells x := by
              rw [put, Own.byteVals_append, Own.byteVals_append, ← hh8.out]
              simp [Own.byteVals, Lib.strCells]
            rw [e1, e2]
            exact hown4
          have HB4 := Lib.hid hb4
          clear hown3 hown4 hgrow3 hgrow4 hb3 hb4
          go_roundw
          case rel => exact ⟨k + 1, by omega, by go_num, by rw [hct.out]; exact hown5, HB4⟩
          case measure => simp [intOf]; omega
        · have hke : k = l.length := by omega
          have ho := HO.out
          rw [hke, List.take_length] at ho
          have hback := Own.run_back (P := Tryz.prog) (dst := 9) Tryz.underlying92 Tryz.underlying5 Tryz.underlying9 ho
          clear ho hke
          go_wp2
          go_ret2
          exact ⟨rfl, HB.out⟩
end Frm
end Go.Proofs.YtlhalhilnkneeaaGreatDoor
end
section
set_option maxRecDepth 100000
namespace Go.Proofs.YtlhalhilnkneeaaGreatDoor
open Go.RowKit
namespace Frm
open Crc (sum sum_any refSum_any)
open In (strVals Strs)
theorem strs_one (w : World) (s : ByteArray) (T : TypeId) : Strs (w.alloc (.cells #[.string s] T)) (some ⟨w.heap.size, 0, none⟩) [s] := by
  intro i hi
  have : i = 0 := by simpa using hi
  subst this
  exact ⟨w.heap.size, 0, rfl, by simp, Own.cell_new _ _ _⟩
set_option maxHeartbeats 1000000 in
theorem refAll_no (a : Option Addr) (cap : Nat) (l : List ByteArray) (hl : l.length ≤ 1000000) (h : oks l = false) (w : World) (ha : Strs w a l) (hsz : ∀ s ∈ l, s.size ≤ maxLen) :
    Calls Tryz.prog 41 #[.slice a l.length cap] w fun e w' => e = .returned (.tuple #[.string ⟨#[]⟩, .int .i64 1]) ∧ Below w.heap.size w w' := by
  obtain ⟨j, hj, hbad, hgood⟩ := bad_at l h
  have HG := Lib.hid hgood
  have HA := Lib.hid ha
  clear h hgood ha
  go_enter Tryz.func41, Tryz.ntmps41
  go_wp2
  go_loopw [4, 5] (fun o i wr => ∃ k : Nat, k ≤ j ∧ i = .int .i64 k ∧ (∃ S : ByteArray, S.size ≤ 4104 * k ∧ o = .string S) ∧ Hid (Below w.heap.size w wr)) (fun _ i _ => l.length - (intOf i).toNat)
  case atStart => exact ⟨0, by omega, rfl, ⟨⟨#[]⟩, by simp [ByteArray.size], rfl⟩, Below.refl _ _⟩
  case round =>
    obtain ⟨k, hk, rfl, ⟨S, hS, rfl⟩, HB⟩ := hrel
    have hlt : (k : Int) < (l.length : Int) := by omega
    obtain ⟨b, off, rfl, hb, hc⟩ := HA.out.below HB.out k (by omega)
    have hsm := hsz _ (Crc.getD_mem l k (by omega))
    clear hsz
    by_cases hkj : k < j
    · have hg := HG.out k hkj
      have h4 := (of_decide_eq_true hg).2
      have PY := Lib.hid (refPut_yes _ hg)
      clear hg hbad
      generalize l.getD k ByteArray.empty = x at *
      have hps : (⟨(put x.data.toList).toArray⟩ : ByteArray).size = 8 + x.size := by
        show (put x.data.toList).toArray.size = _
        rw [List.size_toArray, put_length]; simp
      obtain ⟨PB, hPB⟩ : ∃ PB : ByteArray, Hid ((⟨(put x.data.toList).toArray⟩ : ByteArray) = PB) := ⟨_, rfl⟩
      rw [hPB.out] at hps PY
      go_wp2_with (go_at_call 90; ((with_reducible refine (PY.out _).mono ?_); rintro e w1 ⟨rfl, hb1⟩))
      go_roundw
      case rel => exact ⟨k + 1, by omega, by go_num, ⟨S ++ PB, by rw [ByteArray.size_append]; omega, rfl⟩, below2 HB.out hb1⟩
      case measure => simp [intOf]; omega
    · have : k = j := by omega
      subst this
      have PN := Lib.hid (refPut_no _ hsm hbad)
      clear hbad
      generalize l.getD k ByteArray.empty = x at *
      go_wp2_with (go_at_call 90; ((with_reducible refine (PN.out _).mono ?_); rintro e w1 ⟨rfl, rfl⟩))
      go_ret2
      exact ⟨rfl, HB.out⟩
set_option maxHeartbeats 1000000 in
theorem refAll_yes (a : Option Addr) (cap : Nat) (l : List ByteArray) (hl : l.length ≤ 1000000) (h : oks l = true) (w : World) (ha : Strs w a l) :
    Calls Tryz.prog 41 #[.slice a l.length cap] w fun e w' => e = .returned (.tuple #[.string ⟨(cats l).toArray⟩, .int .i64 0]) ∧ Below w.heap.size w w' := by
  have HG := Lib.hid (oks_get l h)
  have HT := Lib.hid (fun k => cats_len (l.take k) (oks_take l h k))
  have HA := Lib.hid ha
  clear h ha
  go_enter Tryz.func41, Tryz.ntmps41
  go_wp2
  go_loopw [4, 5] (fun o i wr => ∃ k : Nat, k ≤ l.length ∧ i = .int .i64 k ∧ o = .string ⟨(cats (l.take k)).toArray⟩ ∧ Hid (Below w.heap.size w wr)) (fun _ i _ => l.length - (intOf i).toNat)
  case atStart => exact ⟨0, by omega, rfl, rfl, Below.refl _ _⟩
  case round =>
    obtain ⟨k, hk, rfl, rfl, HB⟩ := hrel
    have hck := HT.out k
    rw [List.length_take] at hck
    by_cases hlt : k < l.length
    · obtain ⟨b, off, rfl, hb, hc⟩ := HA.out.below HB.out k hlt
      have hg := HG.out k hlt
      have h4 := (of_decide_eq_true hg).2
      have PY := Lib.hid (refPut_yes _ hg)
      have hct : Hid ((⟨(cats (l.take (k + 1))).toArray⟩ : ByteArray) = ⟨(cats (l.take k)).toArray⟩ ++ ⟨(put (l.getD k ByteArray.empty).data.toList).toArray⟩) := by
        show _ = _
        apply ByteArray.ext
        rw [ByteArray.data_append, cats_take l k hlt]
        simp
      clear hg
      generalize l.getD k ByteArray.empty = x at *
      have hps : (⟨(put x.data.toList).toArray⟩ : ByteArray).size = 8 + x.size := by
        show (put x.data.toList).toArray.size = _
        rw [List.size_toArray, put_length]; simp
      have hCs : (⟨(cats (l.take k)).toArray⟩ : ByteArray).size = (cats (l.take k)).length := by simp [ByteArray.size]
      obtain ⟨PB, hPB⟩ : ∃ PB : ByteArray, Hid ((⟨(put x.data.toList).toArray⟩ : ByteArray) = PB) := ⟨_, rfl⟩
      obtain ⟨CB, hCB⟩ : ∃ CB : ByteArray, Hid ((⟨(cats (l.take k)).toArray⟩ : ByteArray) = CB) := ⟨_, rfl⟩
      rw [hPB.out] at hps PY hct
      rw [hCB.out] at hCs hct ⊢
      go_wp2_with (go_at_call 90; ((with_reducible refine (PY.out _).mono ?_); rintro e w1 ⟨rfl, hb1⟩))
      go_roundw
      case rel => exact ⟨k + 1, by omega, by go_num, by rw [hct.out], below2 HB.out hb1⟩
      case measure => simp [intOf]; omega
    · have hke : Hid (l.take k = l) := by show l.take k = l; rw [List.take_of_length_le (by omega)]
      go_wp2
      go_ret2
      exact ⟨by rw [hke.out]; rfl, HB.out⟩
def size4 (n : Int) : Int := if 1 ≤ n ∧ n ≤ 4096 then 8 + n else 0
theorem size4_in {n : Int} (h1 : 1 ≤ n) (h2 : n ≤ 4096) : size4 n = 8 + n := if_pos ⟨h1, h2⟩
theorem size4_out {n : Int} (h : n < 1 ∨ 4096 < n) : size4 n = 0 := if_neg (by omega)
/-! ### awake() -/
def sa : ByteArray := ⟨#[97]⟩
def pa : ByteArray := ⟨#[0, 0, 0, 1, 232, 183, 190, 67, 97]⟩
theorem put_a : (⟨(put sa.data.toList).toArray⟩ : ByteArray) = pa := by decide +kernel
def sx : ByteArray := ⟨#[0, 0, 0, 1, 232, 183, 190, 67, 97, 0, 0, 0, 1, 232, 183, 190, 67, 97, 120]⟩
theorem cat_x : pa ++ pa ++ ⟨#[120]⟩ = sx := by decide +kernel
theorem scan_x : scan sx.data.toList = ([[97], [97]], 18) := by decide +kernel
theorem strs_two {l : List ByteArray} (h : strs l = [[97], [97]]) : l = [sa, sa] := by
  have e : ∀ z : ByteArray, z.data.toList = [97] → z = sa := fun z hz => by
    apply ByteArray.ext
    rw [← Array.toList_inj, hz]
    rfl
  cases l with
  | nil => simp [strs] at h
  | cons x l => cases l with
    | nil => simp [strs] at h
    | cons y l => cases l with
      | nil =>
        simp [strs] at h
        rw [e x (by rw [h.1]), e y (by rw [h.2])]
      | cons z l => simp [strs] at h
theorem strs_new2 (w : World) (s t : ByteArray) (T : TypeId) : Strs (w.alloc (.cells #[.string s, .string t] T)) (some ⟨w.heap.size, 0, none⟩) [s, t] := by
  intro i hi
  refine ⟨w.heap.size, 0, rfl, by simp, ?_⟩
  rw [cell_of_row _ _ _ _ _ _ (Own.heap_new w _)]
  match i, hi with
  | 0, _ => rfl
  | 1, _ => rfl
theorem scan_c (w : World) : Calls Tryz.prog 37 #[.string sx] w fun e w' => (∃ a cap, e = .returned (.tuple #[.slice a 2 cap, .int .i64 18]) ∧ Strs w' a [sa, sa]) ∧ Below w.heap.size w w' :=
  (scan_any sx (by decide) w).mono fun e w' ⟨v, outs, he, hs, ho, hb⟩ => by
    rw [scan_x] at he hs
    have := strs_two hs
    subst this
    obtain ⟨a, cap, rfl, hst⟩ := In.strs_of_own ho
    exact ⟨⟨a, cap, he, hst⟩, hb⟩
end Frm
end Go.Proofs.YtlhalhilnkneeaaGreatDoor
end
section
set_option maxRecDepth 100000
namespace Go.Proofs.YtlhalhilnkneeaaGreatDoor
open Go.RowKit
namespace Frm
open In (strVals Strs IsStrs)
def putS (s : ByteArray) : ByteArray := if fits s.size then ⟨(put s.data.toList).toArray⟩ else ⟨#[]⟩
def putE (s : ByteArray) : Int := if fits s.size then 0 else 1
def allS (l : List ByteArray) : ByteArray := if oks l then ⟨(cats l).toArray⟩ else ⟨#[]⟩
def allE (l : List ByteArray) : Int := if oks l then 0 else 1
theorem refPut_any (s : ByteArray) (hm : s.size ≤ maxLen) (w : World) :
    Calls Tryz.prog 90 #[.string s] w fun e w' => e = .returned (.tuple #[.string (putS s), .int .i64 (putE s)]) ∧ Below w.heap.size w w' := by
  cases h : fits s.size
  · have e1 : putS s = ⟨#[]⟩ := by unfold putS; rw [h]; rfl
    have e2 : putE s = 1 := by unfold putE; rw [h]; rfl
    rw [e1, e2]; exact (refPut_no s hm h w).mono fun e w' ⟨a, b⟩ => ⟨a, by rw [← b]; exact Below.refl _ _⟩
  · have e1 : putS s = ⟨(put s.data.toList).toArray⟩ := by unfold putS; rw [h]; rfl
    have e2 : putE s = 0 := by unfold putE; rw [h]; rfl
    rw [e1, e2]; exact refPut_yes s h w
theorem all_any (a : Option Addr) (cap : Nat) (l : List ByteArray) (hl : l.length ≤ 1000000) (w : World) (ha : Strs w a l) (hsz : ∀ s ∈ l, s.size ≤ maxLen) :
    Calls Tryz.prog 36 #[.slice a l.length cap] w fun e w' => e = .returned (.tuple #[.string (allS l), .int .i64 (allE l)]) ∧ Below w.heap.size w w' := by
  cases h : oks l
  · have e1 : allS l = ⟨#[]⟩ := by unfold allS; rw [h]; rfl
    have e2 : allE l = 1 := by unfold allE; rw [h]; rfl
    rw [e1, e2]; exact (all_no a cap l hl h w ha hsz).mono fun e w' ⟨a, b⟩ => ⟨a, by rw [← b]; exact Below.refl _ _⟩
  · have e1 : allS l = ⟨(cats l).toArray⟩ := by unfold allS; rw [h]; rfl
    have e2 : allE l = 0 := by unfold allE; rw [h]; rfl
    rw [e1, e2]; exact all_yes a cap l hl h w ha
theorem refAll_any (a : Option Addr) (cap : Nat) (l : List ByteArray) (hl : l.length ≤ 1000000) (w : World) (ha : Strs w a l) (hsz : ∀ s ∈ l, s.size ≤ maxLen) :
    Calls Tryz.prog 41 #[.slice a l.length cap] w fun e w' => e = .returned (.tuple #[.string (allS l), .int .i64 (allE l)]) ∧ Below w.heap.size w w' := by
  cases h : oks l
  · have e1 : allS l = ⟨#[]⟩ := by unfold allS; rw [h]; rfl
    have e2 : allE l = 1 := by unfold allE; rw [h]; rfl
    rw [e1, e2]; exact refAll_no a cap l hl h w ha hsz
  · have e1 : allS l = ⟨(cats l).toArray⟩ := by unfold allS; rw [h]; rfl
    have e2 : allE l = 0 := by unfold allE; rw [h]; rfl
    rw [e1, e2]; exact refAll_yes a cap l hl h w ha
theorem strs_inj {a b : List ByteArray} (h : strs a = strs b) : a = b := by
  unfold strs at h
  induction a generalizing b with
  | nil => cases b with
    | nil => rfl
    | cons y b => simp at h
  | cons x a ih => cases b with
    | nil => simp at h
    | cons y b =>
      simp only [List.map_cons, List.cons.injEq] at h
      rw [ih h.2, ByteArray.ext_iff.2 (Array.toList_inj.1 h.1)]
theorem same_refl (l : List ByteArray) : same l l = true := decide_eq_true rfl
/-- What Scan answers, its rows told by their strings. -/
theorem post_strs {w w' : World} {l : List UInt8} {e : Ending} (h : ScanPost w l e w') (outs : List ByteArray) (ho : strs outs = (scan l).1) : (∃ a cap, e = .returned (.tuple #[.slice a outs.length cap, .int .i64 ((scan l).2 : Int)]) ∧ Strs w' a outs) ∧ Below w.heap.size w w' := by
  obtain ⟨v, o2, he, hs, hown, hb⟩ := h
  have := strs_inj (hs.trans ho.symm)
  subst this
  obtain ⟨a, cap, rfl, hst⟩ := In.strs_of_own hown
  exact ⟨⟨a, cap, he, hst⟩, hb⟩
def rows (l : List (List UInt8)) : List ByteArray := l.map fun x => ⟨x.toArray⟩
theorem strs_rows (l : List (List UInt8)) : strs (rows l) = l := by
  induction l with
  | nil => rfl
  | cons x l ih =>
    show x :: strs (rows l) = x :: l
    rw [ih]
theorem scanF_len (f : Nat) (l : List UInt8) : (scanF f l).1.length ≤ f := by
  induction f generalizing l with
  | zero => simp [scanF]
  | succ f ih =>
    rw [scanF]
    cases first l with
    | none => simp
    | some r => simp only [List.length_cons]; have := ih (l.drop (8 + r.length)); omega
theorem scan_s (s : ByteArray) (hm : s.size ≤ 1000000000) (outs : List ByteArray) (ho : strs outs = (scan s.data.toList).1) (w : World) :
    Calls Tryz.prog 37 #[.string s] w fun e w' => (∃ a cap, e = .returned (.tuple #[.slice a outs.length cap, .int .i64 ((scan s.data.toList).2 : Int)]) ∧ Strs w' a outs) ∧ Below w.heap.size w w' :=
  (scan_any s hm w).mono fun _ _ h => post_strs h outs ho
theorem refScan_s (s : ByteArray) (hm : s.size ≤ 1000000000) (outs : List ByteArray) (ho : strs outs = (scan s.data.toList).1) (w : World) :
    Calls Tryz.prog 42 #[.string s] w fun e w' => (∃ a cap, e = .returned (.tuple #[.slice a outs.length cap, .int .i64 ((scan s.data.toList).2 : Int)]) ∧ Strs w' a outs) ∧ Below w.heap.size w w' :=
  (refScan_any s hm w).mono fun _ _ h => post_strs h outs ho
end Frm
end Go.Proofs.YtlhalhilnkneeaaGreatDoor
end
section
namespace Go.Proofs.YtlhalhilnkneeaaGreatDoor
open Go.RowKit
namespace Frm
open In (strVals Strs IsStrs)
theorem cats_len_take (l : List ByteArray) (k : Nat) : cats l = cats (l.take k) ++ cats (l.drop k) := by
  rw [← cats_append, List.take_append_drop]
theorem oks_mem {l : List ByteArray} (h : oks l = true) : ∀ s ∈ l, ok s = true := by
  unfold oks at h
  rwa [List.all_eq_true] at h
/-- Of records' bytes, cut anywhere, just those are told that are there whole. -/
theorem scan_cut (l : List ByteArray) (h : oks l = true) (n k : Nat) (hk : k ≤ l.length) (h1 : (cats (l.take k)).length ≤ n) (h2 : k = l.length ∨ n < (cats (l.take (k + 1))).length) (hn : n ≤ (cats l).length) :
    scan ((cats l).take n) = (strs (l.take k), (cats (l.take k)).length) := by
  have hok := oks_mem (oks_take l h k)
  rw [cats_len_take l k, List.take_append, List.take_of_length_le h1, scan_cats _ hok]
  have hrest : scan ((cats (l.drop k)).take (n - (cats (l.take k)).length)) = ([], 0) := by
    rcases h2 with rfl | h2
    · rw [List.drop_length, show cats [] = [] from rfl, List.take_nil]
      rfl
    · have hlt : k < l.length := by
        rcases Nat.lt_or_ge k l.length with h' | h'
        · exact h'
        · rw [List.take_of_length_le (by omega)] at h1
          rw [List.take_of_length_le (by omega)] at h2
          omega
      apply scan_none
      have hd : l.drop k = l.getD k ByteArray.empty :: l.drop (k + 1) := by
        rw [List.drop_eq_getElem_cons hlt, List.getD_eq_getElem?_getD, List.getElem?_eq_getElem hlt]; rfl
      rw [cats_take l k hlt, List.length_append] at h2
      have hf : fits (l.getD k ByteArray.empty).data.toList.length = true := by simpa using oks_get l h k hlt
      rw [hd, cats_cons, List.take_append_of_le_length (by omega)]
      rw [put_length] at h2
      exact first_cut _ _ hf (by omega)
  rw [hrest]
  simp [strs]
theorem cats_mono (l : List ByteArray) (k : Nat) : (cats (l.take k)).length ≤ (cats l).length := by
  rw [cats_len_take l k, List.length_append]; omega
theorem Strs_take {w : World} {a : Option Addr} {l : List ByteArray} (h : Strs w a l) (k : Nat) : Strs w a (l.take k) := fun i hi => by
  rw [List.length_take] at hi
  obtain ⟨b, off, ha, hb, hc⟩ := h i (by omega)
  refine ⟨b, off, ha, hb, ?_⟩
  rw [hc]
  simp [List.getD, show i < k by omega]
end Frm
end Go.Proofs.YtlhalhilnkneeaaGreatDoor
end
section
namespace Go.Proofs.YtlhalhilnkneeaaGreatDoor
open Go.RowKit Go.Great
namespace Asm
open Go.Lib (decDigits itoa)
open Pen (bs)
open Rec (Stk)
open Cmd (CmdIn fi fn nm names words place kindOf nameOf isIn chkV Eqv Cok Clear Lok Snum cmdB takeV zeroC numB stkB)
open Frm (fits put scan cats oks ok)
/-- Lists of commands that say the same. -/
def EqvL : List CmdIn → List CmdIn → Prop
  | [], [] => True
  | a :: l, b :: m => Eqv a b ∧ EqvL l m
  | [], _ :: _ => False
  | _ :: _, [] => False
theorem EqvL.refl : ∀ l : List CmdIn, EqvL l l
  | [] => trivial
  | a :: l => ⟨Eqv.refl a, EqvL.refl l⟩
theorem EqvL.length : ∀ {l m : List CmdIn}, EqvL l m → l.length = m.length
  | [], [], _ => rfl
  | a :: l, b :: m, h => by rw [List.length_cons, List.length_cons, EqvL.length h.2]
theorem Eqv.symm {a b : CmdIn} (h : Eqv a b) : Eqv b a := ⟨h.kind.symm, h.num.symm, h.gives.symm, h.wants.symm⟩
theorem Eqv.trans {a b c : CmdIn} (h : Eqv a b) (h2 : Eqv b c) : Eqv a c := ⟨h.kind.trans h2.kind, h.num.trans h2.num, h.gives.trans h2.gives, h.wants.trans h2.wants⟩
theorem EqvL.symm : ∀ {l m : List CmdIn}, EqvL l m → EqvL m l
  | [], [], _ => trivial
  | a :: l, b :: m, h => ⟨Eqv.symm h.1, EqvL.symm h.2⟩
theorem EqvL.trans : ∀ {l m n : List CmdIn}, EqvL l m → EqvL m n → EqvL l n
  | [], [], [], _, _ => trivial
  | a :: l, b :: m, c :: n, h, h2 => ⟨Eqv.trans h.1 h2.1, EqvL.trans h.2 h2.2⟩
theorem EqvL.append : ∀ {l m : List CmdIn} {p q : List CmdIn}, EqvL l m → EqvL p q → EqvL (l ++ p) (m ++ q)
  | [], [], _, _, _, h => h
  | a :: l, b :: m, _, _, h, h2 => ⟨h.1, EqvL.append h.2 h2⟩
theorem EqvL.get : ∀ {l m : List CmdIn}, EqvL l m → ∀ i, i < l.length → Eqv (l.getD i zeroC) (m.getD i zeroC)
  | [], [], _, i, hi => absurd hi (Nat.not_lt_zero i)
  | a :: l, b :: m, h, 0, _ => h.1
  | a :: l, b :: m, h, i + 1, hi => by simpa using EqvL.get h.2 i (by simpa using hi)
theorem EqvL.of : ∀ {l m : List CmdIn}, l.length = m.length → (∀ i, i < l.length → Eqv (l.getD i zeroC) (m.getD i zeroC)) → EqvL l m
  | [], [], _, _ => trivial
  | a :: l, b :: m, hl, h => ⟨h 0 (by simp), EqvL.of (by simpa using hl) fun i hi => by simpa using h (i + 1) (by simpa using hi)⟩
theorem EqvL.take : ∀ {l m : List CmdIn} (k : Nat), EqvL l m → EqvL (l.take k) (m.take k)
  | [], [], k, _ => by simp; exact trivial
  | a :: l, b :: m, 0, h => trivial
  | a :: l, b :: m, k + 1, h => ⟨h.1, EqvL.take k h.2⟩
/-- What is made of a command is made of its like. -/
theorem fn_eqv {a b : CmdIn} (h : Eqv a b) : cmdB a = cmdB b ∧ chkV a = chkV b ∧ lineT a = lineT b := by
  obtain ⟨k, n, g, ga, gc, w, wa, wc⟩ := a
  obtain ⟨k2, n2, g2, ga2, gc2, w2, wa2, wc2⟩ := b
  obtain ⟨h1, h2, h3, h4⟩ := h
  dsimp only at h1 h2 h3 h4
  subst h1 h2 h3 h4
  exact ⟨rfl, rfl, rfl⟩
/-- The commands of lines, and the number of the first that is none. -/
def scriptTo : Nat → List CmdIn → List (List UInt8) → List CmdIn × Int × Int
  | _, out, [] => (out, 0, 0)
  | k, out, l :: r => if skip l = true then scriptTo (k + 1) out r else match parseO l with
    | none => ([], (k : Int) + 1, 2)
    | some c => if 4096 ≤ out.length then ([], (k : Int) + 1, 4) else scriptTo (k + 1) (out ++ [c]) r
def scriptV (t : List UInt8) : List CmdIn × Int × Int := if 65536 < t.length then ([], 0, 1) else scriptTo 0 [] (splitL 10 t)
def bad (l : List CmdIn) : Bool := l.any fun c => decide (chkV c ≠ 0)
def textT (l : List CmdIn) : List UInt8 := l.flatMap fun c => lineT c ++ [10]
def textV (l : List CmdIn) : List UInt8 × Int := if 4096 < l.length then ([], 1) else if bad l = true then ([], 1) else (textT l, 0)
def recB (c : CmdIn) : ByteArray := bs (cmdB c)
def packT (l : List CmdIn) : List UInt8 := cats (l.map recB)
def packV (l : List CmdIn) : List UInt8 × Int := if 4096 < l.length then ([], 1) else if bad l = true then ([], 1) else (packT l, 0)
def takeO (x : List UInt8) : Option CmdIn := if (takeV x).2 = 0 then some (takeV x).1 else none
def unpackV (s : List UInt8) : List CmdIn × Int := if (scan s).2 ≠ s.length then ([], 2) else match allO ((scan s).1.map takeO) with
  | none => ([], 2)
  | some l => if 4096 < l.length then ([], 4) else (l, 0)
def asmV (t : List UInt8) : List UInt8 × Int × Int := if (scriptV t).2.2 = 0 then ((packV (scriptV t).1).1, 0, (packV (scriptV t).1).2) else ([], (scriptV t).2.1, (scriptV t).2.2)
def disV (s : List UInt8) : List UInt8 × Int := if (unpackV s).2 = 0 then textV (unpackV s).1 else ([], (unpackV s).2)
/-- A command that came in, and may be. -/
structure Good (c : CmdIn) : Prop where
  cok : Cok c
  clear : Clear c
  chk : chkV c = 0
theorem bad_not {l : List CmdIn} (h : bad l = false) : ∀ c ∈ l, chkV c = 0 := fun c hc => by
  have := List.any_eq_false.1 h c hc
  simpa using this
theorem bad_of {l : List CmdIn} (h : ∀ c ∈ l, chkV c = 0) : bad l = false := List.any_eq_false.2 fun c hc => by simp [h c hc]
theorem texts_eqv : ∀ {l m : List CmdIn}, EqvL l m → textT l = textT m ∧ packT l = packT m ∧ bad l = bad m
  | [], [], _ => ⟨rfl, rfl, rfl⟩
  | a :: l, b :: m, h => by
    obtain ⟨h1, h2, h3⟩ := fn_eqv h.1
    obtain ⟨i1, i2, i3⟩ := texts_eqv h.2
    refine ⟨?_, ?_, ?_⟩
    · show lineT a ++ [10] ++ textT l = lineT b ++ [10] ++ textT m
      rw [h3, i1]
    · show put (recB a).data.toList ++ packT l = put (recB b).data.toList ++ packT m
      have : recB a = recB b := by unfold recB; rw [h1]
      rw [this, i2]
    · show (decide (chkV a ≠ 0) || bad l) = (decide (chkV b ≠ 0) || bad m)
      rw [h2, i3]
theorem textV_eqv {l m : List CmdIn} (h : EqvL l m) : textV l = textV m ∧ packV l = packV m := by
  obtain ⟨h1, h2, h3⟩ := texts_eqv h
  unfold textV packV
  rw [h1, h2, h3, h.length]
  exact ⟨rfl, rfl⟩
theorem line_skip (c : CmdIn) (hk : 1 ≤ c.kind ∧ c.kind ≤ 25) : skip (lineT c) = false := by
  rw [skip_words, words_line c hk]
  unfold lineW
  dsimp only
  rw [name_word hk]
  obtain ⟨h1, h2, -⟩ := words_bytes (c.kind - 1).toNat (by omega)
  cases hw : words.getD (c.kind - 1).toNat [] with
  | nil => exact absurd hw h2
  | cons x l =>
    have := h1 x (by rw [hw]; exact List.mem_cons_self ..)
    simp
    intro e
    subst e
    revert this; decide
theorem line_no (c : CmdIn) (hk : 1 ≤ c.kind ∧ c.kind ≤ 25) : 10 ∉ lineT c := fun hm => by
  rcases joinL_mem 32 10 _ hm with e | ⟨p, hp, hm⟩
  · revert e; decide
  have num : ∀ (n t : List UInt8), (∀ b ∈ n, 97 ≤ b.toNat ∧ b.toNat ≤ 122) → (10 : UInt8) ∉ t → (10 : UInt8) ∉ n ++ 61 :: t := fun n t hn ht hm => by
    rcases List.mem_append.1 hm with hm | hm
    · exact not_of_range hn 10 (by decide) hm
    · rcases List.mem_cons.1 hm with hm | hm
      · revert hm; decide
      · exact ht hm
  rcases List.mem_cons.1 hp with rfl | hp
  · rw [name_word hk] at hm
    exact not_of_range (words_bytes (c.kind - 1).toNat (by omega)).1 10 (by decide) hm
  rcases List.mem_append.1 hp with hp | hp
  · obtain ⟨i, hi, hp⟩ := List.mem_flatMap.1 hp
    unfold fieldT at hp
    split at hp
    · cases hp
    · rw [List.mem_singleton.1 hp] at hm
      exact num _ _ (names_bytes i (Cmd.fi_small _ i hi)).1 (itoa_not _ _ (by decide)) hm
  · rcases List.mem_append.1 hp with hp | hp
    · unfold tailT at hp
      split at hp
      · cases hp
      · rw [List.mem_singleton.1 hp] at hm
        exact num _ _ (by decide) (listT_not _ _ (by decide)) hm
    · unfold tailT at hp
      split at hp
      · cases hp
      · rw [List.mem_singleton.1 hp] at hm
        exact num _ _ (by decide) (listT_not _ _ (by decide)) hm
theorem good_kind {c : CmdIn} (h : Good c) : 1 ≤ c.kind ∧ c.kind ≤ 25 := Cmd.kind_of (Cmd.chk_fn h.chk).1
theorem split_text : ∀ l : List CmdIn, (∀ c ∈ l, 1 ≤ c.kind ∧ c.kind ≤ 25) → splitL 10 (textT l) = l.map lineT ++ [[]]
  | [], _ => rfl
  | c :: l, h => by
    have e : textT (c :: l) = lineT c ++ 10 :: textT l := by
      show lineT c ++ [10] ++ textT l = _
      simp
    rw [e, splitL_more 10 _ _ (line_no c (h c (List.mem_cons_self ..))), split_text l fun d hd => h d (List.mem_cons_of_mem _ hd)]
    rfl
theorem script_lines : ∀ (l : List CmdIn), (∀ c ∈ l, Good c) → ∀ (k : Nat) (out : List CmdIn), out.length + l.length ≤ 4096 → ∃ m, scriptTo k out (l.map lineT ++ [[]]) = (out ++ m, 0, 0) ∧ EqvL m l
  | [], _, k, out, _ => ⟨[], by rw [List.append_nil]; rfl, trivial⟩
  | c :: l, h, k, out, hn => by
    have hc := h c (List.mem_cons_self ..)
    obtain ⟨c', e1, e2⟩ := parse_line c hc.cok hc.clear hc.chk
    have hn' : out.length + (l.length + 1) ≤ 4096 := hn
    obtain ⟨m, e3, e4⟩ := script_lines l (fun d hd => h d (List.mem_cons_of_mem _ hd)) (k + 1) (out ++ [c']) (by rw [List.length_append]; show out.length + 1 + l.length ≤ _; omega)
    refine ⟨c' :: m, ?_, e2, e4⟩
    rw [List.map_cons, List.cons_append, scriptTo, line_skip c (good_kind hc), if_neg (by decide), e1]
    dsimp only
    rw [if_neg (by omega), e3]
    simp
theorem text_len : ∀ l : List CmdIn, (∀ c ∈ l, Good c) → (textT l).length ≤ 1016 * l.length
  | [], _ => Nat.zero_le _
  | c :: l, h => by
    have hc := h c (List.mem_cons_self ..)
    have h1 := line_len c hc.cok hc.chk
    have h2 := text_len l fun d hd => h d (List.mem_cons_of_mem _ hd)
    have e : textT (c :: l) = lineT c ++ [10] ++ textT l := rfl
    rw [e, List.length_append, List.length_append, List.length_cons]
    simp only [List.length_cons, List.length_nil]
    omega
/-- The script of a text of lines. -/
theorem script_text (l : List CmdIn) (h : ∀ c ∈ l, Good c) (hn : l.length ≤ 4096) (ht : (textT l).length ≤ 65536) : ∃ m, scriptV (textT l) = (m, 0, 0) ∧ EqvL m l := by
  obtain ⟨m, e1, e2⟩ := script_lines l h 0 [] (by simpa using hn)
  refine ⟨m, ?_, e2⟩
  unfold scriptV
  rw [if_neg (by omega), split_text l fun c hc => good_kind (h c hc), e1]
  rfl
theorem cmd_len (c : CmdIn) (h : Good c) : 1 ≤ (cmdB c).length ∧ (cmdB c).length ≤ 4096 := by
  obtain ⟨h1, ⟨l1, l2, l3⟩, h3⟩ := Cmd.chk_fn h.chk
  have a1 := Cmd.uintB_len c.kind
  have a2 := Cmd.numB_len c (fi c.kind)
  have a3 := Cmd.fi_len c.kind
  have st : ∀ l : List Stk, l.length ≤ 8 → (stkB l).length ≤ 170 := fun l hl => by
    have b1 := Cmd.uintB_len (l.length : Int)
    have b2 := Cmd.stksB_len l
    unfold Cmd.stkB
    rw [List.length_append]
    omega
  have a4 := st c.gives l1
  have a5 := st c.wants l2
  have hne : 1 ≤ (Pen.uintB c.kind).length := by
    unfold Pen.uintB
    have := good_kind h
    rw [if_neg (by omega)]
    unfold Pen.wb
    exact (Pen.wbF_len _ _).1
  unfold cmdB
  rw [List.length_append, List.length_append]
  split
  · rw [List.length_append]; omega
  · simp; omega
theorem pack_oks : ∀ l : List CmdIn, (∀ c ∈ l, Good c) → oks (l.map recB) = true := fun l h => by
  unfold oks
  rw [List.all_eq_true]
  intro s hs
  obtain ⟨c, hc, rfl⟩ := List.mem_map.1 hs
  have := cmd_len c (h c hc)
  unfold ok fits
  rw [decide_eq_true]
  exact this
theorem takeO_put (c : CmdIn) (h : Good c) : ∃ c', takeO (cmdB c) = some c' ∧ Eqv c' c := by
  obtain ⟨h1, h2⟩ := Cmd.take_put c h.cok h.clear h.chk
  exact ⟨_, if_pos h2, h1⟩
theorem takes_put : ∀ l : List CmdIn, (∀ c ∈ l, Good c) → ∃ m, allO ((l.map cmdB).map takeO) = some m ∧ EqvL m l
  | [], _ => ⟨[], rfl, trivial⟩
  | c :: l, h => by
    obtain ⟨c', e1, e2⟩ := takeO_put c (h c (List.mem_cons_self ..))
    obtain ⟨m, e3, e4⟩ := takes_put l fun d hd => h d (List.mem_cons_of_mem _ hd)
    refine ⟨c' :: m, ?_, e2, e4⟩
    rw [List.map_cons, List.map_cons, e1, allO, e3]
    rfl
theorem recs_list (l : List CmdIn) : (l.map recB).map (fun s => s.data.toList) = l.map cmdB := by
  rw [List.map_map]
  rfl
theorem scan_pack (l : List CmdIn) (h : ∀ c ∈ l, Good c) : scan (packT l) = (l.map cmdB, (packT l).length) := by
  have := Frm.scan_cats (l.map recB) (Frm.oks_mem (pack_oks l h)) []
  rw [List.append_nil] at this
  unfold packT
  rw [this, recs_list]
  show (_ ++ [], _ + 0) = _
  simp
/-- Packed and unpacked it is the same. -/
theorem unpack_pack (l : List CmdIn) (h : ∀ c ∈ l, Good c) (hn : l.length ≤ 4096) : ∃ m, unpackV (packT l) = (m, 0) ∧ EqvL m l := by
  obtain ⟨m, e1, e2⟩ := takes_put l h
  refine ⟨m, ?_, e2⟩
  have hl := e2.length
  unfold unpackV
  rw [scan_pack l h]
  dsimp only
  rw [if_neg (fun h => h rfl), e1]
  dsimp only
  rw [if_neg (by omega)]
/-- Cut anywhere it is none, or as many whole ones. -/
theorem unpack_cut (l : List CmdIn) (h : ∀ c ∈ l, Good c) (hn : l.length ≤ 4096) (n : Nat) (hc : n ≤ (packT l).length) : unpackV ((packT l).take n) = ([], 2) ∨ ∃ m k, k ≤ l.length ∧ unpackV ((packT l).take n) = (m, 0) ∧ EqvL m (l.take k) := by
  have hk : ∃ k, k ≤ (l.map recB).length ∧ (cats ((l.map recB).take k)).length ≤ n ∧ (k = (l.map recB).length ∨ n < (cats ((l.map recB).take (k + 1))).length) := by
    have step : ∀ j, j ≤ (l.map recB).length → (cats ((l.map recB).take j)).length ≤ n → ∃ k, k ≤ (l.map recB).length ∧ (cats ((l.map recB).take k)).length ≤ n ∧ (k = (l.map recB).length ∨ n < (cats ((l.map recB).take (k + 1))).length) := by
      intro j
      generalize hd : (l.map recB).length - j = d
      induction d generalizing j with
      | zero => intro h1 h2; exact ⟨j, h1, h2, Or.inl (by omega)⟩
      | succ d ih =>
        intro h1 h2
        by_cases h3 : (cats ((l.map recB).take (j + 1))).length ≤ n
        · exact ih (j + 1) (by omega) (by omega) h3
        · exact ⟨j, h1, h2, Or.inr (by omega)⟩
    exact step 0 (Nat.zero_le _) (Nat.zero_le _)
  obtain ⟨k, hk, h1, h2⟩ := hk
  have hk' : k ≤ l.length := by simpa using hk
  have hs := Frm.scan_cut (l.map recB) (pack_oks l h) n k hk h1 h2 hc
  have hlen : ((packT l).take n).length = n := by rw [List.length_take]; omega
  unfold unpackV
  unfold packT at hlen hc ⊢
  rw [hs, hlen]
  dsimp only
  by_cases he : (cats ((l.map recB).take k)).length = n
  · obtain ⟨m, e1, e2⟩ := takes_put (l.take k) fun c hc => h c (List.mem_of_mem_take hc)
    have er : Frm.strs ((l.map recB).take k) = (l.take k).map cmdB := by
      rw [← List.map_take]
      unfold Frm.strs
      exact recs_list (l.take k)
    have hl := e2.length
    rw [List.length_take] at hl
    refine Or.inr ⟨m, k, hk', ?_, e2⟩
    rw [if_neg (fun h => h he), er, e1]
    dsimp only
    rw [if_neg (by omega)]
  · exact Or.inl (by rw [if_pos he])
end Asm
end Go.Proofs.YtlhalhilnkneeaaGreatDoor
end
section
namespace Go.Proofs.YtlhalhilnkneeaaGreatDoor
namespace Asm
open Go.Lib (decDigits itoa)
theorem words_plain (p : List UInt8) (h : 32 ∉ p) : wordsL p = if p = [] then [] else [p] := by
  unfold wordsL
  rw [splitL_not 32 p h]
  cases p with
  | nil => rfl
  | cons x l => rfl
theorem words_front (p r : List UInt8) (h : 32 ∉ p) : wordsL (p ++ 32 :: r) = (if p = [] then [] else [p]) ++ wordsL r := by
  unfold wordsL
  rw [splitL_more 32 r p h]
  cases p with
  | nil => rfl
  | cons x l => rfl
/-- Which rune stands at a place, and how wide it is: as much as blanks want. -/
theorem dec_blank (s : ByteArray) (i : Nat) (hi : i < s.size) :
    1 ≤ (Utf8.decode s i).2 ∧ i + (Utf8.decode s i).2 ≤ s.size ∧ ((Utf8.decode s i).1 = 32 ↔ (s.get! i).toNat = 32) ∧ ∀ j, i < j → j < i + (Utf8.decode s i).2 → (s.get! j).toNat ≠ 32 := by
  rw [Lib.decode_at s i]
  have n1 : 0 < s.size - i := by omega
  have e1 : s.size - i + i = s.size := by omega
  generalize hn : s.size - i = n at *
  have h0 := (s.get! i).toNat_lt
  have h1 := (s.get! (i + 1)).toNat_lt
  have h2 := (s.get! (i + 2)).toNat_lt
  have h3 := (s.get! (i + 3)).toNat_lt
  have hj : ∀ j, i < j → j < i + 4 → j = i + 1 ∨ j = i + 2 ∨ j = i + 3 := fun j a b => by omega
  generalize hb0 : (s.get! i).toNat = b0 at *
  generalize hb1 : (s.get! (i + 1)).toNat = b1 at *
  generalize hb2 : (s.get! (i + 2)).toNat = b2 at *
  generalize hb3 : (s.get! (i + 3)).toNat = b3 at *
  unfold Lib.decodeN
  have one : ∀ r : Nat, (r = 32 ↔ b0 = 32) → 1 ≤ (r, 1).2 ∧ i + (r, 1).2 ≤ s.size ∧ ((r, 1).1 = 32 ↔ b0 = 32) ∧ ∀ j, i < j → j < i + (r, 1).2 → (s.get! j).toNat ≠ 32 := fun r hr => by
    refine ⟨Nat.le_refl _, by show i + 1 ≤ _; omega, hr, fun j a b => ?_⟩
    have : j < i + 1 := b
    omega
  split
  · exact one b0 Iff.rfl
  split
  · rename_i h
    split
    · refine ⟨by show 1 ≤ 2; omega, by show i + 2 ≤ _; omega, by show (_ = 32 ↔ _); omega, fun j a b => ?_⟩
      have b' : j < i + 2 := b
      obtain rfl : j = i + 1 := by omega
      rw [hb1]; omega
    · exact one _ (by omega)
  split
  · rename_i h
    split
    · refine ⟨by show 1 ≤ 3; omega, by show i + 3 ≤ _; omega, by show (_ = 32 ↔ _); omega, fun j a b => ?_⟩
      have b' : j < i + 3 := b
      rcases hj j a (by omega) with rfl | rfl | rfl
      · rw [hb1]; omega
      · rw [hb2]; omega
      · omega
    · exact one _ (by omega)
  split
  · rename_i h
    split
    · refine ⟨by show 1 ≤ 4; omega, by show i + 4 ≤ _; omega, by show (_ = 32 ↔ _); omega, fun j a b => ?_⟩
      have b' : j < i + 4 := b
      rcases hj j a (by omega) with rfl | rfl | rfl
      · rw [hb1]; omega
      · rw [hb2]; omega
      · rw [hb3]; omega
    · exact one _ (by omega)
  · exact one _ (by omega)
/-- What the document's loop over digits makes: none where it gives up. -/
def digStep (n : Int) (c : UInt8) : Option Int :=
  if c.toNat < 48 ∨ 57 < c.toNat ∨ n < -922337203685477580 then none
  else if 10 * n < -9223372036854775808 + ((c.toNat : Int) - 48) then none
  else some (10 * n - ((c.toNat : Int) - 48))
def digsTo : Int → List UInt8 → Option Int
  | n, [] => some n
  | n, c :: l => match digStep n c with
    | none => none
    | some m => digsTo m l
def refNum (l : List UInt8) : Option Int :=
  if l.length < 1 ∨ 20 < l.length then none
  else match digsTo 0 (if l.head? = some 45 then l.drop 1 else l) with
    | none => none
    | some n => if l.head? = some 45 then some n else if n = -9223372036854775808 then none else some (-n)
theorem digsTo_append (l : List UInt8) (c : UInt8) : ∀ n, digsTo n (l ++ [c]) = match digsTo n l with
    | none => none
    | some m => digStep m c := by
  induction l with
  | nil => intro n; simp [digsTo]; split <;> simp_all
  | cons x l ih =>
    intro n
    rw [List.cons_append, digsTo, digsTo]
    cases digStep n x with
    | none => rfl
    | some m => exact ih m
theorem digs_dec (u : Nat) (hu : u ≤ 9223372036854775808) : digsTo 0 (decDigits u) = some (-(u : Int)) := by
  induction u using Nat.strongRecOn with
  | _ u ih =>
    rw [decDigits]
    split
    · rename_i h
      rw [digsTo, digStep, dig_byte u h, if_neg (by omega), if_neg (by omega)]
      show some (10 * 0 - (((48 + u : Nat) : Int) - 48)) = _
      congr 1
      omega
    · rename_i h
      rw [digsTo_append, ih (u / 10) (by omega) (by omega)]
      dsimp only
      rw [digStep, dig_byte (u % 10) (by omega), if_neg (by omega), if_neg (by omega)]
      congr 1
      omega
theorem dec_len_pos (u : Nat) : 1 ≤ (decDigits u).length := by
  cases h : decDigits u with
  | nil => exact absurd h (dig_ne u)
  | cons x l => simp
theorem dec_len : ∀ (k u : Nat), u < 10 ^ (k + 1) → (decDigits u).length ≤ k + 1
  | 0, u, h => by rw [decDigits, dif_pos (by simpa using h)]; exact Nat.le_refl _
  | k + 1, u, h => by
    rw [decDigits]
    split
    · simp
    · have h10 : u / 10 < 10 ^ (k + 1) := by rw [Nat.pow_succ] at h; omega
      have := dec_len k (u / 10) h10
      rw [List.length_append]
      simp
      omega
theorem refNum_itoa (n : Int) (h : I64 n) : refNum (itoa n) = some n := by
  obtain ⟨h0, h1⟩ := h
  have e : (10 : Nat) ^ (18 + 1) = 10000000000000000000 := by decide
  unfold itoa
  split
  · rename_i hn
    have hl := dec_len 18 n.natAbs (by omega)
    have hp := dec_len_pos n.natAbs
    unfold refNum
    rw [if_neg (by rw [List.length_cons]; omega)]
    have hh : (45 :: decDigits n.natAbs).head? = some 45 := rfl
    rw [hh, if_pos rfl]
    rw [show (45 :: decDigits n.natAbs).drop 1 = decDigits n.natAbs from rfl, digs_dec _ (by omega)]
    dsimp only
    rw [if_pos rfl]
    congr 1
    omega
  · rename_i hn
    have hl := dec_len 18 n.toNat (by omega)
    have hp := dec_len_pos n.toNat
    have hh : (decDigits n.toNat).head? ≠ some 45 := by
      cases hd : decDigits n.toNat with
      | nil => exact absurd hd (dig_ne _)
      | cons x l =>
        have := dig_range n.toNat x (by rw [hd]; exact List.mem_cons_self ..)
        intro e
        injection e with e
        subst e
        revert this; decide
    unfold refNum
    rw [if_neg (by omega), if_neg hh, digs_dec _ (by omega)]
    dsimp only
    rw [if_neg hh, if_neg (by omega)]
    congr 1
    omega
/-- What the document's Number answers. -/
theorem refNum_iff (l : List UInt8) : numL l = match refNum l with
    | none => none
    | some n => if itoa n = l ∧ I64 n then some n else none := by
  cases hn : numL l with
  | some n =>
    obtain ⟨h1, h2⟩ := numL_some hn
    rw [← h1, refNum_itoa n h2]
    dsimp only
    rw [if_pos ⟨rfl, h2⟩]
  | none =>
    cases hr : refNum l with
    | none => rfl
    | some n =>
      dsimp only
      rw [if_neg (fun h => numL_none hn n h.2 h.1)]
end Asm
end Go.Proofs.YtlhalhilnkneeaaGreatDoor
end
