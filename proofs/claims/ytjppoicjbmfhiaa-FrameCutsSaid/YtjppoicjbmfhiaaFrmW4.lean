/- The walks of records' bytes. -/
import Derived.Test.YtjppoicjbmfhiaaFrmW3
import Derived.Test.YtjppoicjbmfhiaaCrcF
import Derived.Lib.AppendStr
import Derived.OwnWalk
namespace Go.Proofs.Ytjppoicjbmfhiaa
open Go.RowKit
namespace Frm
open Crc (sum sum_any refSum_any)
open In (strVals Strs)
theorem uinfo : (Try.prog.info? 5).map (fun i => (i.zero, i.size, i.bytes)) = some (some (.int .u8 0), 1, 1) := by kernel_rfl
/-- May all of them be records? -/
def oks (l : List ByteArray) : Bool := l.all ok
theorem cats_take (l : List ByteArray) (k : Nat) (h : k < l.length) : cats (l.take (k + 1)) = cats (l.take k) ++ put (l.getD k ByteArray.empty).data.toList := by
  rw [List.take_succ_eq_append_getElem h, cats_append, List.getD_eq_getElem?_getD, List.getElem?_eq_getElem h]
  simp [cats]
theorem cats_len (l : List ByteArray) (h : oks l = true) : (cats l).length ≤ 4104 * l.length := by
  induction l with
  | nil => simp [cats]
  | cons s l ih =>
    simp only [oks, List.all_cons, Bool.and_eq_true] at h
    have h1 := of_decide_eq_true h.1
    have h2 := ih h.2
    have h3 : s.data.toList.length = s.size := by simp
    rw [cats_cons, List.length_append, put_length, List.length_cons]
    omega
theorem oks_take (l : List ByteArray) (h : oks l = true) (k : Nat) : oks (l.take k) = true := by
  unfold oks at *
  rw [List.all_eq_true] at *
  exact fun x hx => h x (List.mem_of_mem_take hx)
theorem oks_get (l : List ByteArray) (h : oks l = true) (k : Nat) (hk : k < l.length) : fits (l.getD k ByteArray.empty).size = true := by
  unfold oks at h
  rw [List.all_eq_true] at h
  rw [List.getD_eq_getElem?_getD, List.getElem?_eq_getElem hk]
  exact h _ (List.getElem_mem hk)
/-- The first one that is none. -/
theorem bad_at (l : List ByteArray) (h : oks l = false) : ∃ j, j < l.length ∧ fits (l.getD j ByteArray.empty).size = false ∧ ∀ i, i < j → fits (l.getD i ByteArray.empty).size = true := by
  induction l with
  | nil => cases h
  | cons s l ih =>
    cases hs : ok s
    · exact ⟨0, by simp, hs, fun i hi => by omega⟩
    · simp only [oks, List.all_cons, hs, Bool.true_and] at h
      obtain ⟨j, h1, h2, h3⟩ := ih h
      refine ⟨j + 1, by simp; omega, by simpa using h2, fun i hi => ?_⟩
      cases i with
      | zero => exact hs
      | succ i => simpa using h3 i (by omega)
set_option maxHeartbeats 1000000 in
theorem all_no (a : Option Addr) (cap : Nat) (l : List ByteArray) (hl : l.length ≤ 1000000) (h : oks l = false) (w : World) (ha : Strs w a l) (hsz : ∀ s ∈ l, s.size ≤ maxLen) :
    Calls Try.prog 11 #[.slice a l.length cap] w fun e w' => e = .returned (.tuple #[.string ⟨#[]⟩, .int .i64 1]) ∧ w = w' := by
  obtain ⟨j, hj, hbad, hgood⟩ := bad_at l h
  have HG := Lib.hid hgood
  clear h hgood
  go_enter Try.func11, Try.ntmps11
  go_wp2
  go_loop [4, 6, 13] (fun sz _ i => ∃ k : Nat, k ≤ j ∧ i = .int .i64 k ∧ ∃ z : Nat, z ≤ 4104 * k ∧ sz = .int .i64 z) (fun _ _ i => l.length - (intOf i).toNat)
  case atStart => exact ⟨0, by omega, rfl, 0, by omega, rfl⟩
  case round =>
    obtain ⟨k, hk, rfl, z, hz, rfl⟩ := hrel
    have hlt : (k : Int) < (l.length : Int) := by omega
    obtain ⟨b, off, rfl, hb, hc⟩ := ha k (by omega)
    have hsm := hsz _ (Crc.getD_mem l k (by omega))
    unfold maxLen at hsm
    clear ha hsz
    by_cases hkj : k < j
    · have hg := HG.out k hkj
      have h4 := (of_decide_eq_true hg).2
      have FY := Lib.hid (fits_yes _ hg)
      clear hg hbad
      generalize l.getD k ByteArray.empty = x at *
      go_wp2_with (go_at_call 20; ((with_reducible refine (FY.out _).mono ?_); rintro e w1 ⟨rfl, rfl⟩))
      go_round
      case rel => exact ⟨k + 1, by omega, by go_num, z + (8 + x.size), by omega, by go_num⟩
      case measure => simp [intOf]; omega
    · have : k = j := by omega
      subst this
      have FN := Lib.hid (fits_no _ hbad)
      clear hbad
      generalize l.getD k ByteArray.empty = x at *
      go_wp2_with (go_at_call 20; ((with_reducible refine (FN.out _).mono ?_); rintro e w1 ⟨rfl, rfl⟩))
      go_ret2
      exact ⟨rfl, rfl⟩
set_option maxHeartbeats 1000000 in
theorem all_yes (a : Option Addr) (cap : Nat) (l : List ByteArray) (hl : l.length ≤ 1000000) (h : oks l = true) (w : World) (ha : Strs w a l) :
    Calls Try.prog 11 #[.slice a l.length cap] w fun e w' => e = .returned (.tuple #[.string ⟨(cats l).toArray⟩, .int .i64 0]) ∧ Below w.heap.size w w' := by
  obtain ⟨i0, hi, hz0, hz1, hz2⟩ := info_parts uinfo
  have HG := Lib.hid (oks_get l h)
  have HT := Lib.hid (fun k => cats_len (l.take k) (oks_take l h k))
  have HA := Lib.hid ha
  clear h ha
  go_enter Try.func11, Try.ntmps11
  go_wp2
  go_loop [4, 6, 13] (fun sz _ i => ∃ k : Nat, k ≤ l.length ∧ i = .int .i64 k ∧ sz = .int .i64 ((cats (l.take k)).length : Int)) (fun _ _ i => l.length - (intOf i).toNat)
  case atStart => exact ⟨0, by omega, rfl, rfl⟩
  case round =>
    obtain ⟨k, hk, rfl, rfl⟩ := hrel
    have hck := HT.out k
    rw [List.length_take] at hck
    by_cases hlt : k < l.length
    · obtain ⟨b, off, rfl, hb, hc⟩ := HA.out k hlt
      have hg := HG.out k hlt
      have h4 := (of_decide_eq_true hg).2
      have FY := Lib.hid (fits_yes _ hg)
      have hct : Hid ((cats (l.take (k + 1))).length = (cats (l.take k)).length + (8 + (l.getD k ByteArray.empty).size)) := by
        show _ = _
        rw [cats_take l k hlt, List.length_append, put_length]; simp
      clear hg
      generalize l.getD k ByteArray.empty = x at *
      go_wp2_with (go_at_call 20; ((with_reducible refine (FY.out _).mono ?_); rintro e w1 ⟨rfl, rfl⟩))
      go_round
      case rel => exact ⟨k + 1, by omega, by go_num, by rw [hct.out]; go_num⟩
      case measure => simp [intOf]; omega
    · have hke : k = l.length := by omega
      subst hke
      have hct : Hid ((cats l).length = (cats (l.take l.length)).length) := by show _ = _; rw [List.take_length]
      generalize (cats (l.take l.length)).length = N at *
      go_wp2_with (at_make; refine wpList_make_own _ rfl (.const (.int .i64 0)) (.tmp 27) 37 rfl w.heap.size 5 i0 _ 1 Try.underlying37 hi hz0 hz1 .i64 .i64 _ N rfl rfl rfl ?b2 ?b3 ?b4 ?_; (case b2 => rw [hz2]; omega); (case b3 => unfold maxLen; omega); (case b4 => exact Nat.le_refl _); intro w1 hown1 hgrow1)
      have hb1 : Below w.heap.size w w1 := (Below.refl _ _).grown hgrow1 (Nat.le_refl _) (fun k hk => by cases hk)
      have HO1 := Lib.hid hown1
      have HB1 := Lib.hid hb1
      clear hown1 hb1 hgrow1
      go_loopw [7, 31] (fun v i wr => ∃ k : Nat, k ≤ l.length ∧ i = .int .i64 k ∧ Hid (wr.ownsRow w.heap.size 5 1 v (cats (l.take k)).length (Own.byteVals (cats (l.take k)))) ∧ Hid (Below w.heap.size w wr)) (fun _ i _ => l.length - (intOf i).toNat)
      case atStart => exact ⟨0, by omega, rfl, HO1, HB1⟩
      case round =>
        obtain ⟨k, hk, rfl, HO, HB⟩ := hrel
        have hck := HT.out k
        rw [List.length_take] at hck
        by_cases hlt : k < l.length
        · obtain ⟨b, off, rfl, hb, hc⟩ := HA.out.below HB.out k hlt
          have hg := HG.out k hlt
          have h4 := (of_decide_eq_true hg).2
          have hct : Hid (cats (l.take (k + 1)) = cats (l.take k) ++ put (l.getD k ByteArray.empty).data.toList) := cats_take l k hlt
          clear hg
          generalize l.getD k ByteArray.empty = x at *
          generalize cats (l.take k) = C at *
          have HH := Lib.hid (headOf_any x h4)
          obtain ⟨h8, hh8⟩ : ∃ h8 : Array Value, Hid ((Own.byteVals (hd x.data.toList)).toArray = h8) := ⟨_, rfl⟩
          have h8s : h8.size = 8 := by rw [← hh8.out]; rfl
          have h8l : h8.toList.length = 8 * 1 := by simpa using h8s
          have hsz : (Try.prog.info? 42).map (·.size) = some h8.size := by rw [h8s]; kernel_rfl
          have hone : h8.all (·.oneCell') = true := by rw [← hh8.out]; simp [Own.byteVals, Value.oneCell']
          have hone2 : ∀ u ∈ h8.toList, u.oneCell' = true := by
            intro u hu
            rw [← hh8.out] at hu
            simp [Own.byteVals] at hu
            obtain ⟨z, _, rfl⟩ := hu
            rfl
          have HH2 := Lib.hid (And.intro h8s (And.intro h8l (And.intro hsz (And.intro hone hone2))))
          clear h8s h8l hsz hone hone2
          go_wp2_with (first
            | (go_at_call 21; ((with_reducible refine (HH.out _).mono ?_); rintro e w2 ⟨rfl, hb2⟩); rw [hh8.out])
            | (refine wpList_store_row rfl 42 (.tmp 10) (.tmp 36) rfl _ h8 rfl rfl 42 _ (heap_alloc_last _ _) HH2.out.2.2.1 ?hh HH2.out.2.2.2.1 ?_; (case hh => rw [HH2.out.1]; rfl); rw [World.setRow_alloc_new])
            | (at_builtin; refine wpList_append_own _ rfl (.tmp 37) (.tmp 38) 37 rfl w.heap.size 5 i0 _ 1 1 Try.underlying37 hi hz0 hz1 hz2 rfl (by decide) _ C.length _ rfl ((Own.own_below HO.out hb2).alloc _) _ 8 _ h8.toList rfl HH2.out.2.1 (World.news_of_block (heap_alloc_last _ _)) HH2.out.2.2.2.2 ?c1 ?c2 ?c3 ?_; (case c1 => unfold maxLen; omega); (case c2 => omega); (case c3 => have := HB.out.size; have := hb2.size; simp; omega); intro v3 w3 hown3 hgrow3 _; have hb3 := (below_al (below2 HB.out hb2) (.cells h8 42)).grown hgrow3 (below_al (below2 HB.out hb2) (.cells h8 42)).size (Own.own_block HO.out (Nat.le_refl _)))
            | (at_builtin; refine Lib.wpList_append_own_string _ rfl (.tmp 40) (.tmp 41) 37 9 rfl w.heap.size 5 i0 Try.underlying37 Try.underlying9 hi hz0 hz1 hz2 _ (C.length + 8) _ rfl hown3 x rfl ?d1 ?d2 ?d3 ?_; (case d1 => unfold maxLen; omega); (case d2 => omega); (case d3 => have := hb3.size; omega); intro v4 w4 hown4 hgrow4 _))
          have hb4 := hb3.grown hgrow4 hb3.size (Own.own_block hown3 (Nat.le_refl _))
          have hown5 : Hid (w4.ownsRow w.heap.size 5 1 v4 (C ++ put x.data.toList).length (Own.byteVals (C ++ put x.data.toList))) := by
            show World.ownsRow _ _ _ _ _ _ _
            have e1 : (C ++ put x.data.toList).length = C.length + 8 + x.size := by rw [List.length_append, put_length]; simp; omega
            have e2 : Own.byteVals (C ++ put x.data.toList) = (Own.byteVals C ++ h8.toList) ++ Lib.strCells x := by
              rw [put, Own.byteVals_append, Own.byteVals_append, ← hh8.out]
              simp [Own.byteVals, Lib.strCells]
            rw [e1, e2]
            exact hown4
          have HB4 := Lib.hid hb4
          clear hown3 hown4 hgrow3 hgrow4 hb3 hb4
          go_roundw
          case rel => exact ⟨k + 1, by omega, by go_num, by rw [hct.out]; exact hown5, HB4⟩
          case measure => simp [intOf]; omega
        · have hke : k = l.length := by omega
          have ho := HO.out
          rw [hke, List.take_length] at ho
          have hback := Own.run_back (P := Try.prog) (dst := 9) Try.underlying37 Try.underlying5 Try.underlying9 ho
          clear ho hke
          go_wp2
          go_ret2
          exact ⟨rfl, HB.out⟩
end Frm
end Go.Proofs.Ytjppoicjbmfhiaa
