/- Texts put together: CrcF, FrmW4, FrmA, FrmL, JrA, Shelf. -/
import Derived.Test.YteaikleofboknaaM04
import Derived.Test.YteaikleofboknaaM03
import Derived.Lib.Hide
import Derived.Test.YteaikleofboknaaM07
import Derived.Lib.AppendStr
import Derived.OwnWalk
import Derived.OpenShut
import Derived.Test.YteaikleofboknaaM06
import Derived.Shelf.Strings.Builder1
import Derived.Shelf.Strings.Builder2
import Derived.Shelf.Strings.OnBuilder
import Derived.Ground.SlgmProg
import Derived.Shelf.SortM.Plain
import Derived.Shelf.SortM.SortNone
import Derived.Test.YteaikleofboknaaProg
set_option linter.all false
section
namespace Go.Proofs.Yteaikleofboknaa
open Go.RowKit
namespace Crc
def few (l : List ByteArray) (most bytes : Int) : Bool := decide ((l.length : Int) ≤ most ∧ ∀ s ∈ l, (s.size : Int) ≤ bytes)
theorem getD_mem (l : List ByteArray) (k : Nat) (h : k < l.length) : l.getD k ByteArray.empty ∈ l := by
  rw [List.getD_eq_getElem?_getD, List.getElem?_eq_getElem h]; exact List.getElem_mem h
end Crc
end Go.Proofs.Yteaikleofboknaa
end
section
set_option maxRecDepth 100000
namespace Go.Proofs.Yteaikleofboknaa
open Go.RowKit
namespace Frm
open Crc (sum sum_any)
open In (strVals Strs)
theorem uinfo : (Try.prog.info? 5).map (fun i => (i.zero, i.size, i.bytes)) = some (some (.int .u8 0), 1, 1) := by kernel_rfl
/-- May all of them be records? -/
def oks (l : List ByteArray) : Bool := l.all ok
theorem cats_take (l : List ByteArray) (k : Nat) (h : k < l.length) : cats (l.take (k + 1)) = cats (l.take k) ++ put (l.getD k ByteArray.empty).data.toList := by
  rw [List.take_succ_eq_append_getElem h, cats_append, List.getD_eq_getElem?_getD, List.getElem?_eq_getElem h]
  simp [cats]
theorem cats_len (l : List ByteArray) (h : oks l = true) : (cats l).length ≤ 4104 * l.length := by
  induction l with
  | nil => simp [cats]
  | cons s l ih =>
    simp only [oks, List.all_cons, Bool.and_eq_true] at h
    have h1 := of_decide_eq_true h.1
    have h2 := ih h.2
    have h3 : s.data.toList.length = s.size := by simp
    rw [cats_cons, List.length_append, put_length, List.length_cons]
    omega
theorem oks_take (l : List ByteArray) (h : oks l = true) (k : Nat) : oks (l.take k) = true := by
  unfold oks at *
  rw [List.all_eq_true] at *
  exact fun x hx => h x (List.mem_of_mem_take hx)
theorem oks_get (l : List ByteArray) (h : oks l = true) (k : Nat) (hk : k < l.length) : fits (l.getD k ByteArray.empty).size = true := by
  unfold oks at h
  rw [List.all_eq_true] at h
  rw [List.getD_eq_getElem?_getD, List.getElem?_eq_getElem hk]
  exact h _ (List.getElem_mem hk)
/-- The first one that is none. -/
theorem bad_at (l : List ByteArray) (h : oks l = false) : ∃ j, j < l.length ∧ fits (l.getD j ByteArray.empty).size = false ∧ ∀ i, i < j → fits (l.getD i ByteArray.empty).size = true := by
  induction l with
  | nil => cases h
  | cons s l ih =>
    cases hs : ok s
    · exact ⟨0, by simp, hs, fun i hi => by omega⟩
    · simp only [oks, List.all_cons, hs, Bool.true_and] at h
      obtain ⟨j, h1, h2, h3⟩ := ih h
      refine ⟨j + 1, by simp; omega, by simpa using h2, fun i hi => ?_⟩
      cases i with
      | zero => exact hs
      | succ i => simpa using h3 i (by omega)
set_option maxHeartbeats 1000000 in
theorem all_no (a : Option Addr) (cap : Nat) (l : List ByteArray) (hl : l.length ≤ 1000000) (h : oks l = false) (w : World) (ha : Strs w a l) (hsz : ∀ s ∈ l, s.size ≤ maxLen) :
    Calls Try.prog 58 #[.slice a l.length cap] w fun e w' => e = .returned (.tuple #[.string ⟨#[]⟩, .int .i64 1]) ∧ w = w' := by
  obtain ⟨j, hj, hbad, hgood⟩ := bad_at l h
  have HG := Lib.hid hgood
  clear h hgood
  go_enter Try.func58, Try.ntmps58
  go_wp2
  go_loop [4, 6, 13] (fun sz _ i => ∃ k : Nat, k ≤ j ∧ i = .int .i64 k ∧ ∃ z : Nat, z ≤ 4104 * k ∧ sz = .int .i64 z) (fun _ _ i => l.length - (intOf i).toNat)
  case atStart => exact ⟨0, by omega, rfl, 0, by omega, rfl⟩
  case round =>
    obtain ⟨k, hk, rfl, z, hz, rfl⟩ := hrel
    have hlt : (k : Int) < (l.length : Int) := by omega
    obtain ⟨b, off, rfl, hb, hc⟩ := ha k (by omega)
    have hsm := hsz _ (Crc.getD_mem l k (by omega))
    unfold maxLen at hsm
    clear ha hsz
    by_cases hkj : k < j
    · have hg := HG.out k hkj
      have h4 := (of_decide_eq_true hg).2
      have FY := Lib.hid (fits_yes _ hg)
      clear hg hbad
      generalize l.getD k ByteArray.empty = x at *
      go_wp2_with (go_at_call 67; ((with_reducible refine (FY.out _).mono ?_); rintro e w1 ⟨rfl, rfl⟩))
      go_round
      case rel => exact ⟨k + 1, by omega, by go_num, z + (8 + x.size), by omega, by go_num⟩
      case measure => simp [intOf]; omega
    · have : k = j := by omega
      subst this
      have FN := Lib.hid (fits_no _ hbad)
      clear hbad
      generalize l.getD k ByteArray.empty = x at *
      go_wp2_with (go_at_call 67; ((with_reducible refine (FN.out _).mono ?_); rintro e w1 ⟨rfl, rfl⟩))
      go_ret2
      exact ⟨rfl, rfl⟩
set_option maxHeartbeats 1000000 in
theorem all_yes (a : Option Addr) (cap : Nat) (l : List ByteArray) (hl : l.length ≤ 1000000) (h : oks l = true) (w : World) (ha : Strs w a l) :
    Calls Try.prog 58 #[.slice a l.length cap] w fun e w' => e = .returned (.tuple #[.string ⟨(cats l).toArray⟩, .int .i64 0]) ∧ Below w.heap.size w w' := by
  obtain ⟨i0, hi, hz0, hz1, hz2⟩ := info_parts uinfo
  have HG := Lib.hid (oks_get l h)
  have HT := Lib.hid (fun k => cats_len (l.take k) (oks_take l h k))
  have HA := Lib.hid ha
  clear h ha
  go_enter Try.func58, Try.ntmps58
  go_wp2
  go_loop [4, 6, 13] (fun sz _ i => ∃ k : Nat, k ≤ l.length ∧ i = .int .i64 k ∧ sz = .int .i64 ((cats (l.take k)).length : Int)) (fun _ _ i => l.length - (intOf i).toNat)
  case atStart => exact ⟨0, by omega, rfl, rfl⟩
  case round =>
    obtain ⟨k, hk, rfl, rfl⟩ := hrel
    have hck := HT.out k
    rw [List.length_take] at hck
    by_cases hlt : k < l.length
    · obtain ⟨b, off, rfl, hb, hc⟩ := HA.out k hlt
      have hg := HG.out k hlt
      have h4 := (of_decide_eq_true hg).2
      have FY := Lib.hid (fits_yes _ hg)
      have hct : Hid ((cats (l.take (k + 1))).length = (cats (l.take k)).length + (8 + (l.getD k ByteArray.empty).size)) := by
        show _ = _
        rw [cats_take l k hlt, List.length_append, put_length]; simp
      clear hg
      generalize l.getD k ByteArray.empty = x at *
      go_wp2_with (go_at_call 67; ((with_reducible refine (FY.out _).mono ?_); rintro e w1 ⟨rfl, rfl⟩))
      go_round
      case rel => exact ⟨k + 1, by omega, by go_num, by rw [hct.out]; go_num⟩
      case measure => simp [intOf]; omega
    · have hke : k = l.length := by omega
      subst hke
      have hct : Hid ((cats l).length = (cats (l.take l.length)).length) := by show _ = _; rw [List.take_length]
      generalize (cats (l.take l.length)).length = N at *
      go_wp2_with (at_make; refine wpList_make_own _ rfl (.const (.int .i64 0)) (.tmp 27) 97 rfl w.heap.size 5 i0 _ 1 Try.underlying97 hi hz0 hz1 .i64 .i64 _ N rfl rfl rfl ?b2 ?b3 ?b4 ?_; (case b2 => rw [hz2]; omega); (case b3 => unfold maxLen; omega); (case b4 => exact Nat.le_refl _); intro w1 hown1 hgrow1)
      have hb1 : Below w.heap.size w w1 := (Below.refl _ _).grown hgrow1 (Nat.le_refl _) (fun k hk => by cases hk)
      have HO1 := Lib.hid hown1
      have HB1 := Lib.hid hb1
      clear hown1 hb1 hgrow1
      go_loopw [7, 31] (fun v i wr => ∃ k : Nat, k ≤ l.length ∧ i = .int .i64 k ∧ Hid (wr.ownsRow w.heap.size 5 1 v (cats (l.take k)).length (Own.byteVals (cats (l.take k)))) ∧ Hid (Below w.heap.size w wr)) (fun _ i _ => l.length - (intOf i).toNat)
      case atStart => exact ⟨0, by omega, rfl, HO1, HB1⟩
      case round =>
        obtain ⟨k, hk, rfl, HO, HB⟩ := hrel
        have hck := HT.out k
        rw [List.length_take] at hck
        by_cases hlt : k < l.length
        · obtain ⟨b, off, rfl, hb, hc⟩ := HA.out.below HB.out k hlt
          have hg := HG.out k hlt
          have h4 := (of_decide_eq_true hg).2
          have hct : Hid (cats (l.take (k + 1)) = cats (l.take k) ++ put (l.getD k ByteArray.empty).data.toList) := cats_take l k hlt
          clear hg
          generalize l.getD k ByteArray.empty = x at *
          generalize cats (l.take k) = C at *
          have HH := Lib.hid (headOf_any x h4)
          obtain ⟨h8, hh8⟩ : ∃ h8 : Array Value, Hid ((Own.byteVals (hd x.data.toList)).toArray = h8) := ⟨_, rfl⟩
          have h8s : h8.size = 8 := by rw [← hh8.out]; rfl
          have h8l : h8.toList.length = 8 * 1 := by simpa using h8s
          have hsz : (Try.prog.info? 108).map (·.size) = some h8.size := by rw [h8s]; kernel_rfl
          have hone : h8.all (·.oneCell') = true := by rw [← hh8.out]; simp [Own.byteVals, Value.oneCell']
          have hone2 : ∀ u ∈ h8.toList, u.oneCell' = true := by
            intro u hu
            rw [← hh8.out] at hu
            simp [Own.byteVals] at hu
            obtain ⟨z, _, rfl⟩ := hu
            rfl
          have HH2 := Lib.hid (And.intro h8s (And.intro h8l (And.intro hsz (And.intro hone hone2))))
          clear h8s h8l hsz hone hone2
          go_wp2_with (first
            | (go_at_call 68; ((with_reducible refine (HH.out _).mono ?_); rintro e w2 ⟨rfl, hb2⟩); rw [hh8.out])
            | (refine wpList_store_row rfl 108 (.tmp 10) (.tmp 36) rfl _ h8 rfl rfl 108 _ (heap_alloc_last _ _) HH2.out.2.2.1 ?hh HH2.out.2.2.2.1 ?_; (case hh => rw [HH2.out.1]; rfl); rw [World.setRow_alloc_new])
            | (at_builtin; refine wpList_append_own _ rfl (.tmp 37) (.tmp 38) 97 rfl w.heap.size 5 i0 _ 1 1 Try.underlying97 hi hz0 hz1 hz2 rfl (by decide) _ C.length _ rfl ((Own.own_below HO.out hb2).alloc _) _ 8 _ h8.toList rfl HH2.out.2.1 (World.news_of_block (heap_alloc_last _ _)) HH2.out.2.2.2.2 ?c1 ?c2 ?c3 ?_; (case c1 => unfold maxLen; omega); (case c2 => omega); (case c3 => have := HB.out.size; have := hb2.size; simp; omega); intro v3 w3 hown3 hgrow3 _; have hb3 := (below_al (below2 HB.out hb2) (.cells h8 108)).grown hgrow3 (below_al (below2 HB.out hb2) (.cells h8 108)).size (Own.own_block HO.out (Nat.le_refl _)))
            | (at_builtin; refine Lib.wpList_append_own_string _ rfl (.tmp 40) (.tmp 41) 97 9 rfl w.heap.size 5 i0 Try.underlying97 Try.underlying9 hi hz0 hz1 hz2 _ (C.length + 8) _ rfl hown3 x rfl ?d1 ?d2 ?d3 ?_; (case d1 => unfold maxLen; omega); (case d2 => omega); (case d3 => have := hb3.size; omega); intro v4 w4 hown4 hgrow4 _))
          have hb4 := hb3.grown hgrow4 hb3.size (Own.own_block hown3 (Nat.le_refl _))
          have hown5 : Hid (w4.ownsRow w.heap.size 5 1 v4 (C ++ put x.data.toList).length (Own.byteVals (C ++ put x.data.toList))) := by
            show World.ownsRow _ _ _ _ _ _ _
            have e1 : (C ++ put x.data.toList).length = C.length + 8 + x.size := by rw [List.length_append, put_length]; simp; omega
            have e2 : Own.byteVals (C ++ put x.data.toList) = (Own.byteVals C ++ h8.toList) ++ Lib.strCells x := by
              rw [put, Own.byteVals_append, Own.byteVals_append, ← hh8.out]
              simp [Own.byteVals, Lib.strCells]
            rw [e1, e2]
            exact hown4
          have HB4 := Lib.hid hb4
          clear hown3 hown4 hgrow3 hgrow4 hb3 hb4
          go_roundw
          case rel => exact ⟨k + 1, by omega, by go_num, by rw [hct.out]; exact hown5, HB4⟩
          case measure => simp [intOf]; omega
        · have hke : k = l.length := by omega
          have ho := HO.out
          rw [hke, List.take_length] at ho
          have hback := Own.run_back (P := Try.prog) (dst := 9) Try.underlying97 Try.underlying5 Try.underlying9 ho
          clear ho hke
          go_wp2
          go_ret2
          exact ⟨rfl, HB.out⟩
end Frm
end Go.Proofs.Yteaikleofboknaa
end
section
set_option maxRecDepth 100000
namespace Go.Proofs.Yteaikleofboknaa
open Go.RowKit
namespace Frm
open Crc (sum sum_any)
open In (strVals Strs)
theorem strs_one (w : World) (s : ByteArray) (T : TypeId) : Strs (w.alloc (.cells #[.string s] T)) (some ⟨w.heap.size, 0, none⟩) [s] := by
  intro i hi
  have : i = 0 := by simpa using hi
  subst this
  exact ⟨w.heap.size, 0, rfl, by simp, Own.cell_new _ _ _⟩
theorem put_yes (s : ByteArray) (h : fits s.size = true) (w : World) :
    Calls Try.prog 29 #[.string s] w fun e w' => e = .returned (.tuple #[.string ⟨(put s.data.toList).toArray⟩, .int .i64 0]) ∧ Below w.heap.size w w' := by
  have HY : Hid (∀ w : World, Calls Try.prog 58 #[.slice (some ⟨w.heap.size, 0, none⟩) 1 1] (w.alloc (.cells #[.string s] 9)) fun e w' => e = .returned (.tuple #[.string ⟨(put s.data.toList).toArray⟩, .int .i64 0]) ∧ Below (w.alloc (.cells #[.string s] 9)).heap.size (w.alloc (.cells #[.string s] 9)) w') := fun w => by
    have := all_yes (some ⟨w.heap.size, 0, none⟩) 1 [s] (by simp) (by simpa [oks, ok] using h) (w.alloc (.cells #[.string s] 9)) (strs_one w s _)
    simpa [cats] using this
  go_enter Try.func29, Try.ntmps29
  go_wp2_with (go_at_call 58; ((with_reducible refine (HY.out _).mono ?_); rintro e w1 ⟨rfl, hb1⟩))
  go_ret2
  exact ⟨rfl, below2 (below_al (Below.refl _ _) _) hb1⟩
theorem put_no (s : ByteArray) (hm : s.size ≤ maxLen) (h : fits s.size = false) (w : World) :
    Calls Try.prog 29 #[.string s] w fun e w' => e = .returned (.tuple #[.string ⟨#[]⟩, .int .i64 1]) ∧ Below w.heap.size w w' := by
  have HN : Hid (∀ w : World, Calls Try.prog 58 #[.slice (some ⟨w.heap.size, 0, none⟩) 1 1] (w.alloc (.cells #[.string s] 9)) fun e w' => e = .returned (.tuple #[.string ⟨#[]⟩, .int .i64 1]) ∧ (w.alloc (.cells #[.string s] 9)) = w') := fun w =>
    all_no (some ⟨w.heap.size, 0, none⟩) 1 [s] (by simp) (by simpa [oks, ok] using h) (w.alloc (.cells #[.string s] 9)) (strs_one w s _) (fun x hx => by simp at hx; subst hx; exact hm)
  go_enter Try.func29, Try.ntmps29
  go_wp2_with (go_at_call 58; ((with_reducible refine (HN.out _).mono ?_); rintro e w1 ⟨rfl, rfl⟩))
  go_ret2
  exact ⟨rfl, below_al (Below.refl _ _) _⟩
def size4 (n : Int) : Int := if 1 ≤ n ∧ n ≤ 4096 then 8 + n else 0
theorem size4_in {n : Int} (h1 : 1 ≤ n) (h2 : n ≤ 4096) : size4 n = 8 + n := if_pos ⟨h1, h2⟩
theorem size4_out {n : Int} (h : n < 1 ∨ 4096 < n) : size4 n = 0 := if_neg (by omega)
/-! ### awake() -/
def sa : ByteArray := ⟨#[97]⟩
def pa : ByteArray := ⟨#[0, 0, 0, 1, 232, 183, 190, 67, 97]⟩
theorem put_a : (⟨(put sa.data.toList).toArray⟩ : ByteArray) = pa := by decide +kernel
def sx : ByteArray := ⟨#[0, 0, 0, 1, 232, 183, 190, 67, 97, 0, 0, 0, 1, 232, 183, 190, 67, 97, 120]⟩
theorem cat_x : pa ++ pa ++ ⟨#[120]⟩ = sx := by decide +kernel
theorem scan_x : scan sx.data.toList = ([[97], [97]], 18) := by decide +kernel
theorem strs_two {l : List ByteArray} (h : strs l = [[97], [97]]) : l = [sa, sa] := by
  have e : ∀ z : ByteArray, z.data.toList = [97] → z = sa := fun z hz => by
    apply ByteArray.ext
    rw [← Array.toList_inj, hz]
    rfl
  cases l with
  | nil => simp [strs] at h
  | cons x l => cases l with
    | nil => simp [strs] at h
    | cons y l => cases l with
      | nil =>
        simp [strs] at h
        rw [e x (by rw [h.1]), e y (by rw [h.2])]
      | cons z l => simp [strs] at h
theorem strs_new2 (w : World) (s t : ByteArray) (T : TypeId) : Strs (w.alloc (.cells #[.string s, .string t] T)) (some ⟨w.heap.size, 0, none⟩) [s, t] := by
  intro i hi
  refine ⟨w.heap.size, 0, rfl, by simp, ?_⟩
  rw [cell_of_row _ _ _ _ _ _ (Own.heap_new w _)]
  match i, hi with
  | 0, _ => rfl
  | 1, _ => rfl
theorem scan_c (w : World) : Calls Try.prog 24 #[.string sx] w fun e w' => (∃ a cap, e = .returned (.tuple #[.slice a 2 cap, .int .i64 18]) ∧ Strs w' a [sa, sa]) ∧ Below w.heap.size w w' :=
  (scan_any sx (by decide) w).mono fun e w' ⟨v, outs, he, hs, ho, hb⟩ => by
    rw [scan_x] at he hs
    have := strs_two hs
    subst this
    obtain ⟨a, cap, rfl, hst⟩ := In.strs_of_own ho
    exact ⟨⟨a, cap, he, hst⟩, hb⟩
theorem same_c (a b : Option Addr) (cap cap2 : Nat) (w : World) (ha : Strs w a [sa, sa]) (hb : Strs w b [sa, sa]) :
    Calls Try.prog 19 #[.slice a 2 cap, .slice b 2 cap2] w fun e w' => e = .returned (.bool true) ∧ Below w.heap.size w w' :=
  (same_any a b cap cap2 [sa, sa] [sa, sa] (by decide) (by decide) w ha hb).mono fun e w' ⟨h, hb⟩ => ⟨by rw [h]; rfl, hb⟩
end Frm
end Go.Proofs.Yteaikleofboknaa
end
section
set_option maxRecDepth 100000
namespace Go.Proofs.Yteaikleofboknaa
open Go.RowKit
namespace Frm
open In (strVals Strs IsStrs)
def putS (s : ByteArray) : ByteArray := if fits s.size then ⟨(put s.data.toList).toArray⟩ else ⟨#[]⟩
def putE (s : ByteArray) : Int := if fits s.size then 0 else 1
def allS (l : List ByteArray) : ByteArray := if oks l then ⟨(cats l).toArray⟩ else ⟨#[]⟩
def allE (l : List ByteArray) : Int := if oks l then 0 else 1
theorem put_any (s : ByteArray) (hm : s.size ≤ maxLen) (w : World) :
    Calls Try.prog 29 #[.string s] w fun e w' => e = .returned (.tuple #[.string (putS s), .int .i64 (putE s)]) ∧ Below w.heap.size w w' := by
  cases h : fits s.size
  · have e1 : putS s = ⟨#[]⟩ := by unfold putS; rw [h]; rfl
    have e2 : putE s = 1 := by unfold putE; rw [h]; rfl
    rw [e1, e2]; exact put_no s hm h w
  · have e1 : putS s = ⟨(put s.data.toList).toArray⟩ := by unfold putS; rw [h]; rfl
    have e2 : putE s = 0 := by unfold putE; rw [h]; rfl
    rw [e1, e2]; exact put_yes s h w
theorem all_any (a : Option Addr) (cap : Nat) (l : List ByteArray) (hl : l.length ≤ 1000000) (w : World) (ha : Strs w a l) (hsz : ∀ s ∈ l, s.size ≤ maxLen) :
    Calls Try.prog 58 #[.slice a l.length cap] w fun e w' => e = .returned (.tuple #[.string (allS l), .int .i64 (allE l)]) ∧ Below w.heap.size w w' := by
  cases h : oks l
  · have e1 : allS l = ⟨#[]⟩ := by unfold allS; rw [h]; rfl
    have e2 : allE l = 1 := by unfold allE; rw [h]; rfl
    rw [e1, e2]; exact (all_no a cap l hl h w ha hsz).mono fun e w' ⟨a, b⟩ => ⟨a, by rw [← b]; exact Below.refl _ _⟩
  · have e1 : allS l = ⟨(cats l).toArray⟩ := by unfold allS; rw [h]; rfl
    have e2 : allE l = 0 := by unfold allE; rw [h]; rfl
    rw [e1, e2]; exact all_yes a cap l hl h w ha
theorem strs_inj {a b : List ByteArray} (h : strs a = strs b) : a = b := by
  unfold strs at h
  induction a generalizing b with
  | nil => cases b with
    | nil => rfl
    | cons y b => simp at h
  | cons x a ih => cases b with
    | nil => simp at h
    | cons y b =>
      simp only [List.map_cons, List.cons.injEq] at h
      rw [ih h.2, ByteArray.ext_iff.2 (Array.toList_inj.1 h.1)]
theorem same_refl (l : List ByteArray) : same l l = true := decide_eq_true rfl
/-- What Scan answers, its rows told by their strings. -/
theorem post_strs {w w' : World} {l : List UInt8} {e : Ending} (h : ScanPost w l e w') (outs : List ByteArray) (ho : strs outs = (scan l).1) : (∃ a cap, e = .returned (.tuple #[.slice a outs.length cap, .int .i64 ((scan l).2 : Int)]) ∧ Strs w' a outs) ∧ Below w.heap.size w w' := by
  obtain ⟨v, o2, he, hs, hown, hb⟩ := h
  have := strs_inj (hs.trans ho.symm)
  subst this
  obtain ⟨a, cap, rfl, hst⟩ := In.strs_of_own hown
  exact ⟨⟨a, cap, he, hst⟩, hb⟩
def rows (l : List (List UInt8)) : List ByteArray := l.map fun x => ⟨x.toArray⟩
theorem strs_rows (l : List (List UInt8)) : strs (rows l) = l := by
  induction l with
  | nil => rfl
  | cons x l ih =>
    show x :: strs (rows l) = x :: l
    rw [ih]
theorem scanF_len (f : Nat) (l : List UInt8) : (scanF f l).1.length ≤ f := by
  induction f generalizing l with
  | zero => simp [scanF]
  | succ f ih =>
    rw [scanF]
    cases first l with
    | none => simp
    | some r => simp only [List.length_cons]; have := ih (l.drop (8 + r.length)); omega
theorem scan_s (s : ByteArray) (hm : s.size ≤ 1000000000) (outs : List ByteArray) (ho : strs outs = (scan s.data.toList).1) (w : World) :
    Calls Try.prog 24 #[.string s] w fun e w' => (∃ a cap, e = .returned (.tuple #[.slice a outs.length cap, .int .i64 ((scan s.data.toList).2 : Int)]) ∧ Strs w' a outs) ∧ Below w.heap.size w w' :=
  (scan_any s hm w).mono fun _ _ h => post_strs h outs ho
theorem same_l (l : List ByteArray) (hl : l.length ≤ maxLen) (a b : Option Addr) (cap cap2 : Nat) (w : World) (ha : Strs w a l) (hb : Strs w b l) :
    Calls Try.prog 19 #[.slice a l.length cap, .slice b l.length cap2] w fun e w' => e = .returned (.bool true) ∧ Below w.heap.size w w' :=
  (same_any a b cap cap2 l l hl hl w ha hb).mono fun e w' ⟨h, hb⟩ => ⟨by rw [h, same_refl], hb⟩
end Frm
end Go.Proofs.Yteaikleofboknaa
end
section
set_option maxRecDepth 100000
namespace Go.Proofs.Yteaikleofboknaa
open Go.RowKit Go.Great Go.Maps
namespace Jrn
open Frm (fits num)
open Dsk (below2 below_al below_dN bytesWorld_below)
/-- The eight cells, filled from behind. -/
def ncell (n k j : Nat) : Int := if 8 ≤ j + k then (((num8 n).getD j 0).toNat : Int) else 0
def narr (n k : Nat) : Array Value := #[.int .u8 (ncell n k 0), .int .u8 (ncell n k 1), .int .u8 (ncell n k 2), .int .u8 (ncell n k 3), .int .u8 (ncell n k 4), .int .u8 (ncell n k 5), .int .u8 (ncell n k 6), .int .u8 (ncell n k 7)]
theorem narr_8 (n : Nat) : narr n 8 = (Own.byteVals (num8 n) ++ []).toArray := rfl
theorem narr_step (n k : Nat) (hk : k < 8) (wr w : World) (B : Nat) (T : TypeId) (u : Int) (hle : w.heap.size ≤ B)
    (h1 : wr.heap[B]? = some (.cells (narr n k) T)) (hb : Below w.heap.size w wr) (hu : u = ncell n (k + 1) (7 - k)) :
    Hid ((wr.setCell ⟨B, 7 - k, none⟩ (.int .u8 u)).heap[B]? = some (.cells (narr n (k + 1)) T)) ∧
    Hid (Below w.heap.size w (wr.setCell ⟨B, 7 - k, none⟩ (.int .u8 u))) := by
  refine ⟨?_, hb.setCell hle _⟩
  have e := heap_setCell_same wr B (7 - k) _ T (.int .u8 u) h1
  have ea : (narr n k).setIfInBounds (7 - k) (.int .u8 u) = narr n (k + 1) := by
    subst hu
    match k, hk with
    | 0, _ => simp [narr, ncell]
    | 1, _ => simp [narr, ncell]
    | 2, _ => simp [narr, ncell]
    | 3, _ => simp [narr, ncell]
    | 4, _ => simp [narr, ncell]
    | 5, _ => simp [narr, ncell]
    | 6, _ => simp [narr, ncell]
    | 7, _ => simp [narr, ncell]
  rw [ea] at e
  exact e
theorem nbyte0 (n : Nat) {N : Int} (h : (n : Int) = N) : N / 1 % 256 = ncell n 1 7 := by
  subst h
  simp [ncell, num8]
  try omega
theorem nbyte1 (n : Nat) {N : Int} (h : (n : Int) = N) : N / 256 % 256 = ncell n 2 6 := by
  subst h
  simp [ncell, num8]
  try omega
theorem nbyte2 (n : Nat) {N : Int} (h : (n : Int) = N) : N / 65536 % 256 = ncell n 3 5 := by
  subst h
  simp [ncell, num8]
  try omega
theorem nbyte3 (n : Nat) {N : Int} (h : (n : Int) = N) : N / 16777216 % 256 = ncell n 4 4 := by
  subst h
  simp [ncell, num8]
  try omega
theorem nbyte4 (n : Nat) {N : Int} (h : (n : Int) = N) : N / 4294967296 % 256 = ncell n 5 3 := by
  subst h
  simp [ncell, num8]
  try omega
theorem nbyte5 (n : Nat) {N : Int} (h : (n : Int) = N) : N / 1099511627776 % 256 = ncell n 6 2 := by
  subst h
  simp [ncell, num8]
  try omega
theorem nbyte6 (n : Nat) {N : Int} (h : (n : Int) = N) : N / 281474976710656 % 256 = ncell n 7 1 := by
  subst h
  simp [ncell, num8]
  try omega
theorem nbyte7 (n : Nat) {N : Int} (h : (n : Int) = N) : N / 72057594037927936 % 256 = ncell n 8 0 := by
  subst h
  simp [ncell, num8]
  try omega
set_option maxHeartbeats 2000000 in
theorem number_any (n : Nat) (hn : n ≤ 1099511627776) (w : World) : Calls Try.prog 52 #[.int .i64 (n : Int)] w fun e w' => e = .returned (.string ⟨(num8 n).toArray⟩) ∧ Below w.heap.size w w' := by
  obtain ⟨N, hN⟩ : ∃ N : Int, Hid ((n : Int) = N) := ⟨_, rfl⟩
  rw [hN.out]
  have n0 : 0 ≤ N := by have := hN.out; omega
  have n1 : N ≤ 1099511627776 := by have := hN.out; omega
  have hbk := fun (W : World) (g : Nat) (h : W.heap[g]? = some (.cells (narr n 8) 108)) => Own.run_back_block (P := Try.prog) (w := W) (e := 5) (src := 97) (dst := 9) (T := 108) g 8 (num8 n) [] Try.underlying97 Try.underlying5 Try.underlying9 (by rw [h, narr_8])
  have HBK := Lib.hid hbk
  clear hbk
  have HZ : Hid ((w.alloc (.cells #[.int .u8 0, .int .u8 0, .int .u8 0, .int .u8 0, .int .u8 0, .int .u8 0, .int .u8 0, .int .u8 0] 108)).heap[w.heap.size]? = some (.cells (narr n 0) 108)) := Own.heap_new _ _
  have HB : Hid (Below w.heap.size w (w.alloc (.cells #[.int .u8 0, .int .u8 0, .int .u8 0, .int .u8 0, .int .u8 0, .int .u8 0, .int .u8 0, .int .u8 0] 108))) := below_al (Below.refl _ _) _
  go_enter Try.func52, Try.ntmps52
  go_wp2
  go_loopw [5] (fun i wr => ∃ k : Nat, k ≤ 8 ∧ i = .int .i64 k ∧ Hid (wr.heap[w.heap.size]? = some (.cells (narr n k) 108)) ∧ Hid (Below w.heap.size w wr)) (fun i _ => 8 - (intOf i).toNat)
  case atStart => exact ⟨0, by omega, rfl, HZ, HB⟩
  case round =>
    obtain ⟨k, hk, rfl, HZ, HB⟩ := hrel
    have hc := fun j => cell_of_row wr w.heap.size j _ _ _ HZ.out
    have hf := fun j => frozen_of_row wr w.heap.size j _ _ HZ.out
    by_cases hlt : k < 8
    · match k, hlt with
      | 0, _ =>
        have c0 := hc 7
        have f0 := hf 7
        simp [narr] at c0
        clear hc hf
        go_wp2
        go_roundw
        case rel => exact ⟨1, by omega, rfl, narr_step n 0 (by omega) wr w w.heap.size _ _ (Nat.le_refl _) HZ.out HB.out (by first | exact nbyte0 n hN.out | (rw [← nbyte0 n hN.out]; omega))⟩
        case measure => simp [intOf]
      | 1, _ =>
        have c0 := hc 6
        have f0 := hf 6
        simp [narr] at c0
        clear hc hf
        go_wp2
        go_roundw
        case rel => exact ⟨2, by omega, rfl, narr_step n 1 (by omega) wr w w.heap.size _ _ (Nat.le_refl _) HZ.out HB.out (by first | exact nbyte1 n hN.out | (rw [← nbyte1 n hN.out]; omega))⟩
        case measure => simp [intOf]
      | 2, _ =>
        have c0 := hc 5
        have f0 := hf 5
        simp [narr] at c0
        clear hc hf
        go_wp2
        go_roundw
        case rel => exact ⟨3, by omega, rfl, narr_step n 2 (by omega) wr w w.heap.size _ _ (Nat.le_refl _) HZ.out HB.out (by first | exact nbyte2 n hN.out | (rw [← nbyte2 n hN.out]; omega))⟩
        case measure => simp [intOf]
      | 3, _ =>
        have c0 := hc 4
        have f0 := hf 4
        simp [narr] at c0
        clear hc hf
        go_wp2
        go_roundw
        case rel => exact ⟨4, by omega, rfl, narr_step n 3 (by omega) wr w w.heap.size _ _ (Nat.le_refl _) HZ.out HB.out (by first | exact nbyte3 n hN.out | (rw [← nbyte3 n hN.out]; omega))⟩
        case measure => simp [intOf]
      | 4, _ =>
        have c0 := hc 3
        have f0 := hf 3
        simp [narr] at c0
        clear hc hf
        go_wp2
        go_roundw
        case rel => exact ⟨5, by omega, rfl, narr_step n 4 (by omega) wr w w.heap.size _ _ (Nat.le_refl _) HZ.out HB.out (by first | exact nbyte4 n hN.out | (rw [← nbyte4 n hN.out]; omega))⟩
        case measure => simp [intOf]
      | 5, _ =>
        have c0 := hc 2
        have f0 := hf 2
        simp [narr] at c0
        clear hc hf
        go_wp2
        go_roundw
        case rel => exact ⟨6, by omega, rfl, narr_step n 5 (by omega) wr w w.heap.size _ _ (Nat.le_refl _) HZ.out HB.out (by first | exact nbyte5 n hN.out | (rw [← nbyte5 n hN.out]; omega))⟩
        case measure => simp [intOf]
      | 6, _ =>
        have c0 := hc 1
        have f0 := hf 1
        simp [narr] at c0
        clear hc hf
        go_wp2
        go_roundw
        case rel => exact ⟨7, by omega, rfl, narr_step n 6 (by omega) wr w w.heap.size _ _ (Nat.le_refl _) HZ.out HB.out (by first | exact nbyte6 n hN.out | (rw [← nbyte6 n hN.out]; omega))⟩
        case measure => simp [intOf]
      | 7, _ =>
        have c0 := hc 0
        have f0 := hf 0
        simp [narr] at c0
        clear hc hf
        go_wp2
        go_roundw
        case rel => exact ⟨8, by omega, rfl, narr_step n 7 (by omega) wr w w.heap.size _ _ (Nat.le_refl _) HZ.out HB.out (by first | exact nbyte7 n hN.out | (rw [← nbyte7 n hN.out]; omega))⟩
        case measure => simp [intOf]
    · have : k = 8 := by omega
      subst this
      have hb8 : (convert 97 9 (.slice (some ⟨w.heap.size, 0, none⟩) 8 8)).run Try.prog wr = .ok (.string ⟨(num8 n).toArray⟩) wr := HBK.out wr w.heap.size HZ.out
      clear hc hf
      go_wp2
      go_ret
      exact ⟨rfl, HB.out⟩
theorem num_append (a b : List UInt8) : num (a ++ b) = num a * 256 ^ b.length + num b := by
  have h : ∀ (b : List UInt8) (x : Nat), b.foldl (fun n c => n * 256 + c.toNat) x = x * 256 ^ b.length + b.foldl (fun n c => n * 256 + c.toNat) 0 := by
    intro b
    induction b with
    | nil => simp
    | cons c b ih =>
      intro x
      have e : (x * 256 + c.toNat) * 256 ^ b.length = x * (256 ^ b.length * 256) + c.toNat * 256 ^ b.length := by rw [Nat.add_mul, Nat.mul_assoc, Nat.mul_comm 256]
      rw [List.foldl_cons, List.foldl_cons, ih, ih (0 * 256 + c.toNat), List.length_cons, Nat.pow_succ, e, Nat.zero_mul, Nat.zero_add, Nat.add_assoc]
  unfold num
  rw [List.foldl_append, h]
theorem num_take (l : List UInt8) (k : Nat) : num (l.take k) ≤ num l := by
  have h := num_append (l.take k) (l.drop k)
  rw [List.take_append_drop] at h
  have : 1 ≤ 256 ^ (l.drop k).length := Nat.one_le_pow _ _ (by decide)
  have := Nat.le_mul_of_pos_right (num (l.take k)) this
  omega
theorem num_step (l : List UInt8) (k : Nat) (h : k < l.length) : num (l.take (k + 1)) = num (l.take k) * 256 + (l.getD k 0).toNat := by
  rw [List.take_add_one, num_append, List.getElem?_eq_getElem h, List.getD_eq_getElem?_getD, List.getElem?_eq_getElem h]
  simp [num]
set_option maxHeartbeats 2000000 in
theorem told_any (s : ByteArray) (g : Nat) (hs : s.data.toList = num8 g) (hg : g < 1099511627776) (w : World) : Calls Try.prog 49 #[.string s] w fun e w' => e = .returned (.tuple #[.int .i64 (g : Int), .bool true]) ∧ Below w.heap.size w w' := by
  have hconv := fun w => Lib.run_convert_string_bytes (P := Try.prog) w 9 97 5 s Try.underlying9 Try.underlying97 Try.underlying5
  have hz : s.size = 8 := by
    have := congrArg List.length hs
    rw [num8_length, Array.length_toList] at this
    exact this
  have HS : Hid (∀ k, k < 8 → num ((num8 g).take (k + 1)) = num ((num8 g).take k) * 256 + ((num8 g).getD k 0).toNat) := fun k hk => num_step _ k hk
  have HT : Hid (∀ k, num ((num8 g).take k) ≤ g) := fun k => by have := num_take (num8 g) k; rw [num_num8 g (by omega)] at this; exact this
  have HE : Hid (num ((num8 g).take 8) = g) := by show num _ = _; rw [List.take_of_length_le (by rw [num8_length]; exact Nat.le_refl _)]; exact num_num8 g (by omega)
  have hcell8 : ∀ k, k < 8 → (Lib.bytesWorld w 5 s).cell? ⟨w.heap.size, k, none⟩ = some (.int .u8 ((num8 g).getD k 0).toNat) := fun k hk => by
    have := Lib.bytesWorld_cell w 5 s k (by rw [hz]; exact hk)
    rw [hs] at this
    exact this
  have HC := Lib.hid hcell8
  clear hcell8 hs
  have hz2 := Lib.hid hz
  go_enter Try.func49, Try.ntmps49
  go_wp2
  go_loop [4, 10] (fun v i => ∃ k : Nat, k ≤ 8 ∧ i = .int .i64 k ∧ v = .int .i64 ((num ((num8 g).take k) : Nat) : Int)) (fun _ i => 8 - (intOf i).toNat)
  case atStart => exact ⟨0, by omega, rfl, rfl⟩
  case round =>
    obtain ⟨k, hk, rfl, rfl⟩ := hrel
    have ht := HT.out k
    by_cases hlt : k < 8
    · have hcell := HC.out k hlt
      have hst := Lib.hid (HS.out k hlt)
      have hj := Frm.or_join (num ((num8 g).take k)) ((num8 g).getD k 0) (by omega)
      have hb := ((num8 g).getD k 0).toNat_lt
      generalize (num8 g).getD k 0 = b at *
      generalize num ((num8 g).take k) = x at *
      have hx : ((x : Nat) : Int) < 1099511627776 := by omega
      have hx2 : decide ((1099511627776 : Int) < (x : Int)) = false := decide_eq_false (by omega)
      have hlt1 : (k : Int) < 8 := by omega
      go_wp2
      go_round
      case rel => exact ⟨k + 1, by omega, by go_num, congrArg (Value.int .i64) (by rw [hst.out]; omega)⟩
      case measure => simp [intOf]; omega
    · have : k = 8 := by omega
      subst this
      have hE := HE.out
      have hq : ((num ((num8 g).take 8) : Nat) : Int) = (g : Int) := by rw [hE]
      rw [hq]
      clear hq hE ht
      go_wp2
      go_ret2
      exact ⟨rfl, bytesWorld_below _ _ _⟩
end Jrn
end Go.Proofs.Yteaikleofboknaa
end
section
namespace Go.Proofs
open Go.Shelf
def Try.lays169_ren : Go.Shelf.Ren := ⟨fun | 169 => 66 | n => n, fun | 70 => 99 | 9 => 9 | 0 => 0 | 72 => 101 | 37 => 97 | 127 => 114 | 3 => 3 | 5 => 5 | n => n, fun | n => n⟩
theorem Try.lays169 : Go.Proofs.Lays.n169 Try.prog Try.lays169_ren := {
  mixed := by kernel_rfl
  f169 := Try.func66.trans (congrArg some (by kernel_rfl))
  t0 := Try.underlying0
  a0 := Try.isAgg0
  z0 := Try.sizeOf0
  v0 := Try.zeroValue0
  t3 := Try.underlying3
  a3 := Try.isAgg3
  z3 := Try.sizeOf3
  v3 := Try.zeroValue3
  t9 := Try.underlying9
  a9 := Try.isAgg9
  z9 := Try.sizeOf9
  v9 := Try.zeroValue9
  t37 := Try.underlying97
  a37 := Try.isAgg97
  z37 := Try.sizeOf97
  v37 := Try.zeroValue97
  t70 := Try.underlying99
  a70 := Try.isAgg99
  z70 := Try.sizeOf99
  v70 := Try.zeroValue99
  t72 := Try.underlying101
  a72 := Try.isAgg101
  z72 := Try.sizeOf101
  v72 := Try.zeroValue101
  t127 := Try.underlying114
  a127 := Try.isAgg114
  z127 := Try.sizeOf114
  v127 := Try.zeroValue114 }
theorem Try.Builder_Extra_169 : Builder.Extra Try.prog Try.lays169_ren := {
  sizeBuilder := by kernel_rfl
  liesBuilder := by kernel_rfl
  t5 := Try.underlying5
  a5 := Try.isAgg5
  z5 := Try.sizeOf5
  v5 := Try.zeroValue5
  infoByte := by kernel_rfl
  cellsByte := by kernel_rfl
  sizeByte := by kernel_rfl
  neB5 := by decide }
open Go.RowKit in
theorem Try.Builder_String (B b : Nat) (l : List UInt8) (w : World) (h : Lib.IsBuilder 101 5 B b (Lib.byteCells l) w) (h0 : l ≠ []) :
    Calls Try.prog 66 #[.pointer (some ⟨b, 0, none⟩)] w fun e w' => e = .returned (.string ⟨l.toArray⟩) ∧ Below B w w' := Any.Builder_String Try.lays169 Try.Builder_Extra_169 B b l w h h0
open Go.RowKit in
theorem Try.Builder_String_empty (B b : Nat) (w : World) (h : Lib.IsBuilder 101 5 B b [] w) (hBw : B ≤ w.heap.size) :
    Calls Try.prog 66 #[.pointer (some ⟨b, 0, none⟩)] w fun e w' => e = .returned (.string ⟨#[]⟩) ∧ Below B w w' := Any.Builder_String_empty Try.lays169 Try.Builder_Extra_169 B b w h hBw
open Go.RowKit in
theorem Try.Builder_String_any (B b : Nat) (l : List UInt8) (w : World) (h : Lib.IsBuilder 101 5 B b (Lib.byteCells l) w) (hBw : B ≤ w.heap.size) :
    Calls Try.prog 66 #[.pointer (some ⟨b, 0, none⟩)] w fun e w' => e = .returned (.string ⟨l.toArray⟩) ∧ Below B w w' := Any.Builder_String_any Try.lays169 Try.Builder_Extra_169 B b l w h hBw
def Try.lays241_ren : Go.Shelf.Ren := ⟨fun | 241 => 73 | 277 => 87 | n => n, fun | 70 => 99 | 3 => 3 | 0 => 0 | 72 => 101 | 37 => 97 | 5 => 5 | n => n, fun | n => n⟩
theorem Try.lays241 : Go.Proofs.Lays.n241 Try.prog Try.lays241_ren := {
  mixed := by kernel_rfl
  f241 := Try.func73.trans (congrArg some (by kernel_rfl))
  f277 := Try.func87.trans (congrArg some (by kernel_rfl))
  t0 := Try.underlying0
  a0 := Try.isAgg0
  z0 := Try.sizeOf0
  v0 := Try.zeroValue0
  t3 := Try.underlying3
  a3 := Try.isAgg3
  z3 := Try.sizeOf3
  v3 := Try.zeroValue3
  t37 := Try.underlying97
  a37 := Try.isAgg97
  z37 := Try.sizeOf97
  v37 := Try.zeroValue97
  t70 := Try.underlying99
  a70 := Try.isAgg99
  z70 := Try.sizeOf99
  v70 := Try.zeroValue99
  t72 := Try.underlying101
  a72 := Try.isAgg101
  z72 := Try.sizeOf101
  v72 := Try.zeroValue101 }
theorem Try.Builder_Extra_241 : Builder.Extra Try.prog Try.lays241_ren := {
  sizeBuilder := by kernel_rfl
  liesBuilder := by kernel_rfl
  t5 := Try.underlying5
  a5 := Try.isAgg5
  z5 := Try.sizeOf5
  v5 := Try.zeroValue5
  infoByte := by kernel_rfl
  cellsByte := by kernel_rfl
  sizeByte := by kernel_rfl
  neB5 := by decide }
open Go.RowKit in
theorem Try.Builder_grow_fresh (B b n : Nat) (w : World) (hB : B ≤ b) (hbk : w.heap[b]? = some (.cells #[.pointer (some ⟨b, 0, none⟩), .slice none 0 0] 101 (0, 0))) (hBw : B ≤ w.heap.size) (hn : n ≤ 281474976710656) :
    Calls Try.prog 73 #[.pointer (some ⟨b, 0, none⟩), .int .i64 n] w fun e w' => e = .returned (.tuple #[]) ∧ (Lib.BuilderAt 101 5 B b (.pointer (some ⟨b, 0, none⟩)) [] w' ∧ Below B w w') := Any.Builder_grow_fresh Try.lays241 Try.Builder_Extra_241 B b n w hB hbk hBw hn
def Try.lays165_ren : Go.Shelf.Ren := ⟨fun | 165 => 64 | 240 => 72 | 241 => 73 | 276 => 86 | 277 => 87 | n => n, fun | 70 => 99 | 3 => 3 | 0 => 0 | 4 => 4 | 9 => 9 | 20 => 20 | 72 => 101 | 37 => 97 | 164 => 128 | 5 => 5 | n => n, fun | n => n⟩
theorem Try.lays165 : Go.Proofs.Lays.n165 Try.prog Try.lays165_ren := {
  mixed := by kernel_rfl
  f165 := Try.func64.trans (congrArg some (by kernel_rfl))
  f240 := Try.func72.trans (congrArg some (by kernel_rfl))
  f241 := Try.func73.trans (congrArg some (by kernel_rfl))
  f276 := Try.func86.trans (congrArg some (by kernel_rfl))
  f277 := Try.func87.trans (congrArg some (by kernel_rfl))
  t0 := Try.underlying0
  a0 := Try.isAgg0
  z0 := Try.sizeOf0
  v0 := Try.zeroValue0
  t3 := Try.underlying3
  a3 := Try.isAgg3
  z3 := Try.sizeOf3
  v3 := Try.zeroValue3
  t4 := Try.underlying4
  a4 := Try.isAgg4
  z4 := Try.sizeOf4
  v4 := Try.zeroValue4
  t9 := Try.underlying9
  a9 := Try.isAgg9
  z9 := Try.sizeOf9
  v9 := Try.zeroValue9
  t20 := Try.underlying20
  a20 := Try.isAgg20
  z20 := Try.sizeOf20
  v20 := Try.zeroValue20
  t37 := Try.underlying97
  a37 := Try.isAgg97
  z37 := Try.sizeOf97
  v37 := Try.zeroValue97
  t70 := Try.underlying99
  a70 := Try.isAgg99
  z70 := Try.sizeOf99
  v70 := Try.zeroValue99
  t72 := Try.underlying101
  a72 := Try.isAgg101
  z72 := Try.sizeOf101
  v72 := Try.zeroValue101
  t164 := Try.underlying128
  a164 := Try.isAgg128
  z164 := Try.sizeOf128
  v164 := Try.zeroValue128 }
theorem Try.Builder_Extra_165 : Builder.Extra Try.prog Try.lays165_ren := {
  sizeBuilder := by kernel_rfl
  liesBuilder := by kernel_rfl
  t5 := Try.underlying5
  a5 := Try.isAgg5
  z5 := Try.sizeOf5
  v5 := Try.zeroValue5
  infoByte := by kernel_rfl
  cellsByte := by kernel_rfl
  sizeByte := by kernel_rfl
  neB5 := by decide }
open Go.RowKit in
theorem Try.Builder_Grow_fresh (B b n : Nat) (w : World) (hB : B ≤ b) (hbk : w.heap[b]? = some (.cells #[.pointer none, .slice none 0 0] 101 (0, 0))) (hBw : B ≤ w.heap.size) (hn : n ≤ 281474976710656) :
    Calls Try.prog 64 #[.pointer (some ⟨b, 0, none⟩), .int .i64 n] w fun e w' => e = .returned (.tuple #[]) ∧ (Lib.BuilderAt 101 5 B b (.pointer (some ⟨b, 0, none⟩)) [] w' ∧ Below B w w') := Any.Builder_Grow_fresh Try.lays165 Try.Builder_Extra_165 B b n w hB hbk hBw hn
def Try.lays156_ren : Go.Shelf.Ren := ⟨fun | 156 => 50 | 165 => 64 | 166 => 65 | 169 => 66 | 240 => 72 | 241 => 73 | 276 => 86 | 277 => 87 | n => n, fun | 31 => 31 | 9 => 9 | 3 => 3 | 4 => 4 | 0 => 0 | 20 => 20 | 72 => 101 | 76 => 105 | 70 => 99 | 37 => 97 | 75 => 104 | 127 => 114 | 164 => 128 | 5 => 5 | 80 => 107 | n => n, fun | n => n⟩
theorem Try.lays156 : Go.Proofs.Lays.n156 Try.prog Try.lays156_ren := {
  mixed := by kernel_rfl
  f156 := Try.func50.trans (congrArg some (by kernel_rfl))
  f165 := Try.func64.trans (congrArg some (by kernel_rfl))
  f166 := Try.func65.trans (congrArg some (by kernel_rfl))
  f169 := Try.func66.trans (congrArg some (by kernel_rfl))
  f240 := Try.func72.trans (congrArg some (by kernel_rfl))
  f241 := Try.func73.trans (congrArg some (by kernel_rfl))
  f276 := Try.func86.trans (congrArg some (by kernel_rfl))
  f277 := Try.func87.trans (congrArg some (by kernel_rfl))
  t0 := Try.underlying0
  a0 := Try.isAgg0
  z0 := Try.sizeOf0
  v0 := Try.zeroValue0
  t3 := Try.underlying3
  a3 := Try.isAgg3
  z3 := Try.sizeOf3
  v3 := Try.zeroValue3
  t4 := Try.underlying4
  a4 := Try.isAgg4
  z4 := Try.sizeOf4
  v4 := Try.zeroValue4
  t9 := Try.underlying9
  a9 := Try.isAgg9
  z9 := Try.sizeOf9
  v9 := Try.zeroValue9
  t20 := Try.underlying20
  a20 := Try.isAgg20
  z20 := Try.sizeOf20
  v20 := Try.zeroValue20
  t31 := Try.underlying31
  a31 := Try.isAgg31
  z31 := Try.sizeOf31
  v31 := Try.zeroValue31
  t37 := Try.underlying97
  a37 := Try.isAgg97
  z37 := Try.sizeOf97
  v37 := Try.zeroValue97
  t70 := Try.underlying99
  a70 := Try.isAgg99
  z70 := Try.sizeOf99
  v70 := Try.zeroValue99
  t72 := Try.underlying101
  a72 := Try.isAgg101
  z72 := Try.sizeOf101
  v72 := Try.zeroValue101
  t75 := Try.underlying104
  a75 := Try.isAgg104
  z75 := Try.sizeOf104
  v75 := Try.zeroValue104
  t76 := Try.underlying105
  a76 := Try.isAgg105
  z76 := Try.sizeOf105
  v76 := Try.zeroValue105
  t127 := Try.underlying114
  a127 := Try.isAgg114
  z127 := Try.sizeOf114
  v127 := Try.zeroValue114
  t164 := Try.underlying128
  a164 := Try.isAgg128
  z164 := Try.sizeOf128
  v164 := Try.zeroValue128 }
theorem Try.Builder_Extra_156 : Builder.Extra Try.prog Try.lays156_ren := {
  sizeBuilder := by kernel_rfl
  liesBuilder := by kernel_rfl
  t5 := Try.underlying5
  a5 := Try.isAgg5
  z5 := Try.sizeOf5
  v5 := Try.zeroValue5
  infoByte := by kernel_rfl
  cellsByte := by kernel_rfl
  sizeByte := by kernel_rfl
  neB5 := by decide }
open Go.RowKit in
theorem Try.strings_Join_none (a : Option Addr) (c : Nat) (sep : ByteArray) (w : World) :
    Calls Try.prog 50 #[.slice a 0 c, .string sep] w fun e w' => e = .returned (.string ⟨#[]⟩) ∧ w' = w := Any.strings_Join_none Try.lays156 Try.Builder_Extra_156 a c sep w
open Go.RowKit in
theorem Try.strings_Join (bk o c : Nat) (xs : List ByteArray) (sep : ByteArray) (w : World) (hcells : ∀ (j : Nat) x, xs[j]? = some x → w.cell? ⟨bk, o + j, none⟩ = some (.string x)) (hbk : bk < w.heap.size) (hN : xs.length ≤ 140737488355328) (hcap : xs.length ≤ c) (hlen : (Lib.join (xs.map (·.data.toList)) sep.data.toList).length ≤ 140737488355328) :
    Calls Try.prog 50 #[.slice (some ⟨bk, o, none⟩) xs.length c, .string sep] w fun e w' => e = .returned (.string ⟨(Lib.join (xs.map (·.data.toList)) sep.data.toList).toArray⟩) ∧ Below w.heap.size w w' := Any.strings_Join Try.lays156 Try.Builder_Extra_156 bk o c xs sep w hcells hbk hN hcap hlen
def Try.laysSlM6_f62_ren : Go.Shelf.Ren := ⟨fun | 6 => 62 | 8 => 71 | 9 => 70 | 19 => 84 | 20 => 85 | 21 => 75 | 22 => 76 | 23 => 77 | 24 => 78 | 25 => 79 | 26 => 80 | 27 => 81 | 28 => 82 | 29 => 83 | 36 => 89 | 31 => 90 | 32 => 91 | 37 => 92 | 38 => 93 | 39 => 94 | 41 => 97 | n => n, fun | 27 => 31 | 29 => 9 | 3 => 3 | 32 => 98 | 26 => 31 | 0 => 0 | 44 => 115 | 46 => 127 | 4 => 4 | 36 => 119 | 35 => 118 | 41 => 67 | 5 => 5 | 9 => 9 | 53 => 132 | 57 => 136 | 63 => 141 | 64 => 142 | n => n, fun | n => n⟩
theorem Try.laysSlM6_f62 : Go.Proofs.SlLaysM.n6 Try.prog Try.laysSlM6_f62_ren := {
  mixed := by kernel_rfl
  f6 := ⟨Try.f62.name, by decide, Try.func62.trans (congrArg some (by kernel_rfl))⟩
  f8 := Try.func71.trans (congrArg some (by kernel_rfl))
  f9 := ⟨Try.f70.name, by decide, Try.func70.trans (congrArg some (by kernel_rfl))⟩
  f19 := Try.func84.trans (congrArg some (by kernel_rfl))
  f20 := Try.func85.trans (congrArg some (by kernel_rfl))
  f21 := ⟨Try.f75.name, by decide, Try.func75.trans (congrArg some (by kernel_rfl))⟩
  f22 := ⟨Try.f76.name, by decide, Try.func76.trans (congrArg some (by kernel_rfl))⟩
  f23 := ⟨Try.f77.name, by decide, Try.func77.trans (congrArg some (by kernel_rfl))⟩
  f24 := ⟨Try.f78.name, by decide, Try.func78.trans (congrArg some (by kernel_rfl))⟩
  f25 := ⟨Try.f79.name, by decide, Try.func79.trans (congrArg some (by kernel_rfl))⟩
  f26 := ⟨Try.f80.name, by decide, Try.func80.trans (congrArg some (by kernel_rfl))⟩
  f27 := ⟨Try.f81.name, by decide, Try.func81.trans (congrArg some (by kernel_rfl))⟩
  f28 := ⟨Try.f82.name, by decide, Try.func82.trans (congrArg some (by kernel_rfl))⟩
  f29 := ⟨Try.f83.name, by decide, Try.func83.trans (congrArg some (by kernel_rfl))⟩
  f31 := Try.func90.trans (congrArg some (by kernel_rfl))
  f32 := Try.func91.trans (congrArg some (by kernel_rfl))
  f36 := ⟨Try.f89.name, by decide, Try.func89.trans (congrArg some (by kernel_rfl))⟩
  f37 := ⟨Try.f92.name, by decide, Try.func92.trans (congrArg some (by kernel_rfl))⟩
  f38 := ⟨Try.f93.name, by decide, Try.func93.trans (congrArg some (by kernel_rfl))⟩
  f39 := ⟨Try.f94.name, by decide, Try.func94.trans (congrArg some (by kernel_rfl))⟩
  f41 := ⟨Try.f97.name, by decide, Try.func97.trans (congrArg some (by kernel_rfl))⟩
  t0 := Try.underlying0
  a0 := Try.isAgg0
  z0 := Try.sizeOf0
  v0 := Try.zeroValue0
  t3 := Try.underlying3
  a3 := Try.isAgg3
  z3 := Try.sizeOf3
  v3 := Try.zeroValue3
  t4 := Try.underlying4
  a4 := Try.isAgg4
  z4 := Try.sizeOf4
  v4 := Try.zeroValue4
  t5 := Try.underlying5
  a5 := Try.isAgg5
  z5 := Try.sizeOf5
  v5 := Try.zeroValue5
  t9 := Try.underlying9
  a9 := Try.isAgg9
  z9 := Try.sizeOf9
  v9 := Try.zeroValue9
  t26 := Try.underlying31
  a26 := Try.isAgg31
  z26 := Try.sizeOf31
  v26 := Try.zeroValue31
  t27 := Try.underlying31
  a27 := Try.isAgg31
  z27 := Try.sizeOf31
  v27 := Try.zeroValue31
  t29 := Try.underlying9
  a29 := Try.isAgg9
  z29 := Try.sizeOf9
  v29 := Try.zeroValue9
  t32 := Try.underlying98
  a32 := Try.isAgg98
  z32 := Try.sizeOf98
  v32 := Try.zeroValue98
  t35 := Try.underlying118
  a35 := Try.isAgg118
  z35 := Try.sizeOf118
  v35 := Try.zeroValue118
  t36 := Try.underlying119
  a36 := Try.isAgg119
  z36 := Try.sizeOf119
  v36 := Try.zeroValue119
  t41 := Try.underlying67
  a41 := Try.isAgg67
  z41 := Try.sizeOf67
  v41 := Try.zeroValue67
  t44 := Try.underlying115
  a44 := Try.isAgg115
  z44 := Try.sizeOf115
  v44 := Try.zeroValue115
  t46 := Try.underlying127
  a46 := Try.isAgg127
  z46 := Try.sizeOf127
  v46 := Try.zeroValue127
  t53 := Try.underlying132
  a53 := Try.isAgg132
  z53 := Try.sizeOf132
  v53 := Try.zeroValue132
  t57 := Try.underlying136
  a57 := Try.isAgg136
  z57 := Try.sizeOf136
  v57 := Try.zeroValue136
  t63 := Try.underlying141
  a63 := Try.isAgg141
  z63 := Try.sizeOf141
  v63 := Try.zeroValue141
  t64 := Try.underlying142
  a64 := Try.isAgg142
  z64 := Try.sizeOf142
  v64 := Try.zeroValue142 }
open Go.Sort Go.RowKit in
theorem Try.slices_Sort_string (blk off cap : Nat) (ss : List (List UInt8)) (w : World) (hH : Holds encStr w blk off ss.toArray) (hblk : blk < w.heap.size) (hsz : ss.length < 4611686018427387904) :
    Calls Try.prog 62 #[.slice (some ⟨blk, off, none⟩) ss.length cap] w fun e w' =>
      e = .returned (.tuple #[]) ∧ ∃ n os, w' = grow (putRow encStr (Sort.ahead w n) blk off (ss.mergeSort fun x y => decide (x ≤ y)).toArray) os := AnyM.slices_Sort_string Try.laysSlM6_f62 blk off cap ss w hH hblk hsz
open Go.RowKit Go.Sort in
theorem Try.slices_Sort_string_none (p : Option Addr) (cap : Nat) (w : World) :
    Calls Try.prog 62 #[.slice p 0 cap] w fun e w' => e = .returned (.tuple #[]) ∧ w' = w := AnyM.slices_Sort_string_none Try.laysSlM6_f62 p cap w
end Go.Proofs
end
