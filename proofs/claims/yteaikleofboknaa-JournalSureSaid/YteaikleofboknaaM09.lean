/- Texts put together: JrB, JrC, DskE, DskI, DskJ, DskTw, DskAc, DskSm. -/
import Derived.Test.YteaikleofboknaaM08
import Derived.Deep.Cut
import Derived.Deep.RegionHeld3
import Derived.Test.YteaikleofboknaaM04
import Derived.BigQuiet
import Derived.Deep.QuietTactic
import Derived.OpenShut
import Derived.ChangeShapes
import Derived.Deep.Fields
import Derived.ChangeSlices
import Derived.Deep.SlicePairs
set_option linter.all false
section
set_option maxRecDepth 100000
namespace Go.Proofs.Yteaikleofboknaa
open Go.RowKit Go.Great Go.Maps
namespace Jrn
open Frm (fits num put scan strs rows allS allE oks ok cats)
open In (strVals Strs)
open Dsk (below2 below_al below_dN bytesWorld_below)
theorem cats_catsL (l : List ByteArray) : cats l = catsL (strs l) := by
  unfold cats catsL strs
  rw [List.flatMap_map]
theorem oks_fit {l : List ByteArray} (h : fitL (strs l)) : oks l = true := by
  unfold oks
  rw [List.all_eq_true]
  intro s hs
  have := h s.data.toList (List.mem_map_of_mem hs)
  rw [Array.length_toList] at this
  exact this
theorem ba_of_list {a b : ByteArray} (h : a.data.toList = b.data.toList) : a = b := ByteArray.ext_iff.2 (Array.toList_inj.1 h)
theorem sz_list (s : ByteArray) : s.data.toList.length = s.size := by rw [Array.length_toList]; rfl
theorem ext_take (s : ByteArray) (n : Nat) : (s.extract 0 n).data.toList = s.data.toList.take n := by simp
theorem ext_drop (s : ByteArray) (n : Nat) : (s.extract n s.size).data.toList = s.data.toList.drop n := by
  rw [ByteArray.data_extract]
  simp
  rw [List.take_of_length_le (by simp)]
/-- The parts so far, and what is left. -/
def Parts (H : List UInt8) (base : List UInt8) (outs : List ByteArray) (rest : ByteArray) : Prop := strs outs ++ chunks rest.data.toList = H :: chunks base
theorem Parts.next {H base : List UInt8} {outs : List ByteArray} {rest : ByteArray} (h : Parts H base outs rest) (n : Nat) (hn : n = min rest.size 4096) (h0 : 0 < rest.size) : Parts H base (outs ++ [rest.extract 0 n]) (rest.extract n rest.size) := by
  unfold Parts at *
  have hne : rest.data.toList ≠ [] := fun e => by
    have h1 : ([] : List UInt8).length = rest.size := by rw [← e]; exact sz_list rest
    rw [List.length_nil] at h1
    omega
  rw [chunks_cons hne] at h
  rw [← h, ext_drop]
  unfold strs
  rw [List.map_append, List.map_singleton, ext_take, List.append_assoc]
  have e1 : rest.data.toList.take n = rest.data.toList.take 4096 := by
    by_cases hb : rest.size ≤ 4096
    · rw [List.take_of_length_le (by rw [sz_list]; omega), List.take_of_length_le (by rw [sz_list]; omega)]
    · rw [show n = 4096 by omega]
  have e2 : rest.data.toList.drop n = rest.data.toList.drop 4096 := by
    by_cases hb : rest.size ≤ 4096
    · rw [List.drop_eq_nil_of_le (by rw [sz_list]; omega), List.drop_eq_nil_of_le (by rw [sz_list]; omega)]
    · rw [show n = 4096 by omega]
  rw [e1, e2]
  rfl
set_option maxHeartbeats 4000000 in
theorem file_any (gen : Nat) (hg : gen ≤ 1099511627776) (b : ByteArray) (hb : b.size ≤ 100000) (w : World) : Calls Try.prog 38 #[.int .i64 (gen : Int), .string b] w fun e w' => e = .returned (.string ⟨(fileB gen b.data.toList).toArray⟩) ∧ Below w.heap.size w w' := by
  obtain ⟨i0, hi, hz0, hz1, hz2⟩ := info_parts Frm.sinfo
  have NA : Hid (∀ W : World, Calls Try.prog 52 #[.int .i64 (gen : Int)] W fun e w' => e = .returned (.string ⟨(num8 gen).toArray⟩) ∧ Below W.heap.size W w') := number_any gen hg
  have NB : Hid (∀ W : World, Calls Try.prog 52 #[.int .i64 (b.size : Int)] W fun e w' => e = .returned (.string ⟨(num8 b.size).toArray⟩) ∧ Below W.heap.size W w') := number_any b.size (by omega)
  obtain ⟨N1, hN1⟩ : ∃ N : ByteArray, Hid ((⟨(num8 gen).toArray⟩ : ByteArray) = N) := ⟨_, rfl⟩
  obtain ⟨N2, hN2⟩ : ∃ N : ByteArray, Hid ((⟨(num8 b.size).toArray⟩ : ByteArray) = N) := ⟨_, rfl⟩
  have s1 : N1.size = 8 := by rw [← hN1.out]; rfl
  have s2 : N2.size = 8 := by rw [← hN2.out]; rfl
  obtain ⟨H, hH⟩ : ∃ H : ByteArray, Hid (ByteArray.mk #[83] ++ N1 ++ N2 = H) := ⟨_, rfl⟩
  have hHd : H.data.toList = headS gen b.data.toList.length := by
    rw [← hH.out, ← hN1.out, ← hN2.out, sz_list]
    simp [headS]
  rw [hN1.out] at NA
  rw [hN2.out] at NB
  have P0 : Hid (Parts (headS gen b.data.toList.length) b.data.toList [H] b) := by
    show strs [H] ++ chunks b.data.toList = _
    rw [← hHd]
    rfl
  have HL : Hid (∀ (outs : List ByteArray) (W : World) (a : Option Addr) (cap : Nat), Parts (headS gen b.data.toList.length) b.data.toList outs ⟨#[]⟩ → Strs W a outs → outs.length ≤ 1000000 → Calls Try.prog 58 #[.slice a outs.length cap] W fun e w' => e = .returned (.tuple #[.string ⟨(fileB gen b.data.toList).toArray⟩, .int .i64 0]) ∧ Below W.heap.size W w') := fun outs W a cap hP hS hl => by
    have e : strs outs = headS gen b.data.toList.length :: chunks b.data.toList := by
      unfold Parts at hP
      have e0 : chunks (ByteArray.mk #[]).data.toList = [] := chunks_nil
      rw [e0, List.append_nil] at hP
      exact hP
    have hf : fitL (strs outs) := by rw [e]; exact fileB_fit gen _
    have := Frm.all_yes a cap outs hl (oks_fit hf) W hS
    rw [cats_catsL, e] at this
    exact this
  clear hHd
  go_enter Try.func38, Try.ntmps38
  go_wp2_with (first
    | (go_at_call 52; (with_reducible refine (NA.out _).mono ?_); rintro e w1 ⟨rfl, hb1⟩; have HB1 := Lib.hid hb1; clear hb1)
    | (go_at_call 52; (with_reducible refine (NB.out _).mono ?_); rintro e w2 ⟨rfl, hb2⟩; have HB2 := Lib.hid (below2 HB1.out hb2); clear hb2))
  rw [hH.out]
  clear hH NA NB
  have hsb := hb
  go_loopw [1, 5] (fun bs v wr => ∃ (rest : ByteArray) (outs : List ByteArray), bs = .string rest ∧ Hid (rest.size + outs.length ≤ b.size + 1) ∧ Hid (Parts (headS gen b.data.toList.length) b.data.toList outs rest) ∧ Hid (wr.ownsRow w.heap.size 9 1 v outs.length (strVals outs)) ∧ Hid (Below w.heap.size w wr)) (fun bs _ _ => match bs with | .string r => r.size | _ => 0)
  case atStart =>
    refine ⟨b, [H], rfl, by show _ ≤ _; simp, P0, ?_, below_al HB2.out _⟩
    exact World.ownsRow_lit w2 #[.string H] 1 HB2.out.size (by decide) rfl
  case round =>
    obtain ⟨rest, outs, rfl, HS, HP, HO, HB⟩ := hrel
    have hs := HS.out
    by_cases h0 : 0 < rest.size
    · have d0 : decide ((0 : Int) < (rest.size : Int)) = true := decide_eq_true (by omega)
      obtain ⟨n, hn⟩ : ∃ n, Hid (n = min rest.size 4096) := ⟨_, rfl⟩
      have hmin : min ((rest.size : Nat) : Int) 4096 = ((n : Nat) : Int) := by have := hn.out; omega
      have HP2 := Lib.hid (HP.out.next n hn.out h0)
      have hnr : n ≤ rest.size := by have := hn.out; omega
      have hn1 : 1 ≤ n := by have := hn.out; omega
      go_wp2_with (at_builtin; refine Own.list_one rfl (.tmp 23) (.tmp 27) 31 rfl w.heap.size 9 i0 _ 16 Try.underlying31 hi hz0 hz1 hz2 rfl _ outs.length _ rfl _ _ _ rfl (HO.out.alloc _) (Own.cell_new _ _ _) rfl ?h1 ?h2 ?h3 ?_; (case h1 => unfold maxLen; omega); (case h2 => omega); (case h3 => have := HB.out.size; simp; omega); intro v' w2 hown2 hgrow2)
      have hb2 := ((below_al HB.out _).grown hgrow2 (by have := HB.out.size; simp; omega) (Own.own_block HO.out (Nat.le_refl _)))
      have hown3 : Hid (w2.ownsRow w.heap.size 9 1 v' (outs ++ [rest.extract 0 n]).length (strVals (outs ++ [rest.extract 0 n]))) := by
        show World.ownsRow _ _ _ _ _ _ _
        simpa [strVals] using hown2
      have HB2 := Lib.hid hb2
      have hsz : (rest.extract n rest.size).size = rest.size - n := by simp
      clear hown2 hgrow2 hb2
      go_roundw
      case rel => exact ⟨rest.extract n rest.size, outs ++ [rest.extract 0 n], rfl, by show _ ≤ _; rw [hsz, List.length_append]; simp; omega, HP2, hown3, HB2⟩
      case measure =>
        show (rest.extract n rest.size).size < rest.size
        rw [hsz]
        omega
    · have d0 : decide ((0 : Int) < (rest.size : Int)) = false := decide_eq_false (by omega)
      have hz : rest.size = 0 := by omega
      have hre : rest = ⟨#[]⟩ := ba_of_list (List.eq_nil_of_length_eq_zero (by rw [sz_list]; exact hz))
      have HP2 : Hid (Parts (headS gen b.data.toList.length) b.data.toList outs ⟨#[]⟩) := by rw [← hre]; exact HP.out
      obtain ⟨a, cap, rfl, hst⟩ := In.strs_of_own HO.out
      have CA := Lib.hid (HL.out outs wr a cap HP2.out hst (by omega))
      clear hre hst
      go_wp2_with (go_at_call 58; (with_reducible refine CA.out.mono ?_); rintro e w3 ⟨rfl, hb3⟩; have HB3 := Lib.hid (below2 HB.out hb3); clear hb3)
      go_ret
      exact ⟨rfl, HB3.out⟩
theorem strs_tail {w : World} {g o : Nat} {x : ByteArray} {l : List ByteArray} (h : Strs w (some ⟨g, o, none⟩) (x :: l)) : Strs w (some ⟨g, o + 1, none⟩) l := fun i hi => by
  obtain ⟨b, off, e, hb, hc⟩ := h (i + 1) (by simpa using hi)
  cases e
  exact ⟨g, o + 1, rfl, hb, by rw [show o + 1 + i = o + (i + 1) by omega]; exact hc⟩
theorem join_nil : ∀ (l : List (List UInt8)), Lib.join l [] = l.flatten
  | [] => rfl
  | [x] => by simp [Lib.join]
  | x :: y :: l => by
    have := join_nil (y :: l)
    simp [Lib.join] at this ⊢
    exact this
/-- A row of one's own: its address, its length within its room. -/
theorem own_cap {w : World} {base : Nat} {T : TypeId} {v : Value} {n : Nat} {xs : List Value} (h : w.ownsRow base T 1 v n xs) (hn : 1 ≤ n) : ∃ g cap, v = .slice (some ⟨g, 0, none⟩) n cap ∧ n ≤ cap ∧ cap ≤ maxLen ∧ base ≤ g ∧ g < w.heap.size := by
  rcases h.2 with ⟨_, h0⟩ | ⟨g, cap, cur, e, hb, hg, h1, h2, _⟩
  · omega
  · exact ⟨g, cap, e, h1, h2, hb, (Array.getElem?_eq_some_iff.1 hg).1⟩
/-- Records that Scan tells: how they lie. -/
structure Lie (W : World) (g : Nat) (l : List (List UInt8)) (cap : Nat) : Prop where
  strs : Strs W (some ⟨g, 0, none⟩) (rows l)
  fits : l.length ≤ cap
  most : cap ≤ maxLen
  lt : g < W.heap.size
theorem rows_length (l : List (List UInt8)) : (rows l).length = l.length := by simp [rows]
theorem scan_yes (s : ByteArray) (hm : s.size ≤ 1000000000) (r : List UInt8) (l : List (List UInt8)) (u : Nat) (h : scan s.data.toList = (r :: l, u)) (w : World) :
    Calls Try.prog 24 #[.string s] w fun e w' => (∃ g cap, e = .returned (.tuple #[.slice (some ⟨g, 0, none⟩) (l.length + 1) cap, .int .i64 (u : Int)]) ∧ Lie w' g (r :: l) cap ∧ w.heap.size ≤ g) ∧ Below w.heap.size w w' := by
  refine (Frm.scan_any s hm w).mono fun e w' ⟨v, outs, he, ho, hown, hb⟩ => ⟨?_, hb⟩
  rw [h] at he ho
  have e2 : outs = rows (r :: l) := Frm.strs_inj (ho.trans (Frm.strs_rows _).symm)
  subst e2
  have hl : (rows (r :: l)).length = l.length + 1 := by rw [rows_length]; rfl
  obtain ⟨g, cap, rfl, h1, h2, h3, h4⟩ := own_cap hown (by omega)
  obtain ⟨a, cap', e3, hst⟩ := In.strs_of_own hown
  cases e3
  rw [hl] at he h1
  exact ⟨g, cap, he, ⟨hst, h1, h2, h4⟩, h3⟩
theorem scan_no (s : ByteArray) (hm : s.size ≤ 1000000000) (u : Nat) (h : scan s.data.toList = ([], u)) (w : World) :
    Calls Try.prog 24 #[.string s] w fun e w' => (∃ a cap, e = .returned (.tuple #[.slice a 0 cap, .int .i64 (u : Int)])) ∧ Below w.heap.size w w' := by
  refine (Frm.scan_any s hm w).mono fun e w' ⟨v, outs, he, ho, hown, hb⟩ => ⟨?_, hb⟩
  rw [h] at he ho
  have e2 : outs = rows [] := Frm.strs_inj (ho.trans (Frm.strs_rows _).symm)
  subst e2
  obtain ⟨a, cap, rfl, hst⟩ := In.strs_of_own hown
  exact ⟨a, cap, he⟩
theorem Lie.below {W W' : World} {g : Nat} {l : List (List UInt8)} {cap : Nat} (h : Lie W g l cap) (hb : Below W.heap.size W W') : Lie W' g l cap := ⟨h.strs.below hb, h.fits, h.most, Nat.lt_of_lt_of_le h.lt hb.size⟩
theorem Lie.tail {W : World} {g : Nat} {r : List UInt8} {l : List (List UInt8)} {cap : Nat} (h : Lie W g (r :: l) cap) : Strs W (some ⟨g, 1, none⟩) (rows l) ∧ l.length ≤ cap - 1 := ⟨strs_tail h.strs, by have := h.fits; simp at this; omega⟩
theorem Lie.tail0 {W : World} {g : Nat} {r : List UInt8} {l : List (List UInt8)} {cap : Nat} (h : Lie W g (r :: l) cap) (hc : cap ≤ 1) : Strs W (some ⟨g, 0, none⟩) (rows l) ∧ l.length ≤ 0 := by
  have := h.fits
  have h0 : l.length = 0 := by simp at this; omega
  have h1 : l = [] := List.eq_nil_of_length_eq_zero h0
  subst h1
  exact ⟨fun i hi => absurd hi (Nat.not_lt_zero i), Nat.le_refl _⟩
theorem rows_cons (r : List UInt8) (l : List (List UInt8)) : rows (r :: l) = ⟨r.toArray⟩ :: rows l := rfl
theorem rows_flat (l : List (List UInt8)) : (rows l).map (·.data.toList) = l := Frm.strs_rows l
set_option maxHeartbeats 4000000 in
theorem snapshot_any (gen : Nat) (hg1 : 1 ≤ gen) (hg : gen < 1099511627776) (base : ByteArray) (hb : base.size ≤ 100000) (s : ByteArray) (hs : s.data.toList = fileB gen base.data.toList) (w : World) : Calls Try.prog 23 #[.string s] w fun e w' => e = .returned (.tuple #[.int .i64 (gen : Int), .string base, .bool true]) ∧ Below w.heap.size w w' := by
  have hsz : s.size ≤ 1000000000 := by
    have := (fileB_len gen base.data.toList).2
    rw [← hs, sz_list, sz_list] at this
    omega
  obtain ⟨l, hl⟩ : ∃ l, Hid (chunks base.data.toList = l) := ⟨_, rfl⟩
  obtain ⟨n, hn⟩ : ∃ n, Hid (l.length + 1 = n) := ⟨_, rfl⟩
  obtain ⟨T, hT⟩ : ∃ T : ByteArray, Hid ((⟨(headS gen base.data.toList.length).toArray⟩ : ByteArray) = T) := ⟨_, rfl⟩
  have t17 : T.size = 17 := by rw [← hT.out]; rfl
  have SC : Hid (∀ W, Calls Try.prog 24 #[.string s] W fun e w' => (∃ g cap, e = .returned (.tuple #[.slice (some ⟨g, 0, none⟩) n cap, .int .i64 ((fileB gen base.data.toList).length : Int)]) ∧ Lie w' g (headS gen base.data.toList.length :: l) cap ∧ W.heap.size ≤ g) ∧ Below W.heap.size W w') := fun W => by
    have := scan_yes s hsz _ _ _ (by rw [hs]; exact fileB_scan gen base.data.toList) W
    rw [hl.out, hn.out] at this
    exact this
  have TO : Hid (∀ W, Calls Try.prog 49 #[.string (T.extract 1 9)] W fun e w' => e = .returned (.tuple #[.int .i64 (gen : Int), .bool true]) ∧ Below W.heap.size W w') := told_any (T.extract 1 9) gen (by rw [← hT.out]; rfl) hg
  have FI : Hid (∀ W, Calls Try.prog 38 #[.int .i64 (gen : Int), .string base] W fun e w' => e = .returned (.string s) ∧ Below W.heap.size W w') := fun W => by
    have := file_any gen (by omega) base hb W
    rw [show (⟨(fileB gen base.data.toList).toArray⟩ : ByteArray) = s from ba_of_list (by rw [hs])] at this
    exact this
  have hlen := chunks_len base.data.toList
  rw [sz_list, hl.out] at hlen
  have JO : Hid (∀ (W : World) (a : Option Addr) (cap : Nat), Strs W a (rows l) ∧ l.length ≤ cap → Calls Try.prog 50 #[.slice a (n - 1) cap, .string ⟨#[]⟩] W fun e w' => e = .returned (.string base) ∧ Below W.heap.size W w') := fun W a cap ⟨hS, hc⟩ => by
    have ej : Lib.join ((rows l).map (·.data.toList)) (ByteArray.mk #[]).data.toList = base.data.toList := by
      rw [rows_flat]
      exact (join_nil l).trans (by rw [← hl.out]; exact chunks_join _)
    have hn1 : n - 1 = l.length := by have := hn.out; omega
    rw [hn1]
    by_cases h0 : l = []
    · rw [h0]
      refine (Try.strings_Join_none a cap ⟨#[]⟩ W).mono fun e w' ⟨he, hw⟩ => ⟨?_, by rw [hw]; exact Below.refl _ _⟩
      rw [h0] at ej
      have : base = ⟨#[]⟩ := ba_of_list (by rw [← ej]; rfl)
      rw [he, this]
    · obtain ⟨g, o, rfl, hg, -⟩ := hS 0 (by rw [rows_length]; exact List.length_pos_iff.2 h0)
      have := Try.strings_Join g o cap (rows l) ⟨#[]⟩ W (fun j x hj => by
        have hjl : j < (rows l).length := (List.getElem?_eq_some_iff.1 hj).1
        obtain ⟨b, off, e, hb, hc⟩ := hS j hjl
        cases e
        rw [hc, List.getD_eq_getElem?_getD, hj]
        rfl) hg (by rw [rows_length]; omega) (by rw [rows_length]; exact hc) (by rw [ej, sz_list]; omega)
      rw [ej, rows_length] at this
      rw [show (⟨base.data.toList.toArray⟩ : ByteArray) = base from ba_of_list rfl] at this
      exact this
  obtain ⟨G, hG⟩ : ∃ G : Int, Hid ((gen : Int) = G) := ⟨_, rfl⟩
  rw [hG.out] at TO FI ⊢
  have g1 : decide ((1 : Int) ≤ G) = true := decide_eq_true (by have := hG.out; omega)
  have g2 : decide (G ≤ 1099511627776) = true := decide_eq_true (by have := hG.out; omega)
  have hse : (s.toList == s.toList) = true := beq_self_eq_true _
  have n1 : 1 ≤ n := by have := hn.out; omega
  have n2 : n ≤ 100001 := by have := hn.out; omega
  have n0 : ((n : Int) == 0) = false := beq_eq_false_iff_ne.2 (by omega)
  go_enter Try.func23, Try.ntmps23
  go_upto_region 6 with (first
    | (go_at_call 24; (with_reducible refine (SC.out _).mono ?_); rintro e w1 ⟨⟨g, cap, rfl, hLie, hge⟩, hb1⟩; have HB1 := Lib.hid hb1; have HLI := Lib.hid hLie; have hg0 := hLie.lt; have c0 : w1.cell? ⟨g, 0, none⟩ = some (.string T) := (by obtain ⟨b, off, e, hb, hc⟩ := hLie.strs 0 (Nat.succ_pos _); cases e; rw [← hT.out]; exact hc); clear hb1 hLie)
    | (go_at_call 49; (with_reducible refine (TO.out _).mono ?_); rintro e w2 ⟨rfl, hb2⟩; have HB2 := Lib.hid (below2 HB1.out hb2); have HL2 := Lib.hid (HLI.out.below hb2); clear hb2)
    | (go_at_call 50; (with_reducible refine (JO.out _ _ _ ?hj).mono ?_); (case hj => first | exact HL2.out.tail | (refine HL2.out.tail0 ?_; omega)); rintro e w3 ⟨rfl, hb3⟩; have HB3 := Lib.hid (below2 HB2.out hb3); clear hb3))
  all_goals (go_wp2_with (go_at_call 38; (with_reducible refine (FI.out _).mono ?_); rintro e w4 ⟨rfl, hb4⟩; have HB4 := Lib.hid (below2 HB3.out hb4); clear hb4))
  all_goals go_ret3
  all_goals exact ⟨rfl, HB4.out⟩
end Jrn
end Go.Proofs.Yteaikleofboknaa
end
section
set_option maxRecDepth 100000
namespace Go.Proofs.Yteaikleofboknaa
open Go.RowKit Go.Great Go.Maps
namespace Jrn
open Frm (fits num put scan strs rows allS allE oks ok cats)
open In (strVals Strs)
open Dsk (below2 below_al below_dN bytesWorld_below)
theorem gen_no (a : Option Addr) (cap : Nat) (w : World) : Calls Try.prog 25 #[.slice a 0 cap] w fun e w' => e = .returned (.tuple #[.int .i64 (-1), .bool true]) ∧ w = w' := by
  go_enter Try.func25, Try.ntmps25
  go_wp2
  go_ret2
  exact ⟨rfl, rfl⟩
theorem gn_flat {w V : World} {g : Nat} {T : ByteArray} (h0 : w.cell? ⟨g, 0, none⟩ = some (.string T)) (hg : g < w.heap.size) (h : Hid (Below w.heap.size w V)) : V.cell? ⟨g, 0, none⟩ = some (.string T) ∧ Hid (Below w.heap.size w V) :=
  ⟨(h.out.cell (p := ⟨g, 0, none⟩) hg).trans h0, h⟩
set_option maxHeartbeats 4000000 in
theorem gen_yes (x : Nat) (hx : x < 1099511627776) (l : List (List UInt8)) (g cap : Nat) (w : World) (h : Lie w g (headL x :: l) cap) (hl : l.length ≤ 1000000) : Calls Try.prog 25 #[.slice (some ⟨g, 0, none⟩) (l.length + 1) cap] w fun e w' => e = .returned (.tuple #[.int .i64 (x : Int), .bool true]) ∧ Below w.heap.size w w' := by
  obtain ⟨n, hn⟩ : ∃ n, Hid (l.length + 1 = n) := ⟨_, rfl⟩
  rw [hn.out]
  obtain ⟨T, hT⟩ : ∃ T : ByteArray, Hid ((⟨(headL x).toArray⟩ : ByteArray) = T) := ⟨_, rfl⟩
  have t9 : T.size = 9 := by rw [← hT.out]; rfl
  have TO : Hid (∀ W, Calls Try.prog 49 #[.string (T.extract 1 9)] W fun e w' => e = .returned (.tuple #[.int .i64 (x : Int), .bool true]) ∧ Below W.heap.size W w') := by
    exact told_any (T.extract 1 9) x (by rw [← hT.out]; rfl) hx
  have hg := h.lt
  have c0 : w.cell? ⟨g, 0, none⟩ = some (.string T) := by
    obtain ⟨b, off, e, hb, hc⟩ := h.strs 0 (Nat.succ_pos _)
    cases e
    rw [← hT.out]
    exact hc
  have hT0 : 0 < T.size := by rw [t9]; decide
  have m19 : min (1 : Int) 9 = 1 := by decide
  have i0 : T[0] = 76 := by
    have := hT.out
    subst this
    rfl
  have n1 : 1 ≤ n := by have := hn.out; omega
  have n3 : (0 : Int) < (n : Int) := by omega
  have n4 : 0 < n := by omega
  have n2 : n ≤ 1000001 := by have := hn.out; omega
  have n0 : ((n : Int) == 0) = false := beq_eq_false_iff_ne.2 (by omega)
  have H0 := Lib.hid c0
  have HB0 : Hid (Below w.heap.size w w.drew) := (Below.refl _ _).drew
  clear h
  go_enter Try.func25, Try.ntmps25
  go_upto_region 3 with (fail)
  go_region_held3 (fun V => V.cell? ⟨g, 0, none⟩ = some (.string T) ∧ Hid (Below w.heap.size w V)) (first | exact gn_flat H0.out hg HB1 | exact gn_flat H0.out hg HB0)
    ((go_at_call 49; ((with_reducible refine (TO.out _).mono ?_); rintro e w1 ⟨rfl, hb1⟩; have HB1 := Lib.hid (below2 HB0.out hb1))))
  all_goals
    have c1 := (gn_flat H0.out hg HB1).1
    have hg1 : g < w1.heap.size := Nat.lt_of_lt_of_le hg HB1.out.size
    go_upto_region 4 with (fail)
    go_quiet (fail)
    go_wp2
    go_ret2
    exact ⟨rfl, below_dN HB1.out _⟩
end Jrn
end Go.Proofs.Yteaikleofboknaa
end
section
namespace Go.Proofs.Yteaikleofboknaa
open Go.RowKit Go.Great Go.Maps
namespace Dsk
/-- An act, and where its numbers lie. -/
structure ActB where
  a : ActIn
  ka : Option Addr
  kc : Nat
def ActB.val (b : ActB) : Array Value := #[.int .i64 b.a.kind, .int .i64 b.a.n, .string ⟨b.a.name.toArray⟩, .string ⟨b.a.arg.toArray⟩, .bool b.a.half, .slice b.ka b.a.keep.length b.kc]
/-- What is known of an act that came. -/
structure ActCame (W : World) (b : ActB) : Prop where
  keep : In.IsInts .i64 W (.slice b.ka b.a.keep.length b.kc) b.a.keep
  n : b.a.n ≤ 9223372036854775807
end Dsk
end Go.Proofs.Yteaikleofboknaa
end
section
namespace Go.Proofs.Yteaikleofboknaa
open Go.RowKit Go.Great Go.Maps
namespace Dsk
theorem neq_str (a b : ByteArray) : (a.toList == b.toList) = decide (a = b) := by
  rw [ByteArray.toList_eq, ByteArray.toList_eq, Bool.eq_iff_iff]
  simp [ByteArray.ext_iff]
/-- Are lists of texts the same? -/
def same (l m : List ByteArray) : Bool := decide (l = m)
set_option maxHeartbeats 1000000 in
theorem same_any (a b : Option Addr) (cap cap2 : Nat) (l m : List ByteArray) (hl : l.length ≤ maxLen) (hm : m.length ≤ maxLen) (w : World) (ha : In.Strs w a l) (hb : In.Strs w b m) :
    Calls Try.prog 19 #[.slice a l.length cap, .slice b m.length cap2] w fun e w' => e = .returned (.bool (same l m)) ∧ Below w.heap.size w w' := by
  unfold maxLen at hl hm
  by_cases hlen : l.length = m.length
  · have hlen1 : ((l.length : Int) != (m.length : Int)) = false := by simp [hlen]
    have HL := Lib.hid hlen
    clear hlen
    go_enter Try.func19, Try.ntmps19
    go_wp2
    go_loopw [5] (fun i wr => ∃ k q : Nat, k ≤ l.length ∧ i = .int .i64 k ∧ wr = w.drewN q ∧ Hid (l.take k = m.take k)) (fun i _ => l.length - (intOf i).toNat)
    case atStart => exact ⟨0, 0, by omega, rfl, rfl, rfl⟩
    case round =>
      obtain ⟨k, q, hk, rfl, rfl, HK⟩ := hrel
      have HLo := HL.out
      have hBW : Hid (Below w.heap.size w (w.drewN q)) := below_dN (Below.refl _ _) q
      by_cases hlt : k < l.length
      · obtain ⟨b1, off1, rfl, hb1, hc1⟩ := ha k hlt
        obtain ⟨b2, off2, rfl, hb2, hc2⟩ := hb k (by omega)
        have hlt2 : (k : Int) < (m.length : Int) := by omega
        have hlt1 : (k : Int) < (l.length : Int) := by omega
        have e1 : l.take (k + 1) = l.take k ++ [l.getD k ByteArray.empty] := by
          rw [List.take_succ_eq_append_getElem hlt, List.getD_eq_getElem?_getD, List.getElem?_eq_getElem hlt]; rfl
        have e2 : m.take (k + 1) = m.take k ++ [m.getD k ByteArray.empty] := by
          have h2 : k < m.length := by omega
          rw [List.take_succ_eq_append_getElem h2, List.getD_eq_getElem?_getD, List.getElem?_eq_getElem h2]; rfl
        have E1 := Lib.hid e1
        have E2 := Lib.hid e2
        have HLo := Lib.hid HLo
        clear e1 e2 ha hb
        clear HLo
        generalize l.getD k ByteArray.empty = x at *
        generalize m.getD k ByteArray.empty = y at *
        by_cases hxy : x = y
        · have hbeq : (x.toList == y.toList) = true := by rw [neq_str]; simp [hxy]
          have HXY := Lib.hid hxy
          clear hxy
          go_wp2
          go_quiet (fail)
          go_wp2
          go_roundw
          case rel => exact ⟨k + 1, q + nq, by omega, by go_num, rfl, by show List.take _ _ = _; rw [E1.out, E2.out, HK.out, HXY.out]⟩
          case measure => simp [intOf]; omega
        · have hbeq : (x.toList == y.toList) = false := by rw [neq_str]; simp [hxy]
          have hs : Hid (same l m = false) := by
            show same l m = false
            apply decide_eq_false
            intro h
            subst h
            have h3 := E1.out.symm.trans E2.out
            exact hxy (by simpa using List.append_cancel_left h3)
          have HN := Lib.hid hxy
          clear hxy
          go_wp2
          go_quiet (fail)
          go_wp2
          go_ret
          exact ⟨by rw [hs.out]; rfl, below_dN hBW.out _⟩
      · have hs : Hid (same l m = true) := by
          show same l m = true
          apply decide_eq_true
          have h1 := HK.out
          rw [List.take_of_length_le (by omega), List.take_of_length_le (by omega)] at h1
          exact h1
        have hlt1 : decide ((k : Int) < (l.length : Int)) = false := decide_eq_false (by omega)
        clear ha hb HLo
        go_wp2
        go_ret
        exact ⟨by rw [hs.out]; rfl, below_dN (Below.refl _ _) _⟩
  · have hlen1 : ((l.length : Int) != (m.length : Int)) = true := by simp; omega
    have hs : Hid (same l m = false) := by
      show same l m = false
      apply decide_eq_false
      intro h
      exact hlen (by rw [h])
    clear hlen ha hb
    go_enter Try.func19, Try.ntmps19
    go_wp2
    go_ret
    exact ⟨by rw [hs.out]; rfl, Below.refl _ _⟩

end Dsk
end Go.Proofs.Yteaikleofboknaa
end
section
namespace Go.Proofs.Yteaikleofboknaa
open Go.RowKit Go.Great Go.Maps
namespace Dsk
theorem Bx.below2 {g m B : Nat} {a b c : World} (h : Below B a b) (h2 : Bx g m b c) (hB : B ≤ a.heap.size) (hg : B ≤ g) (hm : B ≤ m) : Below B a c := h.trans (h2.toBelow (Nat.le_trans hB h.size) hg hm)
def xyD (b : List UInt8) (sure : Nat) (ops : Int) : DkIn := ⟨[⟨aB, b, sure⟩], 10, ops, 0, false, false⟩
theorem xy1 : appendV (newD 10) aB [120, 121] = (0, xyD [120, 121] 0 1) := rfl
theorem xy2 : syncV (xyD [120, 121] 0 1) aB = (0, xyD [120, 121] 2 2) := rfl
theorem xy3 : appendV (xyD [120, 121] 2 2) aB [122] = (0, xyD [120, 121, 122] 2 3) := rfl
theorem xy4 : appendV (xyD [120, 121, 122] 2 3) bB [49, 50, 51, 52, 53, 54, 55, 56] = (4, xyD [120, 121, 122] 2 3) := rfl
theorem xy5 : crashV (xyD [120, 121, 122] 2 3) [] = xyD [120, 121] 2 3 := rfl
theorem xy_ok (b : List UInt8) (n : Nat) (o : Int) (hn : n ≤ b.length) (ho : 0 ≤ o ∧ o ≤ 10) (hb : b.length ≤ 10) : Siz (xyD b n o) 10 := by
  refine ⟨⟨⟨List.pairwise_singleton _ _, fun f hf => ?_, fun f hf => ?_⟩, ?_, ?_, ?_⟩, ?_, ?_, ?_⟩
  · rw [List.mem_singleton.1 hf]; rfl
  · rw [List.mem_singleton.1 hf]; exact hn
  · exact ⟨by show (0 : Int) ≤ 10; decide, by show (10 : Int) ≤ _; decide⟩
  · exact ⟨ho.1, by show o ≤ _; omega⟩
  · exact ⟨by show (0 : Int) ≤ 0; decide, by show (0 : Int) ≤ _; decide⟩
  · show 1 ≤ 10; decide
  · show b.length + 0 ≤ _; omega
  · exact ho.2
theorem new_siz (z : Int) (h : 0 ≤ z ∧ z ≤ 16777216) : Siz (newD z) 0 :=
  ⟨⟨⟨List.Pairwise.nil, fun f hf => absurd hf (by simp [newD]), fun f hf => absurd hf (by simp [newD])⟩, h, ⟨Int.le_refl _, by show (0 : Int) ≤ _; decide⟩, ⟨Int.le_refl _, by show (0 : Int) ≤ _; decide⟩⟩, Nat.le_refl _, Nat.le_refl _, Int.le_refl _⟩
theorem row_strs (l : List (List UInt8)) : rowOf l = In.strVals (l.map fun b => (⟨b.toArray⟩ : ByteArray)) := by
  unfold rowOf In.strVals
  rw [List.map_map]
  rfl
theorem names_strs {w : World} {B : Nat} {v : Value} {l : List (List UInt8)} (h : w.ownsRow B 9 1 v l.length (rowOf l)) : ∃ a cap, v = .slice a l.length cap ∧ In.Strs w a (l.map fun b => (⟨b.toArray⟩ : ByteArray)) := by
  rw [row_strs] at h
  have e : (l.map fun b => (⟨b.toArray⟩ : ByteArray)).length = l.length := List.length_map ..
  rw [← e] at h ⊢
  exact In.strs_of_own h
theorem strs_new1 (w : World) (x : ByteArray) (T : TypeId) : In.Strs (w.alloc (.cells #[.string x] T)) (some ⟨w.heap.size, 0, none⟩) [x] := fun i hi => by
  have : i = 0 := by simp at hi; exact hi
  subst this
  exact ⟨_, _, rfl, by simp, by rw [World.cell?_alloc_at _ _ _ _ (by simp)]; rfl⟩
theorem ints_nil (w : World) : In.IsInts .i64 w (.slice none 0 0) [] := ⟨none, 0, rfl, Nat.zero_le _, fun i hi => absurd hi (Nat.not_lt_zero i), fun s hs => (by cases hs), Nat.le_refl _, Nat.zero_le _⟩
end Dsk
end Go.Proofs.Yteaikleofboknaa
end
section
namespace Go.Proofs.Yteaikleofboknaa
open Go.RowKit Go.WideShapes Go.WideElems Go.ChangeAt Go.ChangeShapes
namespace Dsk
def IsTwo (v : Value) (l : List ByteArray) : Prop := ∃ a b, l = [a, b] ∧ v = .agg #[.string a, .string b] ∧ a.size ≤ maxLen ∧ b.size ≤ maxLen
theorem list2 {α : Type} (l : List α) (h : (⟨l⟩ : Array α).size = 2) : ∃ a b, l = [a, b] := by
  match l, h with
  | [a, b], _ => exact ⟨a, b, rfl⟩
theorem isTwo_of {H : Type} {enc : TypeId × Value → H} {P : Program} {t e : TypeId} (ht : P.underlying t = some (.array 2 e)) (he : P.underlying e = some .string) (hc : P.cellsOf e = 1) (hct : P.cellsOf t = 2) {W : World} {r : Reach} {b0 : Nat} {v : Value} {d : DataW H} {p : List MemPlace} {base : Nat} {spare held : _}
    (hv : Value.okWide P W r b0 t v) (h : DataW.Trod enc P W base spare held t v d p) : ∃ l, IsTwo v l := by
  obtain ⟨cs, rfl, hsz, _⟩ : ∃ cs, v = .agg cs ∧ cs.size = P.cellsOf t ∧ Row.okWide P W r b0 t cs := by
    simpa [Value.okWide, ht] using hv
  rw [hct] at hsz
  obtain ⟨l⟩ := cs
  obtain ⟨c0, c1, rfl⟩ := list2 l hsz
  obtain ⟨fuel, hf⟩ := h
  obtain ⟨xs, m, _, _, _, hlen, hg⟩ := DataW.trod_array ht hf
  match xs, hlen with
  | [y0, y1], _ =>
    have g0 := hg 0 (by decide)
    have g1 := hg 1 (by decide)
    simp [Value.cells, hc] at g0 g1
    obtain ⟨s0, e0, -, z0⟩ := DataW.trod_string he g0
    obtain ⟨s1, e1, -, z1⟩ := DataW.trod_string he g1
    simp at e0 e1
    subst e0 e1
    exact ⟨_, s0, s1, rfl, rfl, z0, z1⟩
end Dsk
end Go.Proofs.Yteaikleofboknaa
end
section
namespace Go.Proofs.Yteaikleofboknaa
open Go.RowKit Go.WideShapes Go.WideElems Go.ChangeAt Go.ChangeShapes
namespace Dsk
theorem act_cells : Try.prog.cellsOf 3 = 1 ∧ Try.prog.cellsOf 9 = 1 ∧ Try.prog.cellsOf 4 = 1 ∧ Try.prog.cellsOf 36 = 1 ∧ Try.prog.cellsOf 38 = 6 := ⟨by kernel_rfl, by kernel_rfl, by kernel_rfl, by kernel_rfl, by kernel_rfl⟩
theorem at_addr {w : World} {a : Addr} (h0 : ∃ v0, w.cell? (a.add 0) = some v0) : ∃ b off, a = ⟨b, off, none⟩ ∧ b < w.heap.size ∧ ∀ j, a.add j = ⟨b, off + j, none⟩ := by
  obtain ⟨b, off, spot⟩ := a
  obtain ⟨v0, h0⟩ := h0
  have hs : spot = none := by simpa [Addr.add] using World.cell?_spot h0
  subst hs
  have e : ∀ j, (⟨b, off, none⟩ : Addr).add j = ⟨b, off + j, none⟩ := fun j => by unfold Addr.add; split <;> simp_all
  rw [e] at h0
  exact ⟨b, off, rfl, World.block_lt_of_cell? _ _ h0, e⟩
def noA : ActB := ⟨⟨0, 0, [], [], false, []⟩, none, 0⟩
/-- What came in as an act, its strings' lengths too. -/
structure ActIs (W : World) (b : ActB) : Prop where
  came : ActCame W b
  kind : (Lit.int .i64 b.a.kind).wf = true
  name : b.a.name.length ≤ maxLen
  arg : b.a.arg.length ≤ maxLen
/-- The acts that stand from an address on. -/
def Acts (W : World) (a : Option Addr) (l : List ActB) : Prop :=
  ∀ i, i < l.length → ∃ b off, a = some ⟨b, off, none⟩ ∧ b < W.heap.size ∧ ∀ j, j < 6 → W.cell? ⟨b, off + (i * 6 + j), none⟩ = (l.getD i noA).val[j]?
section
variable {H : Type} {enc : TypeId × Value → H} {W : World} {base n : Nat} {spare : Nat → Bool} {held : Bool}
theorem slice_ints {v : Value} {y : DataW H × List MemPlace} (h : DataW.trod enc Try.prog W base spare held n 36 [v] = some y) : ∃ a l cap, v = .slice a l.length cap ∧ In.IsInts .i64 W (.slice a l.length cap) l := by
  rcases open_ints Try.underlying36 Try.underlying3 act_cells.1 h with ⟨hcs, _⟩ | ⟨x, l, c, ss, hcs, _, hl, hm, hz, _, hcell, hws⟩
  · simp at hcs
    subst hcs
    exact ⟨none, [], 0, rfl, ints_nil W⟩
  · simp at hcs
    subst hcs
    have hlz : l ≤ ss.length := by rw [hz]; split <;> omega
    have hll : (ss.take l).length = l := by rw [List.length_take, Nat.min_eq_left hlz]
    refine ⟨some x, ss.take l, c, by rw [hll], some x, c, rfl, by rw [hll]; omega, fun i hi => ?_, fun s hs => hws s (List.mem_of_mem_take hs), by rw [hll]; omega, hm⟩
    rw [hll] at hi
    obtain ⟨b, off, rfl, hb, hc⟩ := In.cell_addrI (hcell i (by omega)) ⟨_, hcell 0 (by omega)⟩
    refine ⟨b, off, rfl, hb, ?_⟩
    rw [hc]
    simp [List.getD, hi]
theorem act_of {cs : List Value} {y : DataW H × List MemPlace} (hl : cs.length = 6) (hf : DataW.trod enc Try.prog W base spare held n 38 cs = some y) : ∃ b : ActB, cs = b.val.toList ∧ ActIs W b := by
  match cs, hl with
  | [c0, c1, c2, c3, c4, c5], _ =>
    obtain ⟨xs, n, _, hx, _, hlen, hg⟩ := DataW.trod_struct Try.underlying38 hf
    match xs, hlen with
    | [y0, y1, y2, y3, y4, y5], _ =>
      have k1 := act_cells.1
      have k2 := act_cells.2.1
      have k3 := act_cells.2.2.1
      have k4 := act_cells.2.2.2.1
      have g0 := hg 0 _ rfl
      have g1 := hg 1 _ rfl
      have g2 := hg 2 _ rfl
      have g3 := hg 3 _ rfl
      have g4 := hg 4 _ rfl
      have g5 := hg 5 _ rfl
      simp [k1, k2, k3, k4] at g0 g1 g2 g3 g4 g5
      obtain ⟨z0, e0, -, w0⟩ := DataW.trod_int Try.underlying3 g0
      obtain ⟨z1, e1, -, w1⟩ := DataW.trod_int Try.underlying3 g1
      obtain ⟨s2, e2, -, w2⟩ := DataW.trod_string Try.underlying9 g2
      obtain ⟨s3, e3, -, w3⟩ := DataW.trod_string Try.underlying9 g3
      obtain ⟨b4, e4, -⟩ := DataW.trod_bool Try.underlying4 g4
      simp at e0 e1 e2 e3 e4
      obtain ⟨a, l, cap, rfl, hin⟩ := slice_ints g5
      subst e0 e1 e2 e3 e4
      refine ⟨⟨⟨z0, z1, s2.data.toList, s3.data.toList, b4, l⟩, a, cap⟩, rfl, ⟨hin, ?_⟩, w0, ?_, ?_⟩
      · simp [Lit.wf, IntKind.min, IntKind.max, IntKind.signed, IntKind.bits] at w1
        exact w1.2
      · show s2.data.toList.length ≤ _
        rw [Array.length_toList]; exact w2
      · show s3.data.toList.length ≤ _
        rw [Array.length_toList]; exact w3
theorem slice_acts {v : Value} {y : DataW H × List MemPlace} (h : DataW.trod enc Try.prog W base spare held n 58 [v] = some y) : ∃ a l cap, v = .slice a l.length cap ∧ l.length ≤ maxLen ∧ Acts W a l ∧ ∀ i, i < l.length → ActIs W (l.getD i noA) := by
  rcases Go.Deep.open_slice Try.underlying58 h with ⟨hcs, _⟩ | ⟨x, len, cap, m, n', D, Pl, hcs, _, hl, hm, hmm, _, hcell⟩
  · simp at hcs
    subst hcs
    exact ⟨none, [], 0, rfl, Nat.zero_le _, fun i hi => absurd hi (Nat.not_lt_zero i), fun i hi => absurd hi (Nat.not_lt_zero i)⟩
  · simp at hcs
    subst hcs
    have hlz : len ≤ m := by rw [hmm]; split <;> omega
    have each : ∀ i, i < m → ∃ b : ActB, ActIs W b ∧ ∀ j, j < 6 → W.cell? (x.add (i * 6 + j)) = b.val.toList[j]? := fun i hi => by
      obtain ⟨cs', h1, h2⟩ := hcell i hi
      rw [act_cells.2.2.2.2] at h1
      obtain ⟨_, hlen, hc⟩ := World.cells?_some h1
      obtain ⟨b, hb, hbc⟩ := act_of hlen h2
      refine ⟨b, hbc, fun j hj => ?_⟩
      have := hc j hj
      rw [Go.Deep.add_add] at this
      rw [this, ← hb]
    haveI : Inhabited ActB := ⟨noA⟩
    obtain ⟨B, hB⟩ := Go.Deep.choose_lt each
    have hll : ((List.range len).map B).length = len := by simp
    have eachL : ∀ i, i < len → ((List.range len).map B).getD i noA = B i := fun i hi => by simp [List.getD, hi]
    refine ⟨some x, (List.range len).map B, cap, by rw [hll], by rw [hll]; omega, fun i hi => ?_, fun i hi => ?_⟩
    · rw [hll] at hi
      have hc := (hB i (by omega)).2
      obtain ⟨b, off, rfl, hb, hj⟩ := at_addr ⟨_, by have := (hB 0 (by omega)).2 0 (by omega); simpa [ActB.val] using this⟩
      refine ⟨b, off, rfl, hb, fun j hj6 => ?_⟩
      have := hc j hj6
      rw [hj] at this
      rw [this, eachL i hi]
      simp
    · rw [hll] at hi
      rw [eachL i hi]
      exact (hB i (by omega)).1
end
/-- The acts that came in. -/
def IsActs (W : World) (v : Value) (l : List ActB) : Prop := ∃ a cap, v = .slice a l.length cap ∧ l.length ≤ maxLen ∧ Acts W a l ∧ ∀ i, i < l.length → ActIs W (l.getD i noA)
set_option maxRecDepth 100000 in
theorem isActs_of {H : Type} {enc : TypeId × Value → H} {W : World} {r : Reach} {b0 : Nat} {v : Value} {d : DataW H} {p : List MemPlace} {base : Nat} {spare held : _}
    (hv : Value.okWide Try.prog W r b0 58 v) (h : DataW.Trod enc Try.prog W base spare held 58 v d p) : ∃ l, IsActs W v l := by
  obtain ⟨a0, len, cap0, rfl⟩ := okWide_slice Try.underlying58 hv
  obtain ⟨fuel, hf⟩ := h
  obtain ⟨a, l, cap, e, h1, h2, h3⟩ := slice_acts hf
  exact ⟨l, a, cap, e, h1, h2, h3⟩
def IsAct (W : World) (v : Value) (b : ActB) : Prop := v = .agg b.val ∧ ActIs W b
set_option maxRecDepth 100000 in
theorem isAct_of {H : Type} {enc : TypeId × Value → H} {W : World} {r : Reach} {b0 : Nat} {v : Value} {d : DataW H} {p : List MemPlace} {base : Nat} {spare held : _}
    (hv : Value.okWide Try.prog W r b0 38 v) (h : DataW.Trod enc Try.prog W base spare held 38 v d p) : ∃ b, IsAct W v b := by
  obtain ⟨cs, rfl, hsz⟩ := okWide_struct Try.underlying38 hv
  rw [act_cells.2.2.2.2] at hsz
  obtain ⟨fuel, hf⟩ := h
  obtain ⟨b, hb, hbc⟩ := act_of (cs := cs.toList) (by simpa using hsz) (by simpa [Value.cells] using hf)
  refine ⟨b, ?_, hbc⟩
  congr 1
  exact Array.toList_inj.1 hb
theorem Acts.below {W W' : World} {a : Option Addr} {l : List ActB} (h : Acts W a l) (hb : Below W.heap.size W W') : Acts W' a l := fun i hi => by
  obtain ⟨b, off, ha, hlt, hc⟩ := h i hi
  exact ⟨b, off, ha, Nat.lt_of_lt_of_le hlt hb.size, fun j hj => (hb.cell (p := ⟨b, off + (i * 6 + j), none⟩) hlt).trans (hc j hj)⟩
end Dsk
end Go.Proofs.Yteaikleofboknaa
end
section
namespace Go.Proofs.Yteaikleofboknaa
open Go.RowKit Go.Great Go.Maps
namespace Dsk
def Few3 (b : ActB) : Prop := b.a.name.length ≤ 40 ∧ b.a.arg.length ≤ 200 ∧ b.a.keep.length ≤ 20
theorem ActIs.few {W : World} {b : ActB} (h : ActIs W b) (h3 : Few3 b) : Few b.a := ⟨h3.1, h3.2.1, h3.2.2, h.came.n⟩
set_option maxRecDepth 100000 in
set_option maxHeartbeats 4000000 in
theorem small_any (w : World) (a : Option Addr) (cap : Nat) (l : List ActB) (hl : l.length ≤ maxLen) (ha : Acts w a l) (most : Nat) (hm : most ≤ 1000) : Calls Try.prog 18 #[.slice a l.length cap, .int .i64 most] w fun e w' => (∃ r, e = .returned (.bool r) ∧ (r = true → l.length ≤ most ∧ ∀ i, i < l.length → Few3 (l.getD i noA))) ∧ Below w.heap.size w w' := by
  unfold maxLen at hl
  have HA := Lib.hid ha
  clear ha
  obtain ⟨L, hL⟩ : ∃ L, Hid (l.length = L) := ⟨_, rfl⟩
  rw [hL.out] at hl ⊢
  go_enter Try.func18, Try.ntmps18
  go_wp2
  go_loopw [5] (fun v wr => ∃ k : Nat, v = .int .i64 (k : Int) ∧ k ≤ L ∧ k ≤ most ∧ Hid (∀ i, i < k → Few3 (l.getD i noA)) ∧ wr = w) (fun v _ => L - (intOf v).toNat)
  case atStart => exact ⟨0, rfl, by omega, by omega, fun i hi => absurd hi (Nat.not_lt_zero i), rfl⟩
  case round =>
    obtain ⟨k, rfl, hk, hkm, HF, rfl⟩ := hrel
    by_cases hkl : k < L
    · have dk : decide ((k : Int) < (L : Int)) = true := decide_eq_true (by omega)
      by_cases hkm2 : k < most
      · have dm : decide ((k : Int) < (most : Int)) = true := decide_eq_true (by omega)
        obtain ⟨b, off, rfl, hb, hc⟩ := HA.out k (by rw [hL.out]; exact hkl)
        have c2 := hc 2 (by decide)
        have c3 := hc 3 (by decide)
        have c5 := hc 5 (by decide)
        obtain ⟨x, hx⟩ : ∃ x, Hid (l.getD k noA = x) := ⟨_, rfl⟩
        rw [hx.out] at c2 c3 c5
        obtain ⟨⟨kind, nn, name, arg, half, keep⟩, ka, kc⟩ := x
        simp [ActB.val] at c2 c3 c5
        rw [← Nat.add_assoc] at c2 c3 c5
        have s1 : (ByteArray.mk name.toArray).size = name.length := by show name.toArray.size = _; rw [List.size_toArray]
        have s2 : (ByteArray.mk arg.toArray).size = arg.length := by show arg.toArray.size = _; rw [List.size_toArray]
        clear hc
        by_cases q1 : 40 < name.length
        · have e1 : decide ((40 : Int) < (name.length : Int)) = true := decide_eq_true (by omega)
          go_wp2
          go_ret
          exact ⟨⟨false, rfl, fun h => by cases h⟩, Below.refl _ _⟩
        · have e1 : decide ((40 : Int) < (name.length : Int)) = false := decide_eq_false (by omega)
          by_cases q2 : 200 < arg.length
          · have e2 : decide ((200 : Int) < (arg.length : Int)) = true := decide_eq_true (by omega)
            go_wp2
            go_ret
            exact ⟨⟨false, rfl, fun h => by cases h⟩, Below.refl _ _⟩
          · have e2 : decide ((200 : Int) < (arg.length : Int)) = false := decide_eq_false (by omega)
            by_cases q3 : 20 < keep.length
            · have e3 : decide ((20 : Int) < (keep.length : Int)) = true := decide_eq_true (by omega)
              go_wp2
              go_ret
              exact ⟨⟨false, rfl, fun h => by cases h⟩, Below.refl _ _⟩
            · have e3 : decide ((20 : Int) < (keep.length : Int)) = false := decide_eq_false (by omega)
              have HN : Hid (∀ i, i < k + 1 → Few3 (l.getD i noA)) := fun i hi => by
                by_cases hik : i = k
                · subst hik
                  rw [hx.out]
                  exact ⟨by show name.length ≤ 40; omega, by show arg.length ≤ 200; omega, by show keep.length ≤ 20; omega⟩
                · exact HF.out i (by omega)
              go_wp2
              go_roundw
              case rel => exact ⟨k + 1, by go_num, by omega, by omega, HN, by first | rfl | trivial⟩
              case measure => simp [intOf]; omega
      · have dm : decide ((k : Int) < (most : Int)) = false := decide_eq_false (by omega)
        have dl : decide ((L : Int) ≤ (most : Int)) = false := decide_eq_false (by omega)
        have hlm : ¬ L ≤ most := by omega
        have dl2 : decide (L ≤ most) = false := decide_eq_false hlm
        go_wp2
        go_ret
        exact ⟨⟨false, rfl, fun h => by cases h⟩, Below.refl _ _⟩
    · have dk : decide ((k : Int) < (L : Int)) = false := decide_eq_false (by omega)
      have hkL : k = L := by omega
      by_cases hlm : L ≤ most
      · have dl : decide ((L : Int) ≤ (most : Int)) = true := decide_eq_true (by omega)
        go_wp2
        go_ret
        exact ⟨⟨true, rfl, fun _ => ⟨hlm, fun i hi => HF.out i (by omega)⟩⟩, Below.refl _ _⟩
      · have dl : decide ((L : Int) ≤ (most : Int)) = false := decide_eq_false (by omega)
        go_wp2
        go_ret
        exact ⟨⟨false, rfl, fun h => by cases h⟩, Below.refl _ _⟩
end Dsk
end Go.Proofs.Yteaikleofboknaa
end
