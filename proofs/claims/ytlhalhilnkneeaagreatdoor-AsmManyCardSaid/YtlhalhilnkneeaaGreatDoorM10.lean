/- Texts put together: FrmW3. -/
import Derived.Test.YtlhalhilnkneeaaGreatDoorM09
import Derived.Test.YtlhalhilnkneeaaGreatDoorM02
import Derived.BigQuiet
import Derived.Deep.QuietTactic
set_option linter.all false
section
set_option maxRecDepth 100000
namespace Go.Proofs.YtlhalhilnkneeaaGreatDoor
open Go.RowKit
namespace Frm
open Crc (sum sum_any refSum_any)
open In (strVals Strs)
theorem first_yes (s : ByteArray) (hm : s.size ≤ maxLen) (r : List UInt8) (h : first s.data.toList = some r) (w : World) :
    Calls Tryz.prog 77 #[.string s] w fun e w' => e = .returned (.tuple #[.string ⟨r.toArray⟩, .bool true]) ∧ Below w.heap.size w w' := by
  have h8 : 8 ≤ s.size := by
    rcases Nat.lt_or_ge s.size 8 with h8 | h8
    · rw [first_short (by simp; omega)] at h; cases h
    · exact h8
  exact (first_long s h8 hm w).mono fun e w' ⟨he, hb⟩ => ⟨by unfold firstOf at he; rw [h] at he; exact he, hb⟩
theorem first_no (s : ByteArray) (hm : s.size ≤ maxLen) (h : first s.data.toList = none) (w : World) :
    Calls Tryz.prog 77 #[.string s] w fun e w' => (∃ t, e = .returned (.tuple #[.string t, .bool false])) ∧ Below w.heap.size w w' := by
  rcases Nat.lt_or_ge s.size 8 with h8 | h8
  · exact (first_short_walk s h8 w).mono fun e w' ⟨he, hw⟩ => ⟨⟨_, he⟩, by rw [← hw]; exact Below.refl _ _⟩
  · exact (first_long s h8 hm w).mono fun e w' ⟨he, hb⟩ => ⟨by unfold firstOf at he; rw [h] at he; exact he, hb⟩
theorem below_dNq {B : Nat} {a w : World} (h : Below B a w) (n : Nat) : Below B a (w.drewN n) := ⟨h.os, h.tape, h.output, h.size, h.block⟩
def strs (l : List ByteArray) : List (List UInt8) := l.map fun s => s.data.toList
/-- What Scan answers. -/
def ScanPost (w : World) (l : List UInt8) (e : Ending) (w' : World) : Prop :=
  ∃ (v : Value) (outs : List ByteArray), e = .returned (.tuple #[v, .int .i64 ((scan l).2 : Int)]) ∧ strs outs = (scan l).1 ∧ w'.ownsRow w.heap.size 9 1 v outs.length (strVals outs) ∧ Below w.heap.size w w'
/-- So far, and what is left. -/
def At (l : List UInt8) (at_ : Nat) (outs : List ByteArray) : Prop :=
  at_ ≤ l.length ∧ outs.length ≤ at_ ∧ (scan l).1 = strs outs ++ (scan (l.drop at_)).1 ∧ (scan l).2 = at_ + (scan (l.drop at_)).2
theorem At.start (l : List UInt8) : At l 0 [] := ⟨Nat.zero_le _, Nat.zero_le _, by simp [strs], by simp⟩
theorem At.stop {l : List UInt8} {at_ : Nat} {outs : List ByteArray} (h : At l at_ outs) (hf : first (l.drop at_) = none) : strs outs = (scan l).1 ∧ (scan l).2 = at_ := by
  obtain ⟨_, _, h1, h2⟩ := h
  rw [scan_none hf] at h1 h2
  exact ⟨by rw [h1]; simp, by rw [h2]; simp⟩
theorem At.next {l r : List UInt8} {at_ : Nat} {outs : List ByteArray} (h : At l at_ outs) (hf : first (l.drop at_) = some r) : At l (at_ + (8 + r.length)) (outs ++ [⟨r.toArray⟩]) := by
  obtain ⟨h0, hl, h1, h2⟩ := h
  obtain ⟨hs, hle, _⟩ := scan_some hf
  rw [List.length_drop] at hle
  refine ⟨by omega, by simp; omega, ?_, ?_⟩
  · rw [h1, hs, List.drop_drop]; simp [strs]
  · rw [h2, hs, List.drop_drop]; simp only; omega
theorem sinfo : (Tryz.prog.info? 9).map (fun i => (i.zero, i.size, i.bytes)) = some (some (.string ⟨#[]⟩), 1, 16) := by kernel_rfl
set_option maxHeartbeats 1000000 in
theorem scan_any (s : ByteArray) (hm : s.size ≤ 1000000000) (w : World) :
    Calls Tryz.prog 37 #[.string s] w (ScanPost w s.data.toList) := by
  obtain ⟨i0, hi, hz0, hz1, hz2⟩ := info_parts sinfo
  go_enter Tryz.func37, Tryz.ntmps37
  go_wp2
  go_loopw [4, 5] (fun v i wr => ∃ (k : Nat) (outs : List ByteArray), i = .int .i64 k ∧ Hid (At s.data.toList k outs) ∧ Hid (wr.ownsRow w.heap.size 9 1 v outs.length (strVals outs)) ∧ Hid (Below w.heap.size w wr)) (fun _ i _ => s.size - (intOf i).toNat)
  case atStart => exact ⟨0, [], rfl, At.start _, World.ownsRow_nil _ _ _ _, Below.refl _ _⟩
  case round =>
    obtain ⟨k, outs, rfl, HA, HO, HB⟩ := hrel
    have hk : k ≤ s.size := by have := HA.out.1; simpa using this
    have ho : outs.length ≤ k := HA.out.2.1
    have hX : Hid ((s.extract k s.size).data.toList = s.data.toList.drop k) := by
      show _ = _
      rw [ByteArray.data_extract]
      simp
      rw [List.take_of_length_le (by simp)]
    have hXm : (s.extract k s.size).size ≤ maxLen := by unfold maxLen; simp; omega
    cases hf : first (s.data.toList.drop k) with
    | none =>
      have hf' : first (s.extract k s.size).data.toList = none := by rw [hX.out]; exact hf
      have FN := Lib.hid (first_no _ hXm hf')
      have ST := Lib.hid (HA.out.stop hf)
      clear hf hf' hXm
      go_wp2_with (go_at_call 77; ((with_reducible refine (FN.out _).mono ?_); rintro e w1 ⟨⟨t, rfl⟩, hb1⟩))
      go_ret2
      exact ⟨_, outs, by rw [ST.out.2]; rfl, ST.out.1, Own.own_below HO.out hb1, below2 HB.out hb1⟩
    | some r =>
      have hf' : first (s.extract k s.size).data.toList = some r := by rw [hX.out]; exact hf
      have FY := Lib.hid (first_yes _ hXm r hf')
      have hr : k + (8 + r.length) ≤ s.size := by
        have := (scan_some hf).2.1
        rw [List.length_drop] at this
        simp at this
        omega
      have NX := Lib.hid (HA.out.next hf)
      have hrl : (⟨r.toArray⟩ : ByteArray).size = r.length := by simp [ByteArray.size]
      clear hf hf' hXm
      go_wp2_with (first
        | (go_at_call 77; ((with_reducible refine (FY.out _).mono ?_); rintro e w1 ⟨rfl, hb1⟩))
        | (at_builtin; refine Own.list_one rfl (.tmp 19) (.tmp 21) 46 rfl w.heap.size 9 i0 _ 16 Tryz.underlying46 hi hz0 hz1 hz2 rfl _ outs.length _ rfl _ _ _ rfl ((Own.own_below HO.out hb1).alloc _) (Own.cell_new _ _ _) rfl ?h1 ?h2 ?h3 ?_; (case h1 => unfold maxLen; omega); (case h2 => omega); (case h3 => have := HB.out.size; have := hb1.size; simp; omega); intro v' w2 hown2 hgrow2))
      have hb2 := (((below2 HB.out hb1).alloc (below2 HB.out hb1).size _)).grown hgrow2 (by have := (below2 HB.out hb1).size; simp; omega) (Own.own_block HO.out (Nat.le_refl _))
      have hown3 : Hid (w2.ownsRow w.heap.size 9 1 v' (outs ++ [(⟨r.toArray⟩ : ByteArray)]).length (strVals (outs ++ [(⟨r.toArray⟩ : ByteArray)]))) := by
        show World.ownsRow _ _ _ _ _ _ _
        simpa [strVals] using hown2
      have HB2 := Lib.hid hb2
      clear hown2 hgrow2 hb2
      go_roundw
      case rel => exact ⟨k + (8 + r.length), outs ++ [⟨r.toArray⟩], by go_num, NX, hown3, HB2⟩
      case measure => simp [intOf]; omega
theorem below_al {w x : World} (h : Below w.heap.size w x) (o : Obj) : Below w.heap.size w (x.alloc o) := h.alloc h.size o
theorem neq_str (a b : ByteArray) : (a.toList == b.toList) = decide (a = b) := by
  rw [ByteArray.toList_eq, ByteArray.toList_eq, Bool.eq_iff_iff]
  simp [ByteArray.ext_iff]
set_option maxHeartbeats 1000000 in
theorem refScan_any (s : ByteArray) (hm : s.size ≤ 1000000000) (w : World) :
    Calls Tryz.prog 42 #[.string s] w (ScanPost w s.data.toList) := by
  obtain ⟨i0, hi, hz0, hz1, hz2⟩ := info_parts sinfo
  have hlen : s.data.toList.length = s.size := by simp
  go_enter Tryz.func42, Tryz.ntmps42
  go_wp2
  go_loopw [4, 5] (fun v i wr => ∃ (k : Nat) (outs : List ByteArray), i = .int .i64 k ∧ Hid (At s.data.toList k outs) ∧ Hid (wr.ownsRow w.heap.size 9 1 v outs.length (strVals outs)) ∧ Hid (Below w.heap.size w wr)) (fun _ i _ => s.size - (intOf i).toNat)
  case atStart => exact ⟨0, [], rfl, At.start _, World.ownsRow_nil _ _ _ _, Below.refl _ _⟩
  case round =>
    obtain ⟨k, outs, rfl, HA, HO, HB⟩ := hrel
    have hk : k ≤ s.size := by have := HA.out.1; omega
    have ho : outs.length ≤ k := HA.out.2.1
    by_cases hlt : k + 8 < s.size
    · obtain ⟨b0, b1, b2, b3, b4, b5, b6, b7, t, hs⟩ := eight (s.data.toList.drop k) (by simp; omega)
      have hget : ∀ j (h : k + j < s.size) (b : UInt8), (s.data.toList.drop k)[j]? = some b → s[k + j] = b := by
        intro j h b hb
        rw [List.getElem?_drop] at hb
        obtain ⟨_, e⟩ := List.getElem?_eq_some_iff.1 hb
        exact e
      have h80 : b0.toNat < 256 := b0.toNat_lt
      have h81 : b1.toNat < 256 := b1.toNat_lt
      have h82 : b2.toNat < 256 := b2.toNat_lt
      have h83 : b3.toNat < 256 := b3.toNat_lt
      clear hlen
      go_wp2
      go_loop [6, 7] (fun n i => ∃ j : Nat, j ≤ 4 ∧ i = .int .i64 j ∧ n = .int .i64 ((num ([b0, b1, b2, b3].take j) : Nat) : Int)) (fun _ i => 4 - (intOf i).toNat)
      case atStart => exact ⟨0, by omega, rfl, rfl⟩
      case round =>
        obtain ⟨j, hj4, rfl, rfl⟩ := hrel
        by_cases hlt4 : j < 4
        · match j, hlt4 with
          | 0, _ =>
            have hj := or_join (num ([b0, b1, b2, b3].take 0)) b0 (by simp [num]; try omega)
            have hn : Hid ((num ([b0, b1, b2, b3].take 1) : Nat) = num ([b0, b1, b2, b3].take 0) * 256 + b0.toNat) := rfl
            have hlo : ((num ([b0, b1, b2, b3].take 0) : Nat) : Int) ≤ 0 := by simp [num]; try omega
            have hix : s[k]'(by omega) = b0 := hget 0 (by omega) _ (by rw [hs]; rfl)
            generalize num ([b0, b1, b2, b3].take 0) = n at hj hn hlo ⊢
            clear hs hget
            go_wp2
            go_round
            case rel => exact ⟨1, by omega, rfl, congrArg (Value.int .i64) (by rw [hn.out]; omega)⟩
            case measure => simp [intOf]
          | 1, _ =>
            have hj := or_join (num ([b0, b1, b2, b3].take 1)) b1 (by simp [num]; try omega)
            have hn : Hid ((num ([b0, b1, b2, b3].take 2) : Nat) = num ([b0, b1, b2, b3].take 1) * 256 + b1.toNat) := rfl
            have hlo : ((num ([b0, b1, b2, b3].take 1) : Nat) : Int) ≤ 255 := by simp [num]; try omega
            have hx0 : (0 : Int) ≤ (k : Int) + 1 := by omega
            have hx1 : (k : Int) + 1 < (s.size : Int) := by omega
            have hix : s[k + 1]'(by omega) = b1 := hget 1 (by omega) _ (by rw [hs]; rfl)
            generalize num ([b0, b1, b2, b3].take 1) = n at hj hn hlo ⊢
            clear hs hget
            go_wp2
            go_round
            case rel => exact ⟨2, by omega, rfl, congrArg (Value.int .i64) (by rw [hn.out]; omega)⟩
            case measure => simp [intOf]
          | 2, _ =>
            have hj := or_join (num ([b0, b1, b2, b3].take 2)) b2 (by simp [num]; try omega)
            have hn : Hid ((num ([b0, b1, b2, b3].take 3) : Nat) = num ([b0, b1, b2, b3].take 2) * 256 + b2.toNat) := rfl
            have hlo : ((num ([b0, b1, b2, b3].take 2) : Nat) : Int) ≤ 65535 := by simp [num]; try omega
            have hx0 : (0 : Int) ≤ (k : Int) + 2 := by omega
            have hx1 : (k : Int) + 2 < (s.size : Int) := by omega
            have hix : s[k + 2]'(by omega) = b2 := hget 2 (by omega) _ (by rw [hs]; rfl)
            generalize num ([b0, b1, b2, b3].take 2) = n at hj hn hlo ⊢
            clear hs hget
            go_wp2
            go_round
            case rel => exact ⟨3, by omega, rfl, congrArg (Value.int .i64) (by rw [hn.out]; omega)⟩
            case measure => simp [intOf]
          | 3, _ =>
            have hj := or_join (num ([b0, b1, b2, b3].take 3)) b3 (by simp [num]; try omega)
            have hn : Hid ((num ([b0, b1, b2, b3].take 4) : Nat) = num ([b0, b1, b2, b3].take 3) * 256 + b3.toNat) := rfl
            have hlo : ((num ([b0, b1, b2, b3].take 3) : Nat) : Int) ≤ 16777215 := by simp [num]; try omega
            have hx0 : (0 : Int) ≤ (k : Int) + 3 := by omega
            have hx1 : (k : Int) + 3 < (s.size : Int) := by omega
            have hix : s[k + 3]'(by omega) = b3 := hget 3 (by omega) _ (by rw [hs]; rfl)
            generalize num ([b0, b1, b2, b3].take 3) = n at hj hn hlo ⊢
            clear hs hget
            go_wp2
            go_round
            case rel => exact ⟨4, by omega, rfl, congrArg (Value.int .i64) (by rw [hn.out]; omega)⟩
            case measure => simp [intOf]
        · have : j = 4 := by omega
          subst this
          have h4 : Hid (num ([b0, b1, b2, b3].take 4) = num ((s.data.toList.drop k).take 4)) := by show num _ = _; rw [hs]; rfl
          have hlo : ((num ([b0, b1, b2, b3].take 4) : Nat) : Int) ≤ 4294967295 := by simp [num]; omega
          generalize num ([b0, b1, b2, b3].take 4) = n at h4 hlo ⊢
          have hXl : (s.data.toList.drop k).length = s.size - k := by simp
          have h8n : ¬ (s.data.toList.drop k).length < 8 := by omega
          cases hf : fits n
          · have hfo : first (s.data.toList.drop k) = none := by
              unfold first
              rw [if_neg h8n, ← h4.out, hf]
              rfl
            have ST := Lib.hid (HA.out.stop hfo)
            have hnf := of_decide_eq_false hf
            clear hfo hf hs hXl h8n hget
            by_cases hn1 : (n : Int) < 1
            · clear hnf
              go_wp2
              go_ret2
              exact ⟨_, outs, by rw [ST.out.2]; rfl, ST.out.1, HO.out, HB.out⟩
            · have hn2 : (4096 : Int) < (n : Int) := by omega
              have hn1' : decide ((n : Int) < 1) = false := decide_eq_false hn1
              clear hnf
              go_wp2
              go_ret2
              exact ⟨_, outs, by rw [ST.out.2]; rfl, ST.out.1, HO.out, HB.out⟩
          · obtain ⟨hf1, hf2⟩ := of_decide_eq_true hf
            have hn1 : ¬ (n : Int) < 1 := by omega
            have hn1' : decide ((n : Int) < 1) = false := decide_eq_false hn1
            have hn2 : ¬ (4096 : Int) < (n : Int) := by omega
            have hn2' : decide ((4096 : Int) < (n : Int)) = false := decide_eq_false hn2
            by_cases hgt : (s.size : Int) - (k : Int) - 8 < (n : Int)
            · have hfo : first (s.data.toList.drop k) = none := by
                unfold first
                rw [if_neg h8n, ← h4.out, hf, if_neg (by simp; omega)]
              have ST := Lib.hid (HA.out.stop hfo)
              clear hfo hf hs hXl h8n hget hf1 hf2
              go_wp2
              go_ret2
              exact ⟨_, outs, by rw [ST.out.2]; rfl, ST.out.1, HO.out, HB.out⟩
            · have hgt' : decide ((s.size : Int) - (k : Int) - 8 < (n : Int)) = false := decide_eq_false hgt
              have hr : (s.extract (k + 8) (k + 8 + n)).data.toList = ((s.data.toList.drop k).drop 8).take n := by
                rw [ByteArray.data_extract]; simp
              have hy : (s.extract k (k + 8 + n)).data.toList = (s.data.toList.drop k).take 8 ++ ((s.data.toList.drop k).drop 8).take n := by
                rw [ByteArray.data_extract]
                rw [← List.take_add]
                simp [Nat.add_assoc]
              have hrs : (s.extract (k + 8) (k + 8 + n)).size = n := by simp; omega
              have hsl1 := Own.slice_str (P := Tryz.prog) Tryz.underlying9 s (k + 8) (k + 8 + n) ((k : Int) + 8) ((k : Int) + 8 + (n : Int)) (by omega) (by omega) (by omega) (by omega)
              have hsl2 := Own.slice_str (P := Tryz.prog) Tryz.underlying9 s k (k + 8 + n) (k : Int) ((k : Int) + 8 + (n : Int)) (by omega) (by omega) (by omega) (by omega)
              have hc : (fits (num ((s.data.toList.drop k).take 4)) && decide (num ((s.data.toList.drop k).take 4) ≤ (s.data.toList.drop k).length - 8)) = true := by rw [← h4.out, hf]; simp; omega
              have hfo : first (s.data.toList.drop k) = if (⟨(put (s.extract (k + 8) (k + 8 + n)).data.toList).toArray⟩ : ByteArray) = s.extract k (k + 8 + n) then some (s.extract (k + 8) (k + 8 + n)).data.toList else none := by
                unfold first
                rw [if_neg h8n, if_pos hc, ← h4.out, ← hr]
                have : (⟨(put (s.extract (k + 8) (k + 8 + n)).data.toList).toArray⟩ : ByteArray) = s.extract k (k + 8 + n) ↔ hd (s.extract (k + 8) (k + 8 + n)).data.toList = (s.data.toList.drop k).take 8 := by
                  rw [ByteArray.ext_iff, ← Array.toList_inj, hy, ← hr, put]
                  exact List.append_left_inj _
                by_cases hq : hd (s.extract (k + 8) (k + 8 + n)).data.toList = (s.data.toList.drop k).take 8
                · rw [if_pos hq, if_pos (this.2 hq)]
                · rw [if_neg hq, if_neg (fun h => hq (this.1 h))]
              have HFO := Lib.hid hfo
              have hfr : fits (s.extract (k + 8) (k + 8 + n)).size = true := by rw [hrs]; exact hf
              have PY := Lib.hid (refPut_yes _ hfr)
              clear hfo hc hf hs hXl h8n hget hf1 hf2 hr hy hfr
              generalize s.extract (k + 8) (k + 8 + n) = R at *
              generalize s.extract k (k + 8 + n) = Y at *
              generalize hPB : (⟨(put R.data.toList).toArray⟩ : ByteArray) = PB at *
              have HPB := Lib.hid hPB
              clear hPB
              by_cases hq : PB = Y
              · have hbeq : (PB.toList == Y.toList) = true := by rw [neq_str]; simp [hq]
                have hfo := HFO.out
                rw [if_pos hq] at hfo
                have NX := Lib.hid (HA.out.next hfo)
                have hRl : R.data.toList.length = R.size := by simp
                have hR2 : (⟨R.data.toList.toArray⟩ : ByteArray) = R := rfl
                rw [hRl, hR2] at NX
                clear hq hfo hRl hR2
                go_wp2_with (first
                  | (go_at_call 90; ((with_reducible refine (PY.out _).mono ?_); rintro e w1 ⟨rfl, hb1⟩))
                  | (at_builtin; refine Own.list_one rfl (.tmp 66) (.tmp 68) 46 rfl w.heap.size 9 i0 _ 16 Tryz.underlying46 hi hz0 hz1 hz2 rfl _ outs.length _ rfl _ _ _ rfl ((Own.own_below HO.out hb1).alloc _) (Own.cell_new _ _ _) rfl ?h1 ?h2 ?h3 ?_; (case h1 => unfold maxLen; omega); (case h2 => omega); (case h3 => have := HB.out.size; have := hb1.size; simp; omega); intro v' w2 hown2 hgrow2))
                have hb2 := (((below2 HB.out hb1).alloc (below2 HB.out hb1).size _)).grown hgrow2 (by have := (below2 HB.out hb1).size; simp; omega) (Own.own_block HO.out (Nat.le_refl _))
                have hown3 : Hid (w2.ownsRow w.heap.size 9 1 v' (outs ++ [R]).length (strVals (outs ++ [R]))) := by
                  show World.ownsRow _ _ _ _ _ _ _
                  simpa [strVals] using hown2
                have HB2 := Lib.hid hb2
                clear hown2 hgrow2 hb2
                go_roundw
                case rel => exact ⟨k + (8 + R.size), outs ++ [R], by rw [hrs]; exact congrArg (Value.int .i64) (by omega), NX, hown3, HB2⟩
                case measure => simp [intOf]; omega
              · have hbeq : (PB.toList == Y.toList) = false := by rw [neq_str]; simp [hq]
                have hfo := HFO.out
                rw [if_neg hq] at hfo
                have ST := Lib.hid (HA.out.stop hfo)
                clear hq hfo
                go_wp2_with (go_at_call 90; ((with_reducible refine (PY.out _).mono ?_); rintro e w1 ⟨rfl, hb1⟩))
                go_ret2
                exact ⟨_, outs, by rw [ST.out.2]; rfl, ST.out.1, Own.own_below HO.out hb1, below2 HB.out hb1⟩
    · have ST := Lib.hid (HA.out.stop (first_short (by simp; omega)))
      go_wp2
      go_ret2
      exact ⟨_, outs, by rw [ST.out.2]; rfl, ST.out.1, HO.out, HB.out⟩
/-- Are lists of texts the same? -/
def same (l m : List ByteArray) : Bool := decide (l = m)
end Frm
end Go.Proofs.YtlhalhilnkneeaaGreatDoor
end
