/- Texts put together: AsmA, RepP, RepT, RepI, OrdV, RepV, RepN. -/
import Derived.Test.YtlhalhilnkneeaaGreatDoorM11
import Derived.Test.YtlhalhilnkneeaaGreatDoorM04
import Derived.Test.YtlhalhilnkneeaaGreatDoorM01
import Derived.Lib.ItoaNum
import Derived.Lib.ItoaLen
import Derived.Test.YtlhalhilnkneeaaGreatDoorM05
import Derived.Test.YtlhalhilnkneeaaGreatDoorM02
import Derived.Test.YtlhalhilnkneeaaGreatDoorM03
import Derived.Test.YtlhalhilnkneeaaGreatDoorM00
import Derived.Great.Walk
import Derived.Lib.Hide
import Derived.BigQuiet
import Derived.Lib.SlicesS
import Derived.Lib.Fields
set_option linter.all false
section
set_option maxRecDepth 100000
namespace Go.Proofs.YtlhalhilnkneeaaGreatDoor
open Go.RowKit Go.Great
namespace Asm
open Pen (bs)
open In (strVals Strs)
open Frm (rows)
open Rec (below2 below_al below_dN Stk Stks stkVals)
open Cmd (Gives)
/-- The parts so far, and the one under way. -/
def splitA (b : UInt8) (st : List (List UInt8) × List UInt8) (x : UInt8) : List (List UInt8) × List UInt8 := if x = b then (st.1 ++ [st.2], []) else (st.1, st.2 ++ [x])
theorem splitA_end (b : UInt8) : ∀ (l : List UInt8) (d : List (List UInt8)) (p : List UInt8), b ∉ p → (l.foldl (splitA b) (d, p)).1 ++ [(l.foldl (splitA b) (d, p)).2] = d ++ splitL b (p ++ l)
  | [], d, p, h => by rw [List.append_nil, splitL_not b p h]; rfl
  | x :: l, d, p, h => by
    rw [List.foldl_cons]
    by_cases e : x = b
    · subst e
      have h2 : splitA x (d, p) x = (d ++ [p], []) := if_pos rfl
      rw [h2, splitA_end x l (d ++ [p]) [] (by simp), splitL_more x l p h]
      simp
    · have h2 : splitA b (d, p) x = (d, p ++ [x]) := if_neg e
      rw [h2, splitA_end b l d (p ++ [x]) (by simp; exact ⟨h, fun e2 => e e2.symm⟩)]
      simp
def splitT (b : UInt8) (l : List UInt8) : List (List UInt8) × List UInt8 := l.foldl (splitA b) ([], [])
theorem splitT_end (b : UInt8) (l : List UInt8) : (splitT b l).1 ++ [(splitT b l).2] = splitL b l := by
  have := splitA_end b l [] [] (by simp)
  unfold splitT
  simpa using this
theorem splitT_next (b : UInt8) (s : ByteArray) (k : Nat) (h : k < s.size) : splitT b (s.data.toList.take (k + 1)) = splitA b (splitT b (s.data.toList.take k)) s[k] := by
  have e : s.data.toList.take (k + 1) = s.data.toList.take k ++ [s[k]] := by
    rw [List.take_add_one, List.getElem?_eq_getElem (by simpa using h)]
    rfl
  unfold splitT
  rw [e, List.foldl_append]
  rfl
theorem splitA_len (b : UInt8) (st : List (List UInt8) × List UInt8) (x : UInt8) : (splitA b st x).1.length + (splitA b st x).2.length ≤ st.1.length + st.2.length + 1 := by
  unfold splitA
  split <;> simp <;> omega
theorem splitT_len (b : UInt8) : ∀ (l : List UInt8) (st : List (List UInt8) × List UInt8), (l.foldl (splitA b) st).1.length + (l.foldl (splitA b) st).2.length ≤ st.1.length + st.2.length + l.length
  | [], st => Nat.le_refl _
  | x :: l, st => by
    have h1 := splitT_len b l (splitA b st x)
    have h2 := splitA_len b st x
    rw [List.foldl_cons, List.length_cons]
    omega
theorem one_byte (s : ByteArray) (k : Nat) (h : k < s.size) : s.extract k (k + 1) = bs [s[k]] := by
  apply ByteArray.ext
  apply Array.ext
  · simp [bs]; omega
  · intro i h1 h2
    have : i = 0 := by simp [bs] at h2; omega
    subst this
    simp [bs]
    rfl
theorem bs_snoc (l : List UInt8) (x : UInt8) : bs l ++ bs [x] = bs (l ++ [x]) := (Pen.bs_append l [x]).symm
theorem own_base {W : World} {b b' : Nat} {e : TypeId} {k : Nat} {v : Value} {n : Nat} {xs : List Value} (h : W.ownsRow b e k v n xs) (hb : b' ≤ b) : W.ownsRow b' e k v n xs := by
  rcases h with ⟨h1, h2 | ⟨g, c, cur, h3, h4, h5⟩⟩
  · exact ⟨h1, Or.inl h2⟩
  · exact ⟨h1, Or.inr ⟨g, c, cur, h3, Nat.le_trans hb h4, h5⟩⟩
/-- A row of texts of one's own is what a call gives. -/
theorem gives_of {w w' : World} {v : Value} {F : List ByteArray} (h : w'.ownsRow w.heap.size 9 1 v F.length (strVals F)) (hb : Below w.heap.size w w') : Gives F w (.returned v) w' := by
  obtain ⟨a, cap, rfl, hs⟩ := In.strs_of_own h
  refine ⟨a, cap, rfl, hs, hb, fun x hx => ?_⟩
  subst hx
  exact (h.lt x.block rfl).1
set_option maxHeartbeats 2000000 in
theorem refSplit_any (s : ByteArray) (b : UInt8) (hs : s.size ≤ 1000000) (w : World) : Calls Tryz.prog 28 #[.string s, .int .u8 b.toNat] w (Gives (rows (splitL b s.data.toList)) w) := by
  obtain ⟨i0, hi, hz0, hz1, hz2⟩ := info_parts Frm.sinfo
  have hlen : s.data.toList.length = s.size := by simp
  obtain ⟨B, hB⟩ : ∃ B : Int, Hid ((b.toNat : Int) = B) := ⟨_, rfl⟩
  rw [hB.out]
  go_enter Tryz.func28, Tryz.ntmps28
  go_wp2
  go_loopw [5, 6, 7] (fun v5 v6 v7 wr => ∃ k : Nat, k ≤ s.size ∧ v7 = .int .i64 (k : Int) ∧ v6 = .string (bs (splitT b (s.data.toList.take k)).2) ∧ Hid (wr.ownsRow w.heap.size 9 1 v5 (splitT b (s.data.toList.take k)).1.length (strVals (rows (splitT b (s.data.toList.take k)).1))) ∧ Hid (Below w.heap.size w wr)) (fun _ _ v7 _ => s.size - (intOf v7).toNat)
  case atStart => exact ⟨0, Nat.zero_le _, rfl, rfl, World.ownsRow_nil _ _ _ _, Below.refl _ _⟩
  case round =>
    obtain ⟨k, hk, rfl, rfl, HO, HB⟩ := hrel
    have hl := splitT_len b (s.data.toList.take k) ([], [])
    have hl2 : (splitT b (s.data.toList.take k)).1.length + (splitT b (s.data.toList.take k)).2.length ≤ k := by
      have : (s.data.toList.take k).length ≤ k := by simp; omega
      unfold splitT
      simp at hl ⊢
      omega
    clear hl
    by_cases hlt : k < s.size
    · have NX := Lib.hid (splitT_next b s k hlt)
      generalize splitT b (s.data.toList.take k) = ST at *
      obtain ⟨D, Q⟩ := ST
      dsimp only at HO hl2 ⊢
      have OB := Lib.hid (one_byte s k hlt)
      have dk : decide ((k : Int) < (s.size : Int)) = true := decide_eq_true (by omega)
      by_cases he : s[k] = b
      · have he1 : ((s[k].toNat : Int) == B) = true := by rw [← hB.out, he]; simp
        have he2 : (s[k].toNat : Int) = B := by rw [← hB.out, he]
        have ES := Lib.hid he
        clear he
        go_wp2_with (at_builtin; refine Own.list_one rfl (.tmp 19) (.tmp 21) 46 rfl w.heap.size 9 i0 _ 16 Tryz.underlying46 hi hz0 hz1 hz2 rfl _ _ _ rfl _ _ _ rfl (HO.out.alloc _) (Own.cell_new _ _ _) rfl ?h1 ?h2 ?h3 ?_; (case h1 => unfold maxLen; omega); (case h2 => omega); (case h3 => have := HB.out.size; simp; omega); intro v' w2 hown2 hgrow2)
        have hb2 := (HB.out.alloc HB.out.size _).grown hgrow2 (by have := HB.out.size; simp; omega) (Own.own_block HO.out (Nat.le_refl _))
        have hnx : splitT b (s.data.toList.take (k + 1)) = (D ++ [Q], []) := by rw [NX.out]; exact if_pos ES.out
        have hown3 : Hid (w2.ownsRow w.heap.size 9 1 v' (splitT b (s.data.toList.take (k + 1))).1.length (strVals (rows (splitT b (s.data.toList.take (k + 1))).1))) := by
          show World.ownsRow _ _ _ _ _ _ _
          rw [hnx]
          simpa [strVals, rows, bs] using hown2
        have HN := Lib.hid hnx
        have HB2 := Lib.hid hb2
        clear hown2 hgrow2 hb2 hnx
        go_roundw
        case rel => exact ⟨k + 1, by omega, by go_num, by rw [HN.out]; rfl, hown3, HB2⟩
        case measure => simp [intOf]; omega
      · have hne : ¬ (s[k].toNat : Int) = B := by
          rw [← hB.out]
          intro e
          exact he (UInt8.toNat_inj.1 (by omega))
        have he1 : ((s[k].toNat : Int) == B) = false := by simpa using hne
        have ES := Lib.hid he
        have hsm : ¬ 9223372036854775807 < (bs Q).size + 1 := by rw [Pen.bs_size]; omega
        clear he
        go_wp2
        have hnx : splitT b (s.data.toList.take (k + 1)) = (D, Q ++ [s[k]]) := by rw [NX.out]; exact if_neg ES.out
        have HN := Lib.hid hnx
        clear hnx
        go_roundw
        case rel => exact ⟨k + 1, by omega, by go_num, by rw [HN.out, OB.out, bs_snoc], by rw [HN.out]; exact HO.out, HB⟩
        case measure => simp [intOf]; omega
    · have hks : k = s.size := by omega
      have htk : s.data.toList.take k = s.data.toList := List.take_of_length_le (by rw [hlen]; omega)
      have EN := splitT_end b s.data.toList
      rw [htk] at HO hl2 ⊢
      generalize splitT b s.data.toList = ST at *
      obtain ⟨D, Q⟩ := ST
      dsimp only at HO hl2 ⊢
      have dk : decide ((k : Int) < (s.size : Int)) = false := decide_eq_false (by omega)
      have EN' := Lib.hid EN
      clear EN htk hks
      go_wp2_with (at_builtin; refine Own.list_one rfl (.tmp 30) (.tmp 32) 46 rfl w.heap.size 9 i0 _ 16 Tryz.underlying46 hi hz0 hz1 hz2 rfl _ _ _ rfl _ _ _ rfl (HO.out.alloc _) (Own.cell_new _ _ _) rfl ?h1 ?h2 ?h3 ?_; (case h1 => unfold maxLen; omega); (case h2 => omega); (case h3 => have := HB.out.size; simp; omega); intro v' w2 hown2 hgrow2)
      have hb2 := (HB.out.alloc HB.out.size _).grown hgrow2 (by have := HB.out.size; simp; omega) (Own.own_block HO.out (Nat.le_refl _))
      have hown3 : w2.ownsRow w.heap.size 9 1 v' (rows (splitL b s.data.toList)).length (strVals (rows (splitL b s.data.toList))) := by
        rw [← EN'.out]
        simpa [strVals, rows, bs] using hown2
      go_ret
      exact gives_of hown3 hb2
/-- A text cut at a byte: what the document answers. -/
def cutS (b : UInt8) (l : List UInt8) : List UInt8 × List UInt8 × Bool := match cutL b l with
  | some p => (p.1, p.2, true)
  | none => (l, [], false)
theorem cutS_at (b : UInt8) (s : ByteArray) (k : Nat) (h : k < s.size) (he : s[k] = b) (hn : b ∉ s.data.toList.take k) : cutS b s.data.toList = (s.data.toList.take k, s.data.toList.drop (k + 1), true) := by
  have e : s.data.toList = s.data.toList.take k ++ b :: s.data.toList.drop (k + 1) := by
    have h1 := List.take_append_drop k s.data.toList
    have h2 : s.data.toList.drop k = s[k] :: s.data.toList.drop (k + 1) := by
      rw [List.drop_eq_getElem_cons (by simpa using h)]
      rfl
    rw [h2, he] at h1
    exact h1.symm
  unfold cutS
  generalize hT : s.data.toList.take k = T at *
  generalize hD : s.data.toList.drop (k + 1) = D at *
  rw [e, cutL_at b D T hn]
theorem bs_of {s : ByteArray} {l : List UInt8} (h : s.data.toList = l) : s = bs l := by
  subst h
  exact (Lib.mk_data s).symm
theorem bs_take (s : ByteArray) (k : Nat) : s.extract 0 k = bs (s.data.toList.take k) := bs_of (Lib.extract_from_zero s k)
theorem bs_drop (s : ByteArray) (k : Nat) : s.extract k s.size = bs (s.data.toList.drop k) := bs_of (Lib.extract_to_end s k)
set_option maxHeartbeats 2000000 in
theorem refCut_any (s : ByteArray) (b : UInt8) (hs : s.size ≤ 1000000) (w : World) : Calls Tryz.prog 55 #[.string s, .int .u8 b.toNat] w fun e w' => e = .returned (.tuple #[.string (bs (cutS b s.data.toList).1), .string (bs (cutS b s.data.toList).2.1), .bool (cutS b s.data.toList).2.2]) ∧ Below w.heap.size w w' := by
  have hlen : s.data.toList.length = s.size := by simp
  obtain ⟨B, hB⟩ : ∃ B : Int, Hid ((b.toNat : Int) = B) := ⟨_, rfl⟩
  rw [hB.out]
  go_enter Tryz.func55, Tryz.ntmps55
  go_wp2
  go_loopw [7] (fun v7 wr => ∃ k : Nat, k ≤ s.size ∧ v7 = .int .i64 (k : Int) ∧ Hid (b ∉ s.data.toList.take k) ∧ wr = w) (fun v7 _ => s.size - (intOf v7).toNat)
  case atStart => exact ⟨0, Nat.zero_le _, rfl, (by show b ∉ _; simp), rfl⟩
  case round =>
    obtain ⟨k, hk, rfl, HN, rfl⟩ := hrel
    by_cases hlt : k < s.size
    · have dk : decide ((k : Int) < (s.size : Int)) = true := decide_eq_true (by omega)
      by_cases he : s[k] = b
      · have he1 : ((s[k].toNat : Int) == B) = true := by rw [← hB.out, he]; simp
        have he2 : (s[k].toNat : Int) = B := by rw [← hB.out, he]
        have CT := Lib.hid (cutS_at b s k hlt he HN.out)
        have T1 := Lib.hid (bs_take s k)
        have T2 := Lib.hid (bs_drop s (k + 1))
        clear he
        have g1 : ¬ (k : Int) < 0 := by omega
        have g2 : ¬ (s.size : Int) < (k : Int) := by omega
        have g3 : ¬ (k : Int) + 1 < 0 := by omega
        have g4 : ¬ (s.size : Int) < (k : Int) + 1 := by omega
        go_wp2
        go_quiet (fail)
        go_wp2
        go_ret3
        refine ⟨?_, below_dN (Below.refl _ _) _⟩
        rw [CT.out, ← T1.out, ← T2.out]
        rfl
      · have hne : ¬ (s[k].toNat : Int) = B := by
          rw [← hB.out]
          intro e
          exact he (UInt8.toNat_inj.1 (by omega))
        have he1 : ((s[k].toNat : Int) == B) = false := by simpa using hne
        have HN2 : Hid (b ∉ s.data.toList.take (k + 1)) := by
          show b ∉ _
          rw [List.take_add_one, List.getElem?_eq_getElem (by simpa using hlt)]
          intro hm
          rcases List.mem_append.1 hm with hm | hm
          · exact HN.out hm
          · simp at hm
            exact he hm.symm
        clear he
        go_wp2
        go_roundw
        case rel => exact ⟨k + 1, by omega, by go_num, HN2, trivial⟩
        case measure => simp [intOf]; omega
    · have dk : decide ((k : Int) < (s.size : Int)) = false := decide_eq_false (by omega)
      have CT : Hid (cutS b s.data.toList = (s.data.toList, [], false)) := by
        have := HN.out
        rw [List.take_of_length_le (by rw [hlen]; omega)] at this
        show cutS _ _ = _
        unfold cutS
        rw [cutL_not b _ this]
      go_wp2
      go_ret3
      refine ⟨?_, Below.refl _ _⟩
      rw [CT.out]
      rfl
theorem ref_in_any (a : Option Addr) (c : Nat) (l : List ByteArray) (n : Nat) (hn : l.length = n) (hl : n ≤ 1000000) (s : ByteArray) (w : World) (ha : Strs w a l) :
    Calls Tryz.prog 56 #[.slice a n c, .string s] w fun e w' => e = .returned (.bool (Cmd.isIn l s)) ∧ Below w.heap.size w w' := by
  have HA := Lib.hid ha
  have HL := Lib.hid hn
  clear ha hn
  go_enter Tryz.func56, Tryz.ntmps56
  go_wp2
  go_loopw [5] (fun i wr => ∃ k : Nat, k ≤ n ∧ i = .int .i64 k ∧ Hid (∀ j, j < k → l.getD j ByteArray.empty ≠ s) ∧ Hid (Below w.heap.size w wr)) (fun i _ => n - (intOf i).toNat)
  case atStart => exact ⟨0, by omega, rfl, fun j hj => by omega, Below.refl _ _⟩
  case round =>
    obtain ⟨k, hk, rfl, HP, hb⟩ := hrel
    by_cases hlt : k < n
    · obtain ⟨b, off, rfl, hbl, hc⟩ := (Strs.below HA.out hb.out) k (by rw [HL.out]; exact hlt)
      have hlt1 : (k : Int) < (n : Int) := by omega
      have hk0 : (0 : Int) ≤ k := by omega
      by_cases he : l.getD k ByteArray.empty = s
      · have q := Cmd.beq_yes he
        have HR : Hid (Cmd.isIn l s = true) := by
          show _ = _
          refine (Cmd.isIn_iff l s).2 ?_
          rw [← he, List.getD_eq_getElem?_getD, List.getElem?_eq_getElem (by rw [HL.out]; exact hlt)]
          exact List.getElem_mem _
        generalize l.getD k ByteArray.empty = X at *
        clear he
        go_wp2
        go_ret
        exact ⟨by rw [HR.out]; rfl, hb.out⟩
      · have q := Cmd.beq_no he
        have HQ : Hid (∀ j, j < k + 1 → l.getD j ByteArray.empty ≠ s) := fun j hj => by
          by_cases e : j = k
          · subst e; exact he
          · exact HP.out j (by omega)
        generalize l.getD k ByteArray.empty = X at *
        clear he
        go_wp2
        go_roundw
        case rel => exact ⟨k + 1, by omega, by go_num, HQ, hb⟩
        case measure => simp [intOf]; omega
    · have hke : k = n := by omega
      rw [hke] at HP
      have HR : Hid (Cmd.isIn l s = false) := by
        show _ = _
        refine Bool.eq_false_iff.2 fun ht => ?_
        have hm := (Cmd.isIn_iff l s).1 ht
        obtain ⟨j, hj, e⟩ := List.getElem_of_mem hm
        refine HP.out j (by rw [← HL.out]; exact hj) ?_
        rw [List.getD_eq_getElem?_getD, List.getElem?_eq_getElem hj]
        exact e
      have n1 : ¬ (k : Int) < (n : Int) := by omega
      clear hke
      go_wp2
      go_ret
      exact ⟨by rw [HR.out]; rfl, hb.out⟩
theorem bs_toList (l : List UInt8) : (bs l).toList = l := by rw [ByteArray.toList_eq]; rfl
def keepW (l : List (List UInt8)) : List (List UInt8) := l.filter fun p => !p.isEmpty
theorem keepW_next (l : List (List UInt8)) (k : Nat) (h : k < l.length) : keepW (l.take (k + 1)) = if l.getD k [] = [] then keepW (l.take k) else keepW (l.take k) ++ [l.getD k []] := by
  unfold keepW
  rw [List.take_add_one, List.getElem?_eq_getElem h, List.filter_append, List.getD_eq_getElem?_getD, List.getElem?_eq_getElem h]
  show _ ++ List.filter _ [l[k]] = if l[k] = [] then _ else _ ++ [l[k]]
  cases l[k] with
  | nil => simp
  | cons x r => simp
theorem rows_getD (l : List (List UInt8)) (k : Nat) : (rows l).getD k ByteArray.empty = bs (l.getD k []) := by
  unfold rows
  rw [List.getD_eq_getElem?_getD, List.getElem?_map, List.getD_eq_getElem?_getD]
  cases l[k]? with
  | none => rfl
  | some x => rfl
theorem rows_len (l : List (List UInt8)) : (rows l).length = l.length := by simp [rows]
theorem bs_empty {l : List UInt8} : bs l = ⟨#[]⟩ ↔ l = [] := ⟨fun h => by have := congrArg (fun x => x.data.toList) h; simpa [bs] using this, fun h => by rw [h]; rfl⟩
set_option maxHeartbeats 2000000 in
theorem refWords_any (s : ByteArray) (hs : s.size ≤ 1000000) (w : World) : Calls Tryz.prog 29 #[.string s] w (Gives (rows (wordsL s.data.toList)) w) := by
  obtain ⟨i0, hi, hz0, hz1, hz2⟩ := info_parts Frm.sinfo
  have SP : Hid (∀ W, Calls Tryz.prog 28 #[.string s, .int .u8 32] W (Gives (rows (splitL 32 s.data.toList)) W)) := fun W => refSplit_any s 32 hs W
  have hW : Hid (wordsL s.data.toList = keepW (splitL 32 s.data.toList)) := rfl
  have hpl : (splitL 32 s.data.toList).length ≤ 1000001 := by
    rw [splitL_len]
    have h := List.count_le_length (a := (32 : UInt8)) (l := s.data.toList)
    have e : s.data.toList.length = s.size := by simp
    rw [e] at h
    omega
  rw [hW.out]
  generalize splitL 32 s.data.toList = PS at *
  obtain ⟨N, hN⟩ : ∃ N, Hid ((rows PS).length = N) := ⟨_, rfl⟩
  have hN2 : Hid (PS.length = N) := by rw [← hN.out]; exact (rows_len PS).symm
  have hNl : N ≤ 1000001 := by rw [← hN2.out]; exact hpl
  clear hpl
  go_enter Tryz.func29, Tryz.ntmps29
  go_wp2_with (go_at_call 28; (with_reducible refine (SP.out _).mono ?_); rintro e w1 ⟨pa, pc, rfl, HS, HB1, -⟩; rw [hN.out])
  go_loopw [4, 5] (fun v4 v5 wr => ∃ k : Nat, k ≤ N ∧ v5 = .int .i64 (k : Int) ∧ Hid (wr.ownsRow w1.heap.size 9 1 v4 (keepW (PS.take k)).length (strVals (rows (keepW (PS.take k))))) ∧ Hid (Below w1.heap.size w1 wr)) (fun _ v5 _ => N - (intOf v5).toNat)
  case atStart => exact ⟨0, Nat.zero_le _, rfl, World.ownsRow_nil _ _ _ _, Below.refl _ _⟩
  case round =>
    obtain ⟨k, hk, rfl, HO, HB⟩ := hrel
    have hkl : (keepW (PS.take k)).length ≤ k := by
      have h1 := List.length_filter_le (fun p : List UInt8 => !p.isEmpty) (PS.take k)
      have h2 : (PS.take k).length ≤ k := by simp; omega
      unfold keepW
      omega
    by_cases hlt : k < N
    · have dk : decide ((k : Int) < (N : Int)) = true := decide_eq_true (by omega)
      have hlt1 : (k : Int) < (N : Int) := by omega
      have NX := Lib.hid (keepW_next PS k (by rw [hN2.out]; exact hlt))
      obtain ⟨b, off, rfl, hbl, hc⟩ := (HS.out.below HB.out) k (by rw [hN.out]; exact hlt)
      rw [rows_getD] at hc
      generalize PS.getD k [] = P at *
      generalize keepW (PS.take k) = KW at *
      by_cases he : P = []
      · have q : (bs P).toList.isEmpty = true := by rw [bs_toList, he]; rfl
        have HK : Hid (keepW (PS.take (k + 1)) = KW) := by show _ = _; rw [NX.out, if_pos he]
        clear he
        go_wp2
        go_roundw
        case rel => exact ⟨k + 1, by omega, by go_num, by rw [HK.out]; exact HO.out, HB⟩
        case measure => simp [intOf]; omega
      · have q : (bs P).toList.isEmpty = false := by
          rw [bs_toList]
          cases P with
          | nil => exact absurd rfl he
          | cons => rfl
        have HK : Hid (keepW (PS.take (k + 1)) = KW ++ [P]) := by show _ = _; rw [NX.out, if_neg he]
        clear he
        go_wp2_with (at_builtin; refine Own.list_one rfl (.tmp 19) (.tmp 24) 46 rfl w1.heap.size 9 i0 _ 16 Tryz.underlying46 hi hz0 hz1 hz2 rfl _ _ _ rfl _ _ _ rfl (HO.out.alloc _) (Own.cell_new _ _ _) rfl ?h1 ?h2 ?h3 ?_; (case h1 => unfold maxLen; omega); (case h2 => omega); (case h3 => have := HB.out.size; simp; omega); intro v' w2 hown2 hgrow2)
        have hb2 := (HB.out.alloc HB.out.size _).grown hgrow2 (by have := HB.out.size; simp; omega) (Own.own_block HO.out (Nat.le_refl _))
        have hown3 : Hid (w2.ownsRow w1.heap.size 9 1 v' (keepW (PS.take (k + 1))).length (strVals (rows (keepW (PS.take (k + 1)))))) := by
          show World.ownsRow _ _ _ _ _ _ _
          rw [HK.out]
          simpa [strVals, rows, bs] using hown2
        have HB2 := Lib.hid hb2
        clear hown2 hgrow2 hb2
        go_roundw
        case rel => exact ⟨k + 1, by omega, by go_num, hown3, HB2⟩
        case measure => simp [intOf]; omega
    · have dk : decide ((k : Int) < (N : Int)) = false := decide_eq_false (by omega)
      have hlt1 : ¬ (k : Int) < (N : Int) := by omega
      have htk : PS.take k = PS := List.take_of_length_le (by rw [hN2.out]; omega)
      rw [htk] at HO
      go_wp2
      go_ret
      refine gives_of (own_base (by rw [rows_len]; exact HO.out) HB1.out.size) (below2 HB1.out HB.out)
end Asm
end Go.Proofs.YtlhalhilnkneeaaGreatDoor
end
section
namespace Go.Proofs.YtlhalhilnkneeaaGreatDoor
open Go.RowKit
namespace Rep
open Pen (bs bs_append uintB intB I64 intS uintS doneS int_put int_back int_in uint_put uint_back)
/-- A reply that came in. -/
structure RepIn where
  err : Int
  id : Int
  n : Int
  st : Int
  ti : Int
deriving DecidableEq
def RepIn.val (r : RepIn) : Array Value := #[.int .i64 r.err, .int .i64 r.id, .int .i64 r.n, .int .i64 r.st, .int .i64 r.ti]
/-- The reply that an error is. -/
def ofE (e : Int) : RepIn := ⟨e, 0, 0, 0, 0⟩
/-- A reply that may be. -/
def May (r : RepIn) : Prop := 0 ≤ r.err ∧ r.err ≤ 14 ∧ (r.err = 0 ∨ r = ofE r.err)
instance (r : RepIn) : Decidable (May r) := by unfold May; infer_instance
/-- Its numbers may be. -/
def Rok (r : RepIn) : Prop := I64 r.err ∧ I64 r.id ∧ I64 r.n ∧ I64 r.st ∧ I64 r.ti
def numsB (r : RepIn) : List UInt8 := intB r.id ++ (intB r.n ++ (intB r.st ++ intB r.ti))
def repB (r : RepIn) : List UInt8 := uintB r.err ++ (if r.err = 0 then numsB r else [])
/-- What Put answers. -/
def putV (r : RepIn) : List UInt8 × Int := if May r then (repB r, 0) else ([], 1)
/-- What is read. -/
def rdR (s : List UInt8) : RepIn × Option (List UInt8) :=
  let u := uintS 14 (some s)
  if u.1 = 0 then
    let a := intS u.2
    let b := intS a.2
    let c := intS b.2
    let d := intS c.2
    (⟨0, a.1, b.1, c.1, d.1⟩, d.2)
  else (ofE u.1, u.2)
/-- What Take answers. -/
def takeV (s : List UInt8) : RepIn × Int := if doneS (rdR s).2 = true then ((rdR s).1, 0) else (ofE 0, 2)
theorem may_put {r : RepIn} (h : May r) : putV r = (repB r, 0) := by
  unfold putV
  rw [if_pos h]
theorem may_not {r : RepIn} (h : ¬ May r) : putV r = ([], 1) := by
  unfold putV
  rw [if_neg h]
theorem done_iff {o : Option (List UInt8)} (h : doneS o = true) : o = some [] := by
  cases o with
  | none => cases h
  | some l => cases l with
    | nil => rfl
    | cons a b => cases h
/-- What is put is taken as it was. -/
theorem take_put (r : RepIn) (hr : Rok r) (h : May r) : takeV (repB r) = (r, 0) := by
  obtain ⟨h0, h1, h2⟩ := h
  obtain ⟨r0, r1, r2, r3, r4⟩ := hr
  have e : rdR (repB r) = (r, some []) := by
    by_cases hz : r.err = 0
    · have e : repB r = uintB 0 ++ (intB r.id ++ (intB r.n ++ (intB r.st ++ (intB r.ti ++ [])))) := by
        unfold repB numsB
        rw [if_pos hz, hz]
        simp
      unfold rdR
      rw [e, uint_put 14 0 (by omega) (by omega) (by omega)]
      dsimp only
      rw [if_pos rfl, int_put r1]
      dsimp only
      rw [int_put r2]
      dsimp only
      rw [int_put r3]
      dsimp only
      rw [int_put r4]
      cases r
      dsimp only at hz ⊢
      rw [hz]
    · have e : repB r = uintB r.err ++ [] := by
        unfold repB
        rw [if_neg hz]
      have e2 := h2.resolve_left hz
      unfold rdR
      rw [e, uint_put 14 r.err h0 h1 (by omega)]
      dsimp only
      rw [if_neg hz, ← e2]
  unfold takeV
  rw [e]
  rfl
/-- What is taken was put so. -/
theorem put_take (s : List UInt8) (h : (takeV s).2 = 0) : Rok (takeV s).1 ∧ May (takeV s).1 ∧ repB (takeV s).1 = s := by
  unfold takeV at h ⊢
  split at h
  case isFalse => cases h
  case isTrue hd =>
  rw [if_pos hd]
  have hsome := done_iff hd
  obtain ⟨b0, b1, b2⟩ := Pen.uint_bounds 14 (some s) (by decide)
  unfold rdR at hsome ⊢
  obtain ⟨u, hu⟩ : ∃ u, uintS 14 (some s) = u := ⟨_, rfl⟩
  rw [hu] at hsome b0 b1 b2 ⊢
  dsimp only at hsome ⊢
  have hz0 : I64 0 := ⟨by decide, by decide⟩
  by_cases hz : u.1 = 0
  · rw [if_pos hz] at hsome ⊢
    dsimp only at hsome ⊢
    have t4 := int_back hsome
    have t3 := int_back t4
    have t2 := int_back t3
    have t1 := int_back t2
    have s1 := uint_back (most := 14) (o := some s) (by rw [hu]; exact t1)
    rw [hu] at s1
    refine ⟨⟨hz0, int_in _, int_in _, int_in _, int_in _⟩, ⟨by show (0 : Int) ≤ 0; omega, by show (0 : Int) ≤ 14; omega, Or.inl rfl⟩, ?_⟩
    have := Option.some.inj s1
    unfold repB numsB
    rw [if_pos rfl]
    rw [hz] at this
    conv => rhs; rw [this]
    simp
  · rw [if_neg hz] at hsome ⊢
    dsimp only at hsome ⊢
    have s1 := uint_back (most := 14) (o := some s) (by rw [hu]; exact hsome)
    rw [hu] at s1
    refine ⟨⟨⟨by show _ ≤ u.1; omega, by show u.1 ≤ _; omega⟩, hz0, hz0, hz0, hz0⟩, ⟨b0, b1, Or.inr rfl⟩, ?_⟩
    have := Option.some.inj s1
    unfold repB
    rw [if_neg (show ¬ (ofE u.1).err = 0 from hz), List.append_nil]
    rw [List.append_nil] at this
    exact this.symm
theorem takeV_err (s : List UInt8) : (takeV s).2 = 0 ∨ ((takeV s).2 = 2 ∧ (takeV s).1 = ofE 0) := by
  unfold takeV
  split
  · exact Or.inl rfl
  · exact Or.inr ⟨rfl, rfl⟩
theorem repB_inj {a b : RepIn} (ha : Rok a) (hb : Rok b) (ma : May a) (mb : May b) (h : repB a = repB b) : a = b := by
  have h1 := take_put a ha ma
  rw [h, take_put b hb mb] at h1
  exact (Prod.mk.inj h1).1.symm
end Rep
end Go.Proofs.YtlhalhilnkneeaaGreatDoor
end
section
namespace Go.Proofs.YtlhalhilnkneeaaGreatDoor
open Go.RowKit
namespace Rep
open Go.Lib (decDigits itoa)
/-- The errors' words. -/
def wdL : List (List UInt8) := [[111, 107], [97, 114, 103], [98, 97, 100], [110, 111, 110, 101], [102, 117, 108, 108], [111, 118, 101, 114], [102, 117, 110, 100, 115], [105, 116, 101, 109, 115], [114, 111, 108, 101], [115, 116, 97, 116, 101], [115, 108, 111, 116, 115], [114, 117, 110, 115], [98, 117, 115, 121], [99, 108, 111, 99, 107], [100, 101, 97, 100]]
def word (e : Int) : List UInt8 := wdL.getD e.toNat []
/-- The numbers' names. -/
def nmId : List UInt8 := [105, 100]
def nmN : List UInt8 := [110]
def nmSt : List UInt8 := [115, 116, 97, 116, 101]
def nmTi : List UInt8 := [116, 105, 109, 101]
/-- A number as words. -/
def part (nm : List UInt8) (x : Int) : List UInt8 := if x = 0 then [] else 32 :: (nm ++ 61 :: itoa x)
def okT (r : RepIn) : List UInt8 := [111, 107] ++ (part nmId r.id ++ (part nmN r.n ++ (part nmSt r.st ++ part nmTi r.ti)))
/-- A reply as words. -/
def textV (r : RepIn) : List UInt8 := if May r then (if r.err = 0 then okT r else word r.err) else [63]
theorem dig_byte (k : Nat) (h : k < 10) : (UInt8.ofNat (48 + k)).toNat = 48 + k := by
  rw [UInt8.toNat_ofNat']
  omega
theorem dig_range (u : Nat) : ∀ c ∈ decDigits u, 48 ≤ c.toNat ∧ c.toNat ≤ 57 := by
  induction u using Nat.strongRecOn with
  | _ u ih =>
    intro c hc
    rw [decDigits] at hc
    split at hc
    · rename_i h
      rw [List.mem_singleton] at hc
      rw [hc, dig_byte u h]
      omega
    · rename_i h
      rcases List.mem_append.1 hc with hc | hc
      · exact ih (u / 10) (by omega) c hc
      · rw [List.mem_singleton] at hc
        rw [hc, dig_byte (u % 10) (by omega)]
        omega
/-- What a numeral tells. -/
def valD (l : List UInt8) : Nat := l.foldl (fun a c => a * 10 + (c.toNat - 48)) 0
theorem val_dig (u : Nat) : valD (decDigits u) = u := by
  induction u using Nat.strongRecOn with
  | _ u ih =>
    rw [decDigits]
    split
    · rename_i h
      simp only [valD, List.foldl_cons, List.foldl_nil]
      rw [dig_byte u h]
      omega
    · rename_i h
      have h1 := ih (u / 10) (by omega)
      unfold valD at h1 ⊢
      rw [List.foldl_append, h1]
      simp only [List.foldl_cons, List.foldl_nil]
      rw [dig_byte (u % 10) (by omega)]
      omega
theorem dig_inj {u v : Nat} (h : decDigits u = decDigits v) : u = v := by rw [← val_dig u, h, val_dig]
theorem dig_ne (u : Nat) : decDigits u ≠ [] := by
  rw [decDigits]
  split
  · exact List.cons_ne_nil _ _
  · exact List.append_ne_nil_of_right_ne_nil _ (List.cons_ne_nil _ _)
theorem itoa_no (x : Int) : ∀ c ∈ itoa x, c ≠ 32 := by
  intro c hc
  unfold itoa at hc
  split at hc
  · rcases List.mem_cons.1 hc with rfl | hc
    · decide
    · have := dig_range _ c hc
      rintro rfl
      revert this
      decide
  · have := dig_range _ c hc
    rintro rfl
    revert this
    decide
theorem itoa_inj {x y : Int} (h : itoa x = itoa y) : x = y := by
  unfold itoa at h
  have no : ∀ u v : Nat, 45 :: decDigits u ≠ decDigits v := fun u v e => by
    have := dig_range v 45 (by rw [← e]; exact List.mem_cons_self ..)
    revert this
    decide
  split at h
  · split at h
    · have := dig_inj (List.cons.inj h).2
      omega
    · exact absurd h (no _ _)
  · split at h
    · exact absurd h.symm (no _ _)
    · have := dig_inj h
      omega
/-- What goes on behind a word begins with a blank and one of some letters. -/
def Starts (S : List UInt8) (R : List UInt8) : Prop := R = [] ∨ ∃ d l, R = 32 :: d :: l ∧ d ∈ S
theorem cut : ∀ (p q R R' : List UInt8) (S S' : List UInt8), (∀ c ∈ p, c ≠ 32) → (∀ c ∈ q, c ≠ 32) → Starts S R → Starts S' R' → p ++ R = q ++ R' → p = q ∧ R = R'
  | [], [], R, R', S, S', hp, hq, hR, hR', h => ⟨rfl, h⟩
  | [], b :: q, R, R', S, S', hp, hq, hR, hR', h => by
    rcases hR with rfl | ⟨d, l, rfl, -⟩
    · cases h
    · have := (List.cons.inj h).1
      exact absurd this.symm (hq b (List.mem_cons_self ..))
  | a :: p, [], R, R', S, S', hp, hq, hR, hR', h => by
    rcases hR' with rfl | ⟨d, l, rfl, -⟩
    · cases h
    · have := (List.cons.inj h).1
      exact absurd this (hp a (List.mem_cons_self ..))
  | a :: p, b :: q, R, R', S, S', hp, hq, hR, hR', h => by
    obtain ⟨h1, h2⟩ := List.cons.inj h
    obtain ⟨h3, h4⟩ := cut p q R R' S S' (fun c hc => hp c (List.mem_cons_of_mem _ hc)) (fun c hc => hq c (List.mem_cons_of_mem _ hc)) hR hR' h2
    exact ⟨by rw [h1, h3], h4⟩
theorem part_starts {S R : List UInt8} (c : UInt8) (nm : List UInt8) (x : Int) (h : Starts S R) : Starts (c :: S) (part (c :: nm) x ++ R) := by
  unfold part
  split
  · rcases h with rfl | ⟨d, l, rfl, hd⟩
    · exact Or.inl rfl
    · exact Or.inr ⟨d, l, rfl, List.mem_cons_of_mem _ hd⟩
  · exact Or.inr ⟨c, _, rfl, List.mem_cons_self ..⟩
theorem part_step {S R R' : List UInt8} {c : UInt8} {nm : List UInt8} {x y : Int} (hc : c ∉ S) (hR : Starts S R) (hR' : Starts S R') (h : part (c :: nm) x ++ R = part (c :: nm) y ++ R') : x = y ∧ R = R' := by
  have no : ∀ (z : Int) (T T' : List UInt8), Starts S T → T ≠ 32 :: ((c :: nm) ++ 61 :: itoa z) ++ T' := by
    intro z T T' hT e
    rcases hT with rfl | ⟨d, l, rfl, hd⟩
    · cases e
    · have := (List.cons.inj (List.cons.inj e).2).1
      exact hc (this ▸ hd)
  unfold part at h
  split at h
  · rename_i hx
    split at h
    · rename_i hy
      exact ⟨by rw [hx, hy], h⟩
    · exact absurd h (no _ _ _ hR)
  · split at h
    · exact absurd h.symm (no _ _ _ hR')
    · have h1 : (c :: nm ++ 61 :: itoa x) ++ R = (c :: nm ++ 61 :: itoa y) ++ R' := (List.cons.inj h).2
      rw [List.append_assoc, List.append_assoc] at h1
      have h2 := List.append_cancel_left h1
      have h3 := (List.cons.inj h2).2
      obtain ⟨h4, h5⟩ := cut _ _ _ _ _ _ (itoa_no x) (itoa_no y) hR hR' h3
      exact ⟨itoa_inj h4, h5⟩
theorem okT_inj {a b : RepIn} (h : okT a = okT b) : a.id = b.id ∧ a.n = b.n ∧ a.st = b.st ∧ a.ti = b.ti := by
  unfold okT at h
  have h0 := List.append_cancel_left h
  have t4 : ∀ r : RepIn, Starts [116] (part nmTi r.ti ++ []) := fun r => part_starts 116 _ r.ti (Or.inl rfl)
  have t3 : ∀ r : RepIn, Starts [115, 116] (part nmSt r.st ++ (part nmTi r.ti ++ [])) := fun r => part_starts 115 _ r.st (t4 r)
  have t2 : ∀ r : RepIn, Starts [110, 115, 116] (part nmN r.n ++ (part nmSt r.st ++ (part nmTi r.ti ++ []))) := fun r => part_starts 110 _ r.n (t3 r)
  have h0' : part nmId a.id ++ (part nmN a.n ++ (part nmSt a.st ++ (part nmTi a.ti ++ []))) = part nmId b.id ++ (part nmN b.n ++ (part nmSt b.st ++ (part nmTi b.ti ++ []))) := by
    rw [List.append_nil, List.append_nil]
    exact h0
  obtain ⟨e1, h1⟩ := part_step (by decide) (t2 a) (t2 b) h0'
  obtain ⟨e2, h2⟩ := part_step (by decide) (t3 a) (t3 b) h1
  obtain ⟨e3, h3⟩ := part_step (by decide) (t4 a) (t4 b) h2
  obtain ⟨e4, -⟩ := part_step (S := []) (by decide) (Or.inl rfl) (Or.inl rfl) h3
  exact ⟨e1, e2, e3, e4⟩
theorem okT_starts (r : RepIn) : ∃ R, okT r = [111, 107] ++ R ∧ Starts [105, 110, 115, 116] R := by
  refine ⟨_, rfl, ?_⟩
  have t4 : Starts [116] (part nmTi r.ti ++ []) := part_starts 116 _ r.ti (Or.inl rfl)
  rw [List.append_nil] at t4
  exact part_starts 105 _ r.id (part_starts 110 _ r.n (part_starts 115 _ r.st t4))
theorem word_no : ∀ k, k < 15 → ∀ c ∈ wdL.getD k [], c ≠ 32 := by decide +kernel
theorem word_ok : ∀ k, k < 15 → wdL.getD k [] = [111, 107] → k = 0 := by decide +kernel
theorem word_apart : ∀ j, j < 15 → ∀ k, k < 15 → wdL.getD j [] = wdL.getD k [] → j = k := by decide +kernel
theorem word_okT (r : RepIn) (k : Nat) (hk : k < 15) (h : okT r = wdL.getD k []) : k = 0 := by
  obtain ⟨R, e, hR⟩ := okT_starts r
  rw [e, ← List.append_nil (wdL.getD k [])] at h
  obtain ⟨h1, -⟩ := cut _ _ _ _ _ [] (by decide) (word_no k hk) hR (Or.inl rfl) h
  exact word_ok k hk h1.symm
/-- Unlike replies have unlike words. -/
theorem text_inj {a b : RepIn} (ha : May a) (hb : May b) (h : textV a = textV b) : a = b := by
  unfold textV at h
  rw [if_pos ha, if_pos hb] at h
  obtain ⟨a0, a1, a2⟩ := ha
  obtain ⟨b0, b1, b2⟩ := hb
  have ka : a.err.toNat < 15 := by omega
  have kb : b.err.toNat < 15 := by omega
  split at h
  · rename_i ea
    split at h
    · rename_i eb
      obtain ⟨h1, h2, h3, h4⟩ := okT_inj h
      cases a
      cases b
      dsimp only at ea eb h1 h2 h3 h4
      rw [ea, eb, h1, h2, h3, h4]
    · rename_i eb
      have := word_okT a b.err.toNat kb h
      omega
  · rename_i ea
    split at h
    · rename_i eb
      have := word_okT b a.err.toNat ka h.symm
      omega
    · rename_i eb
      have e := word_apart _ ka _ kb h
      rw [a2.resolve_left ea, b2.resolve_left eb, show a.err = b.err by omega]
end Rep
end Go.Proofs.YtlhalhilnkneeaaGreatDoor
end
section
namespace Go.Proofs.YtlhalhilnkneeaaGreatDoor
open Go.RowKit
namespace Rep
open Pen (bs bs_append)
open Go.Lib (decDigits itoa)
theorem itoa_nat (u : Nat) : itoa (u : Int) = decDigits u := by
  unfold itoa
  rw [if_neg (by omega)]
  simp
theorem dig_one {u : Nat} (h : u < 10) : decDigits u = [UInt8.ofNat (48 + u)] := by rw [decDigits, dif_pos h]
theorem dig_more {u : Nat} (h : ¬ u < 10) : decDigits u = decDigits (u / 10) ++ decDigits (u % 10) := by
  rw [decDigits, dif_neg h, dig_one (u := u % 10) (by omega)]
theorem itoa_one {n : Int} (h : 0 ≤ n ∧ n ≤ 9) : itoa n = [UInt8.ofNat (48 + n.toNat)] := by
  obtain ⟨u, rfl⟩ : ∃ u : Nat, n = u := ⟨n.toNat, by omega⟩
  rw [itoa_nat, dig_one (by omega)]
  rfl
theorem itoa_more {n : Int} (h : 9 < n) : itoa n = itoa (Int.tdiv n 10) ++ itoa (Int.tmod n 10) := by
  obtain ⟨u, rfl⟩ : ∃ u : Nat, n = u := ⟨n.toNat, by omega⟩
  rw [show Int.tdiv (u : Int) 10 = ((u / 10 : Nat) : Int) from by rw [Int.tdiv_eq_ediv_of_nonneg (by omega)]; omega, show Int.tmod (u : Int) 10 = ((u % 10 : Nat) : Int) from by rw [Int.tmod_eq_emod_of_nonneg (by omega)]; omega, itoa_nat, itoa_nat, itoa_nat, dig_more (by omega)]
theorem itoa_neg' (u : Nat) (h : 1 ≤ u) : itoa (-(u : Int)) = 45 :: decDigits u := by
  unfold itoa
  rw [if_pos (by omega)]
  simp
theorem itoa_less {n : Int} (h : n < 0) : itoa n = [45] ++ itoa (-n) := by
  obtain ⟨u, rfl⟩ : ∃ u : Nat, n = -(u : Int) := ⟨n.natAbs, by omega⟩
  rw [itoa_neg' u (by omega), Int.neg_neg, itoa_nat]
  rfl
theorem itoa_down {n : Int} (h : n ≤ -10) : itoa n = itoa (Int.tdiv n 10) ++ itoa (-(Int.tmod n 10)) := by
  obtain ⟨u, rfl⟩ : ∃ u : Nat, n = -(u : Int) := ⟨n.natAbs, by omega⟩
  rw [Int.neg_tdiv, Int.neg_tmod, Int.neg_neg, show Int.tdiv (u : Int) 10 = ((u / 10 : Nat) : Int) from by rw [Int.tdiv_eq_ediv_of_nonneg (by omega)]; omega, show Int.tmod (u : Int) 10 = ((u % 10 : Nat) : Int) from by rw [Int.tmod_eq_emod_of_nonneg (by omega)]; omega, itoa_neg' u (by omega), itoa_neg' (u / 10) (by omega), itoa_nat, dig_more (by omega)]
  rfl
theorem tdiv_in {n : Int} (h : n ≤ -10) : Int.tdiv n 10 < 0 ∧ (Int.tdiv n 10).natAbs < n.natAbs := by
  obtain ⟨u, rfl⟩ : ∃ u : Nat, n = -(u : Int) := ⟨n.natAbs, by omega⟩
  rw [Int.neg_tdiv, show Int.tdiv (u : Int) 10 = ((u / 10 : Nat) : Int) from by rw [Int.tdiv_eq_ediv_of_nonneg (by omega)]; omega]
  omega
end Rep
end Go.Proofs.YtlhalhilnkneeaaGreatDoor
end
section
namespace Go.Proofs.YtlhalhilnkneeaaGreatDoor
open Go.RowKit
namespace Ord
section
variable {P : Program} {md : Region.Mode} {ops : Array Oper} {Q : Exit → Act → World → Prop} {S : World → Prop} {D : Nat → Bool}
theorem wpAnyU_two {i j : Nat} {o p : Oper} {fuel : Nat} {listed : Array Bool} {a : Act} {w : World} (hr : Region.ready md ops listed = [i, j]) (ho : ops[i]? = some o) (hp : ops[j]? = some p)
    (h : ∀ K' : Act → World → Prop, Shut (∀ a w, (D i = false → S w) → wpAnyU P md ops Q S D fuel (listed.setIfInBounds i true) a w → K' a w) → if Region.wanted o (yielded ops a.tmps) = true then Oper.wp P o a w K' Q else K' (a.put o.dst undef) w)
    (h2 : ∀ K' : Act → World → Prop, Shut (∀ a w, (D j = false → S w) → wpAnyU P md ops Q S D fuel (listed.setIfInBounds j true) a w → K' a w) → if Region.wanted p (yielded ops a.tmps) = true then Oper.wp P p a w K' Q else K' (a.put p.dst undef) w) :
    wpAnyU P md ops Q S D (fuel + 1) listed a w := by
  refine ⟨fun h0 => absurd (hr ▸ h0) (by simp), fun k hk => ?_⟩
  rw [hr] at hk
  rcases List.mem_cons.1 hk with e | hk
  · rw [e]
    exact wpOp_step ho fun K' hK => h K' fun a w hS hW => hK a w ⟨hS, hW⟩
  · rw [List.mem_singleton.1 hk]
    exact wpOp_step hp fun K' hK => h2 K' fun a w hS hW => hK a w ⟨hS, hW⟩
end
end Ord
end Go.Proofs.YtlhalhilnkneeaaGreatDoor
end
section
namespace Go.Proofs.YtlhalhilnkneeaaGreatDoor
open Go.RowKit Go.Great
namespace Rep
open Pen (bs bs_append uintB intB I64 intS uintS doneS)
def RepIn.cell (r : RepIn) (i : Nat) : Value := if i = 0 then .int .i64 r.err else if i = 1 then .int .i64 r.id else if i = 2 then .int .i64 r.n else if i = 3 then .int .i64 r.st else .int .i64 r.ti
theorem val_get (r : RepIn) (i : Nat) (hi : i < 5) : r.val[i]? = some (r.cell i) := by
  match i, hi with
  | 0, _ => rfl
  | 1, _ => rfl
  | 2, _ => rfl
  | 3, _ => rfl
  | 4, _ => rfl
  | n + 5, h => omega
theorem below_setRow {k : Nat} {a b : World} (h : Below k a b) (g : Nat) (hg : k ≤ g) (cs : Array Value) : Below k a (b.setRow g cs) := by
  refine ⟨h.os, h.tape, h.output, ?_, fun j hj => ?_⟩
  · have := h.size
    simpa [World.setRow] using this
  · rw [← h.block j hj]
    simp [World.setRow, Array.getElem?_modify]
    omega
theorem wp_named {P : Program} {c : Code} {Q : Exit → Act → World → Prop} {a : Act} {w : World} (h : ∀ W, W = w → c.wp P Q a W) : c.wp P Q a w := h w rfl
theorem wpl_named {P : Program} {ops : Array Oper} {Q : Exit → Act → World → Prop} {l : List Oper} {a : Act} {w : World} (h : ∀ W, W = w → wpList P ops Q l a W) : wpList P ops Q l a w := h w rfl
theorem beq_yes {a b : ByteArray} (h : a = b) : (a.toList == b.toList) = true := (Lib.bytes_beq_iff a b).2 h
theorem beq_no {a b : ByteArray} (h : a ≠ b) : (a.toList == b.toList) = false := (Lib.bytes_beq_false_iff a b).2 h
theorem below2 {w a b : World} (h : Below w.heap.size w a) (h2 : Below a.heap.size a b) : Below w.heap.size w b := h.trans (h2.mono h.size)
theorem below_al {w x : World} (h : Below w.heap.size w x) (o : Obj) : Below w.heap.size w (x.alloc o) := h.alloc h.size o
theorem below_dN {B : Nat} {a w : World} (h : Below B a w) (n : Nat) : Below B a (w.drewN n) := ⟨h.os, h.tape, h.output, h.size, h.block⟩
/-- A load is taken first; the place that it writes is named. -/
theorem take_at {P : Program} {ops : Array Oper} {Q : Exit → Act → World → Prop} {md : Region.Mode} {S : World → Prop} {l : List Nat} {i : Nat} {oi : Oper} {v : Value} {fuel : Nat} {listed : Array Bool} {a : Act} {w : World} (t : Tmp) (hi : ops[i]? = some oi) (ht : oi.dst = some t)
    (hs : Region.noSelect ops = true) (hf : Region.free md ops listed i = true) (hr : (Region.ready md ops listed).contains i = true)
    (hd : l.all (fun j => (Ord.desc md ops i).contains j) = true) (hw : Ord.waits md ops (Ord.among (Ord.desc md ops i)) i = true) (hl : (Ord.desc md ops i).all (fun j => decide (j < listed.size)) = true) (ha : Ord.ahead (Ord.among (Ord.desc md ops i)) listed.size listed = true)
    (hQ : ∀ c a w, Q (.panic c) (a.put oi.dst v) w → Q (.panic c) a w) (hy : YieldsIf P ops S oi v a) (hS : S w)
    (h : Ord.wpAnyU P md ops Q S (Ord.among l) fuel (listed.setIfInBounds i true) (a.put (some t) v) w) : Ord.wpAnyU P md ops Q S (Ord.among l) (fuel + 1) listed a w :=
  Ord.wpAnyU_take hi hs hf hr hd hw hl ha hQ hy hS (by rw [ht]; exact h)
theorem val_at (r : RepIn) : r.val[0]? = some (.int .i64 r.err) ∧ r.val[1]? = some (.int .i64 r.id) ∧ r.val[2]? = some (.int .i64 r.n) ∧ r.val[3]? = some (.int .i64 r.st) ∧ r.val[4]? = some (.int .i64 r.ti) := ⟨rfl, rfl, rfl, rfl, rfl⟩
/-- Two replies are compared. -/
theorem wpList_run {P : Program} {ops : Array Oper} {rest : List Oper} {o : Oper} {a : Act} {w : World} {Q : Exit → Act → World → Prop} {v : Value} (hg : o.guard = none) (hr : (execOp a.eval o).run P w = .ok (.value v) w) (h : wpList P ops Q rest (a.put o.dst v) w) : wpList P ops Q (o :: rest) a w :=
  wpList_plain hg fun _ hK => by
    unfold Oper.wp
    rw [hr]
    exact hK _ _ h
theorem may_of {r : RepIn} (h : ¬ (0 ≤ r.err ∧ r.err ≤ 14)) : decide (May r) = false := decide_eq_false fun hm => h ⟨hm.1, hm.2.1⟩
theorem may_yes {r : RepIn} (h0 : 0 ≤ r.err) (h1 : r.err ≤ 14) (a : r.id = 0) (b : r.n = 0) (c : r.st = 0) (d : r.ti = 0) : decide (May r) = true := decide_eq_true ⟨h0, h1, Or.inr (by cases r; simp_all [ofE])⟩
theorem may_eq {r : RepIn} (h0 : 0 ≤ r.err) (h1 : r.err ≤ 14) (hz : ¬ r.err = 0) : decide (May r) = decide (r = ofE r.err) := decide_eq_decide.2 ⟨fun h => h.2.2.resolve_left hz, fun h => ⟨h0, h1, Or.inr h⟩⟩
theorem may_no {r : RepIn} (hz : ¬ r.err = 0) (h : ¬ (r.id = 0 ∧ r.n = 0 ∧ r.st = 0 ∧ r.ti = 0)) : decide (May r) = false := decide_eq_false fun hm => h (by
  have e := hm.2.2.resolve_left hz
  rw [e]
  exact ⟨rfl, rfl, rfl, rfl⟩)
end Rep
end Go.Proofs.YtlhalhilnkneeaaGreatDoor
end
section
namespace Go.Proofs.YtlhalhilnkneeaaGreatDoor
open Go.RowKit Go.Great
namespace Rep
open Pen (bs bs_append uintB intB I64 intS uintS doneS)
open Go.Lib (decDigits itoa)
theorem fits {A B : List UInt8} (ha : A.length ≤ 100000) (hb : B.length ≤ 100000) : ¬ 9223372036854775807 < (bs A).size + (bs B).size := by
  rw [Pen.bs_size, Pen.bs_size]
  omega
abbrev NumG (n : Int) : Prop := ∀ W : World, Calls Tryz.prog 85 #[.int .i64 n] W fun e w' => e = .returned (.string (bs (itoa n))) ∧ Below W.heap.size W w'
set_option maxRecDepth 100000 in
theorem num_one (n : Int) (h : 0 ≤ n ∧ n ≤ 9) : NumG n := by
  intro w
  rw [itoa_one h]
  obtain ⟨h0, h9⟩ := h
  have d0 : ¬ n < 0 := by omega
  have d1 : decide (n < 0) = false := decide_eq_false d0
  have d2 : ¬ 9 < n := by omega
  have d3 : decide (9 < n) = false := decide_eq_false d2
  have hv : ((UInt8.ofNat (48 + n.toNat)).toNat : Int) = 48 + n := by rw [dig_byte n.toNat (by omega)]; omega
  have hcv := Pen.back_at (UInt8.ofNat (48 + n.toNat)) (48 + n) hv (w.alloc (.cells #[.int .u8 (48 + n)] 5)) w.heap.size (heap_alloc_new w _)
  clear hv
  generalize UInt8.ofNat (48 + n.toNat) = b at *
  go_enter Tryz.func85, Tryz.ntmps85
  go_wp2
  go_ret
  exact ⟨rfl, below_al (Below.refl _ _) _⟩
set_option maxRecDepth 100000 in
theorem num_more (n : Int) (h : 9 < n) (hi : n ≤ 9223372036854775807) (c1 : NumG (n / 10)) (c2 : NumG (n % 10)) : NumG n := by
  intro w
  have C1 : Hid (NumG (n / 10)) := c1
  have C2 : Hid (NumG (n % 10)) := c2
  have E : Hid (itoa n = itoa (n / 10) ++ itoa (n % 10)) := by
    have := itoa_more h
    rw [Int.tdiv_eq_ediv_of_nonneg (by omega), Int.tmod_eq_emod_of_nonneg (by omega)] at this
    exact this
  have z1 := fits (A := itoa (n / 10)) (B := itoa (n % 10)) (by have := Lib.itoa_length_le (n / 10) (by omega) (by omega); omega) (by have := Lib.itoa_length_le (n % 10) (by omega) (by omega); omega)
  clear c1 c2
  have d0 : ¬ n < 0 := by omega
  have d1 : decide (n < 0) = false := decide_eq_false d0
  have d3 : decide (9 < n) = true := decide_eq_true h
  go_enter Tryz.func85, Tryz.ntmps85
  go_wp2_with (first
    | (go_at_call 85; (with_reducible refine (C1.out _).mono ?_); rintro e w1 ⟨rfl, hb1⟩; have HB1 := Lib.hid hb1; clear hb1)
    | (go_at_call 85; (with_reducible refine (C2.out _).mono ?_); rintro e w2 ⟨rfl, hb2⟩; have HB2 := Lib.hid hb2; clear hb2))
  go_ret
  refine ⟨?_, below2 HB1.out HB2.out⟩
  rw [E.out, ← bs_append]
  rfl
set_option maxRecDepth 100000 in
theorem num_down (n : Int) (h : n ≤ -10) (hi : -9223372036854775808 ≤ n) (c1 : NumG (Int.tdiv n 10)) (c2 : NumG (-(Int.tmod n 10))) : NumG n := by
  intro w
  have C1 : Hid (NumG (Int.tdiv n 10)) := c1
  have C2 : Hid (NumG (-(Int.tmod n 10))) := c2
  have E := Lib.hid (itoa_down h)
  have t0 : -10 < n.tmod 10 ∧ n.tmod 10 ≤ 0 := by
    obtain ⟨u, rfl⟩ : ∃ u : Nat, n = -(u : Int) := ⟨n.natAbs, by omega⟩
    rw [Int.neg_tmod, Int.tmod_eq_emod_of_nonneg (by omega)]
    omega
  have t1 : -1000000000000000000 < n.tdiv 10 ∧ n.tdiv 10 < 0 := by
    obtain ⟨u, rfl⟩ : ∃ u : Nat, n = -(u : Int) := ⟨n.natAbs, by omega⟩
    rw [Int.neg_tdiv, Int.tdiv_eq_ediv_of_nonneg (by omega)]
    omega
  have z1 := fits (A := itoa (n.tdiv 10)) (B := itoa (-(n.tmod 10))) (by have := Lib.itoa_length_le (n.tdiv 10) (by omega) (by omega); omega) (by have := Lib.itoa_length_le (-(n.tmod 10)) (by omega) (by omega); omega)
  obtain ⟨t2, t3⟩ := t0
  have t4 : wrap64 (-n.tmod 10) = -n.tmod 10 := by unfold wrap64; omega
  clear c1 c2 t1
  have h0 : n < 0 := by omega
  have d1 : decide (n < 0) = true := decide_eq_true h0
  have h1 : ¬ -10 < n := by omega
  have d3 : decide (-10 < n) = false := decide_eq_false h1
  go_enter Tryz.func85, Tryz.ntmps85
  go_wp2_with (first
    | (go_at_call 85; (with_reducible refine (C1.out _).mono ?_); rintro e w1 ⟨rfl, hb1⟩; have HB1 := Lib.hid hb1; clear hb1)
    | (go_at_call 85; (with_reducible refine (C2.out _).mono ?_); rintro e w2 ⟨rfl, hb2⟩; have HB2 := Lib.hid hb2; clear hb2))
  go_ret
  refine ⟨?_, below2 HB1.out HB2.out⟩
  rw [E.out, ← bs_append]
  rfl
set_option maxRecDepth 100000 in
theorem num_less (n : Int) (h : -10 < n) (h0 : n < 0) (c1 : NumG (-n)) : NumG n := by
  intro w
  have C1 : Hid (NumG (-n)) := c1
  have E := Lib.hid (itoa_less h0)
  have z1 : ¬ 9223372036854775807 < (ByteArray.mk #[45]).size + (bs (itoa (-n))).size := fits (A := [45]) (B := itoa (-n)) (by simp) (by have := Lib.itoa_length_le (-n) (by omega) (by omega); omega)
  clear c1
  have d1 : decide (n < 0) = true := decide_eq_true h0
  have d3 : decide (-10 < n) = true := decide_eq_true h
  go_enter Tryz.func85, Tryz.ntmps85
  go_wp2_with (go_at_call 85; (with_reducible refine (C1.out _).mono ?_); rintro e w1 ⟨rfl, hb1⟩; have HB1 := Lib.hid hb1; clear hb1)
  go_ret
  refine ⟨?_, HB1.out⟩
  rw [E.out, ← bs_append]
  rfl
theorem num_nat : ∀ (k : Nat) (n : Int), 0 ≤ n → n.toNat ≤ k → n ≤ 9223372036854775807 → NumG n
  | k, n, h0, hk, hi => by
    by_cases h9 : n ≤ 9
    · exact num_one n ⟨h0, h9⟩
    · match k, hk with
      | 0, hk => omega
      | k + 1, hk =>
        have e1 : Int.tdiv n 10 = n / 10 := Int.tdiv_eq_ediv_of_nonneg h0
        have e2 : Int.tmod n 10 = n % 10 := Int.tmod_eq_emod_of_nonneg h0
        exact num_more n (by omega) hi (num_nat k _ (by omega) (by omega) (by omega)) (num_one _ (by omega))
theorem num_neg : ∀ (k : Nat) (n : Int), n < 0 → n.natAbs ≤ k → -9223372036854775808 ≤ n → NumG n
  | k, n, h0, hk, hi => by
    by_cases h9 : -10 < n
    · exact num_less n h9 h0 (num_one _ (by omega))
    · match k, hk with
      | 0, hk => omega
      | k + 1, hk =>
        obtain ⟨t1, t2⟩ := tdiv_in (n := n) (by omega)
        have e2 := Int.tmod_add_mul_tdiv n 10
        have e3 : -10 < Int.tmod n 10 ∧ Int.tmod n 10 ≤ 0 := by
          obtain ⟨u, rfl⟩ : ∃ u : Nat, n = -(u : Int) := ⟨n.natAbs, by omega⟩
          rw [Int.neg_tmod, Int.tmod_eq_emod_of_nonneg (by omega)]
          omega
        exact num_down n (by omega) hi (num_neg k _ t1 (by omega) (by omega)) (num_one _ (by omega))
theorem number_any (n : Int) (h : I64 n) : NumG n := by
  obtain ⟨h1, h2⟩ := h
  by_cases h0 : n < 0
  · exact num_neg n.natAbs n h0 (Nat.le_refl _) h1
  · exact num_nat n.toNat n (by omega) (Nat.le_refl _) h2
end Rep
end Go.Proofs.YtlhalhilnkneeaaGreatDoor
end
