/- The roles of words: what the package answers. -/
import Derived.Test.YtfmcggejifnhfaaDoorRolN
namespace Go.Proofs.YtfmcggejifnhfaaDoor
open Go.RowKit
namespace Rol
open In (strVals Strs)
def comma : ByteArray := ⟨#[44]⟩
def pieces (s : ByteArray) : List ByteArray := Lib.splitB comma 0 (Lib.countB s comma) s
theorem pieces_length (s : ByteArray) : (pieces s).length = Lib.countB s comma + 1 := Lib.splitB_all comma (by decide) 0 _ s rfl
def find (x : ByteArray) : Int := Lib.idxOfS wds x
/-- The roles of the first k words; none: a word that is none, or stands twice. -/
def ofTo (l : List ByteArray) : Nat → Option Nat
  | 0 => some 0
  | k + 1 => match ofTo l k with
    | none => none
    | some r => if find (l.getD k ByteArray.empty) < 0 then none else if r.testBit (find (l.getD k ByteArray.empty)).toNat then none else some (r + 2 ^ (find (l.getD k ByteArray.empty)).toNat)
theorem ofTo_no (l : List ByteArray) (k j : Nat) (h : ofTo l k = none) (hj : k ≤ j) : ofTo l j = none := by
  induction j with
  | zero => obtain rfl : k = 0 := by omega
            exact h
  | succ j ih =>
    by_cases e : k = j + 1
    · subst e; exact h
    · rw [ofTo, ih (by omega)]
def ofP (l : List ByteArray) : Int × Int := match ofTo l l.length with
  | none => (0, 2)
  | some r => ((r : Int), 0)
def ofV (s : ByteArray) : Int × Int := if s = dash then (0, 0) else ofP (pieces s)
theorem idxFrom_lt (x : ByteArray) : ∀ (zs : List ByteArray) (i : Nat), Lib.idxFromS zs x i < ((i + zs.length : Nat) : Int) ∨ Lib.idxFromS zs x i = -1 := by
  intro zs
  induction zs with
  | nil => intro i; exact .inr rfl
  | cons z zs ih =>
    intro i
    unfold Lib.idxFromS
    split
    · left; simp; omega
    · rcases ih (i + 1) with h | h
      · left; simp at h ⊢; omega
      · exact .inr h
theorem idxFrom_ge (x : ByteArray) : ∀ (zs : List ByteArray) (i : Nat), -1 ≤ Lib.idxFromS zs x i := by
  intro zs
  induction zs with
  | nil => intro i; exact Int.le_refl _
  | cons z zs ih =>
    intro i
    unfold Lib.idxFromS
    split
    · omega
    · exact ih (i + 1)
theorem find_lt (x : ByteArray) : -1 ≤ find x ∧ find x < 8 := by
  refine ⟨idxFrom_ge x wds 0, ?_⟩
  rcases idxFrom_lt x wds 0 with h | h
  · exact h
  · show Lib.idxFromS wds x 0 < 8
    omega
theorem or_pow_all : ∀ r < 256, ∀ i < 8, Nat.testBit r i = false → r ||| 2 ^ i = r + 2 ^ i ∧ r + 2 ^ i < 256 := by decide +kernel
theorem or_pow (r i : Nat) (hr : r < 256) (hi : i < 8) (hb : r.testBit i = false) : r ||| 2 ^ i = r + 2 ^ i ∧ r + 2 ^ i < 256 := or_pow_all r hr i hi hb
theorem ofTo_lt (l : List ByteArray) (k r : Nat) (h : ofTo l k = some r) : r < 256 := by
  induction k generalizing r with
  | zero => rw [ofTo] at h; cases h; omega
  | succ k ih =>
    rw [ofTo] at h
    cases h1 : ofTo l k with
    | none => rw [h1] at h; cases h
    | some q =>
      rw [h1] at h
      simp only at h
      split at h
      · cases h
      · split at h
        · cases h
        · cases h
          have := find_lt (l.getD k ByteArray.empty)
          exact (or_pow q _ (ih q h1) (by omega) (Bool.eq_false_iff.2 ‹¬ _›)).2
theorem cells_new (W : World) (l : List ByteArray) (t : TypeId) (k : Nat) (hk : k < l.length) : (W.alloc (.cells (l.map Value.string).toArray t)).cell? ⟨W.heap.size, k, none⟩ = some (.string (l.getD k ByteArray.empty)) := by
  go_simp
  try simp [List.getD, hk]
set_option maxHeartbeats 4000000 in
theorem of_any (s : ByteArray) (m : Int) (w : World) (hs : s.size < 4294967281) (hm : w.cell? ⟨0, 0, none⟩ = some (.int .i64 m)) :
    Calls Tryd.prog 9 #[.string s] w fun e w' => e = .returned (.tuple #[.int .i64 (ofV s).1, .int .i64 (ofV s).2]) ∧ Below w.heap.size w w' := by
  have h0 : 0 < w.heap.size := block_lt_of_cell hm
  have HS := Lib.hid hs
  have HV : Hid (ofV s = if s = dash then (0, 0) else ofP (pieces s)) := rfl
  by_cases hd : s = dash
  · have HV2 : Hid (ofV s = (0, 0)) := by show ofV s = _; rw [HV.out, if_pos hd]
    generalize ofV s = V at *
    subst hd
    unfold dash at *
    go_enter Tryd.func9, Tryd.ntmps9
    go_wp2
    go_ret2
    exact ⟨by rw [HV2.out]; rfl, Below.refl _ _⟩
  · have HV2 : Hid (ofV s = ofP (pieces s)) := by show ofV s = _; rw [HV.out, if_neg hd]
    generalize ofV s = V at *
    have hq : (s.toList == [45]) = false := by rw [← show dash.toList = [45] by decide +kernel]; exact (Lib.bytes_beq_false_iff s dash).2 hd
    have CSP : Hid (∀ W : World, Below w.heap.size w W → Calls Tryd.prog 24 #[.string s, .string ⟨#[44]⟩] W fun e w' => e = .returned (.slice (some ⟨W.heap.size, 0, none⟩) (pieces s).length (pieces s).length) ∧ w' = W.alloc (.cells ((pieces s).map Value.string).toArray 9)) := fun W hW => by
      have := Tryd.strings_Split s ⟨#[44]⟩ m W HS.out ((hW.cell h0).trans hm) (by decide)
      rwa [← show (pieces s).length = Lib.countB s ⟨#[44]⟩ + 1 from pieces_length s] at this
    have HP : Hid (pieces s ≠ []) := by show pieces s ≠ []; intro h; have := pieces_length s; rw [h] at this; cases this
    have HLEN : Hid ((pieces s).length ≤ 4294967296) := by
      show (pieces s).length ≤ _
      have h1 := Lib.countB_le comma (by decide) s.size s (Nat.le_refl _)
      rw [pieces_length]
      have := HS.out
      omega
    generalize pieces s = l at *
    clear hs hm hd HV
    have hl0 : 1 ≤ l.length := List.length_pos_iff.2 HP.out
    go_enter Tryd.func9, Tryd.ntmps9
    go_wp2_with (first
      | (go_at_call 20; ((with_reducible refine (words_any _).mono ?_); rintro e w1 ⟨rfl, hb1⟩; have hbA := Lib.hid (below_al hb1 (.cells #[.string ⟨#[100, 105, 114, 101, 99, 116, 111, 114]⟩, .string ⟨#[119, 97, 108, 108, 101, 116]⟩, .string ⟨#[102, 97, 99, 116, 111, 114, 121]⟩, .string ⟨#[98, 114, 111, 107, 101, 114]⟩, .string ⟨#[116, 97, 107, 101, 49]⟩, .string ⟨#[116, 97, 107, 101, 50]⟩, .string ⟨#[116, 97, 107, 101, 51]⟩, .string ⟨#[116, 97, 107, 101, 52]⟩] 36))))
      | (go_at_call 24; ((with_reducible refine (CSP.out _ hbA.out).mono ?_); rintro e w2 ⟨rfl, hw2⟩; replace hw2 := Lib.hid hw2)))
    have HWd : Hid (∀ j, j < wds.length → w2.cell? ⟨w1.heap.size, 0 + j, none⟩ = some (.string (wds.getD j ByteArray.empty))) := fun j hj => by
      obtain ⟨b, off, he, hbl, hc⟩ := (strs_new w1 36).below ((Below.refl _ _).alloc (Nat.le_refl _) (.cells (l.map Value.string).toArray 9)) j hj
      cases he
      rw [hw2.out]
      exact hc
    have HPc : Hid (∀ k, k < l.length → w2.cell? ⟨w1.heap.size + 1, k, none⟩ = some (.string (l.getD k ByteArray.empty))) := fun k hk => by
      rw [hw2.out]
      have := cells_new (w1.alloc (.cells #[.string ⟨#[100, 105, 114, 101, 99, 116, 111, 114]⟩, .string ⟨#[119, 97, 108, 108, 101, 116]⟩, .string ⟨#[102, 97, 99, 116, 111, 114, 121]⟩, .string ⟨#[98, 114, 111, 107, 101, 114]⟩, .string ⟨#[116, 97, 107, 101, 49]⟩, .string ⟨#[116, 97, 107, 101, 50]⟩, .string ⟨#[116, 97, 107, 101, 51]⟩, .string ⟨#[116, 97, 107, 101, 52]⟩] 36)) l 9 k hk
      rwa [World.size_alloc] at this
    have hb2 : Hid (Below w.heap.size w w2) := by show Below _ _ _; rw [hw2.out]; exact below_al hbA.out _
    have CI : Hid (∀ x : ByteArray, Calls Tryd.prog 25 #[.slice (some ⟨w1.heap.size, 0, none⟩) 8 8, .string x] w2 fun e w' => e = .returned (.int .i64 (find x)) ∧ w2 = w') := fun x => (Tryd.slices_Index_string w1.heap.size 0 8 8 wds x w2 (Nat.le_refl 8) (by decide) HWd.out).mono fun e w' ⟨h1, h2⟩ => ⟨h1, h2.symm⟩
    have hlen : Hid (l.length ≤ 4294967296) := HLEN
    clear hw2 hbA hb1 CSP hl0
    go_loop [5, 15] (fun r i => ∃ k q : Nat, k ≤ l.length ∧ i = .int .i64 k ∧ r = .int .i64 q ∧ Hid (ofTo l k = some q)) (fun _ i => l.length - (intOf i).toNat)
    case atStart => exact ⟨0, 0, by omega, rfl, rfl, rfl⟩
    case round =>
      obtain ⟨k, q, hk, rfl, rfl, HQ⟩ := hrel
      have hl12 : l.length ≤ 4294967296 := hlen.out
      by_cases hlt : k < l.length
      · have hlt1 : (k : Int) < (l.length : Int) := by omega
        have hc := HPc.out k hlt
        have hq256 := ofTo_lt l k q HQ.out
        have HN : Hid (ofTo l (k + 1) = none → V = (0, 2)) := fun h => by
          rw [HV2.out]
          unfold ofP
          rw [ofTo_no l (k + 1) l.length h hlt]
        have HT : Hid (ofTo l (k + 1) = if find (l.getD k ByteArray.empty) < 0 then none else if q.testBit (find (l.getD k ByteArray.empty)).toNat then none else some (q + 2 ^ (find (l.getD k ByteArray.empty)).toNat)) := by
          show ofTo l (k + 1) = _
          rw [ofTo, HQ.out]
        have hfl := find_lt (l.getD k ByteArray.empty)
        replace CI := Lib.hid (CI.out (l.getD k ByteArray.empty))
        generalize find (l.getD k ByteArray.empty) = F at *
        generalize l.getD k ByteArray.empty = x at *
        by_cases hF : F < 0
        · have dF : decide (F < 0) = true := decide_eq_true hF
          have HN2 : Hid (V = (0, 2)) := HN.out (by rw [HT.out, if_pos hF])
          clear hfl hF hq256
          go_wp2_with (go_at_call 25; ((with_reducible refine CI.out.mono ?_); rintro e w3 ⟨rfl, rfl⟩))
          go_ret2
          exact ⟨by rw [HN2.out]; rfl, hb2.out⟩
        · obtain ⟨i, rfl⟩ := Int.eq_ofNat_of_zero_le (show 0 ≤ F by omega)
          have dF : decide ((i : Int) < 0) = false := decide_eq_false hF
          have hi8 : i < 8 := by omega
          have hbit := bit_one q i hq256
          rw [Int.toNat_natCast, if_neg hF] at HT
          have OP := or_pow q i hq256 hi8
          cases hb : q.testBit i
          · rw [hb] at hbit HT
            obtain ⟨o1, o2⟩ := OP hb
            have HQ2 : Hid (ofTo l (k + 1) = some (q + 2 ^ i)) := HT.out
            have hp : 2 ^ i < 256 := by omega
            have hor := or_nat q (2 ^ i) hq256 hp
            rw [o1] at hor
            obtain ⟨P, qP, zP⟩ : ∃ P : Int, wrap64 (2 ^ i) = P ∧ P = ((2 ^ i : Nat) : Int) := ⟨_, by
              have e : (2 : Int) ^ i = ((2 ^ i : Nat) : Int) := by rw [Int.natCast_pow]; rfl
              rw [e]; clear e; generalize 2 ^ i = Y at *; unfold wrap64; omega, rfl⟩
            rw [← zP] at hor
            generalize q + 2 ^ i = q2 at *
            clear hfl hF hb OP o1 o2 hp zP
            go_wp2_with (go_at_call 25; ((with_reducible refine CI.out.mono ?_); rintro e w3 ⟨rfl, rfl⟩))
            go_round
            case rel => exact ⟨k + 1, q2, by omega, by go_num, rfl, HQ2⟩
            case measure => simp [intOf]; omega
          · rw [hb] at hbit HT
            have HN2 : Hid (V = (0, 2)) := HN.out HT.out
            clear hfl hF hb OP
            go_wp2_with (go_at_call 25; ((with_reducible refine CI.out.mono ?_); rintro e w3 ⟨rfl, rfl⟩))
            go_ret2
            exact ⟨by rw [HN2.out]; rfl, hb2.out⟩
      · have hke : k = l.length := by omega
        subst hke
        have HE : Hid (V = ((q : Int), 0)) := by
          show V = _
          rw [HV2.out]
          unfold ofP
          rw [HQ.out]
        go_wp2
        go_ret2
        exact ⟨by rw [HE.out]; rfl, hb2.out⟩
end Rol
end Go.Proofs.YtfmcggejifnhfaaDoor
