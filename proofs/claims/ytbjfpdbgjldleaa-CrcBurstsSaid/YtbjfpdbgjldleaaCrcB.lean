/- A text of which some bits within 32 are turned has another sum: the plain law and the walk. -/
import Derived.Test.YtbjfpdbgjldleaaCrcQ
import Derived.RegionTactic
import Derived.Laws.IdiomStrings
namespace Go.Proofs.Ytbjfpdbgjldleaa
open Go.RowKit
namespace Crc
theorem stp_inj {x : BitVec 32} (h : stp x = 0#32) : x = 0#32 := by
  rw [stp_eq] at h
  have h31 : ((x >>> 1) ^^^ (if x.getLsbD 0 then poly else 0#32)).getLsbD 31 = false := by rw [h]; simp
  have e : (x >>> 1).getLsbD 31 = false := by rw [BitVec.getLsbD_ushiftRight]; exact BitVec.getLsbD_of_ge x 32 (by omega)
  rw [BitVec.getLsbD_xor, e] at h31
  cases h0 : x.getLsbD 0
  · rw [h0] at h
    simp only [Bool.false_eq_true, if_false, BitVec.xor_zero] at h
    apply BitVec.eq_of_getLsbD_eq
    intro i hi
    cases i with
    | zero => rw [h0]; simp
    | succ i =>
      have : (x >>> 1).getLsbD i = false := by rw [h]; simp
      rw [BitVec.getLsbD_ushiftRight, Nat.add_comm] at this
      rw [this]; simp
  · rw [h0] at h31
    exact absurd h31 (by decide)
theorem stps_inj (n : Nat) (x : BitVec 32) (h : stps n x = 0#32) : x = 0#32 := by
  induction n generalizing x with
  | zero => exact h
  | succ n ih => exact stp_inj (ih _ h)
/-- The lowest k bits. -/
def low (n : BitVec 32) (k : Nat) : BitVec 32 := timesTo (fun k => 1#32 <<< k) n k
theorem one_shl_shr (k : Nat) (h : k < 32) : (1#32 <<< k) >>> k = 1#32 := by
  apply BitVec.eq_of_getLsbD_eq
  intro i hi
  rw [BitVec.getLsbD_ushiftRight, BitVec.getLsbD_shiftLeft]
  by_cases h0 : i = 0
  · subst h0; simp [h]
  · have e1 : (1#32).getLsbD i = false := by simp [h0]
    have e2 : (1#32).getLsbD (k + i - k) = false := by rw [Nat.add_sub_cancel_left]; exact e1
    rw [e1, e2, Bool.and_false]
theorem stps_bit (n k : Nat) (h : k < 32) : stps (n + k) (1#32 <<< k) = stps n 1#32 := by
  rw [Nat.add_comm, stps_add, stps_low k, one_shl_shr k h]
  intro i hi
  rw [BitVec.getLsbD_shiftLeft]
  simp [hi]
theorem run_zeros0 (n : Nat) : run 0#32 (List.replicate n 0) = 0#32 := by rw [← stps8, stps_0]
/-- n bytes, all 0 but that at j. -/
def single (n j : Nat) (m : UInt8) : List UInt8 := (List.replicate n 0).set j m
theorem single_eq (n j : Nat) (m : UInt8) (h : j < n) : single n j m = List.replicate j 0 ++ m :: List.replicate (n - j - 1) 0 := by
  rw [single, List.set_eq_take_append_cons_drop, if_pos (by simpa using h)]
  simp only [List.take_replicate, List.drop_replicate]
  rw [Nat.min_eq_left (by omega), Nat.sub_sub]
theorem one8 (b : Nat) (h : b < 8) : BitVec.ofNat 32 ((1 : UInt8) <<< UInt8.ofNat b).toNat = 1#32 <<< b := by
  match b, h with
  | 0, _ => rfl
  | 1, _ => rfl
  | 2, _ => rfl
  | 3, _ => rfl
  | 4, _ => rfl
  | 5, _ => rfl
  | 6, _ => rfl
  | 7, _ => rfl
theorem run_single (n j b : Nat) (hj : j < n) (hb : b < 8) : run 0#32 (single n j ((1 : UInt8) <<< UInt8.ofNat b)) = stps (8 * n - (8 * j + b)) 1#32 := by
  rw [single_eq n j _ hj]
  have e : ∀ x (l m : List UInt8), run x (l ++ m) = run (run x l) m := fun x l m => by simp [run]
  rw [e, run_zeros0]
  show run (byt 0#32 _) _ = _
  rw [byt, one8 b hb, BitVec.zero_xor, ← stps8, ← stps_add]
  have : 8 + 8 * (n - j - 1) = (8 * n - (8 * j + b)) + b := by omega
  rw [this, stps_bit _ b (by omega)]
/-- A bit of a text turned. -/
def flip (l : List UInt8) (i : Nat) : List UInt8 := l.set (i / 8) (l.getD (i / 8) 0 ^^^ ((1 : UInt8) <<< UInt8.ofNat (i % 8)))
theorem flip_length (l : List UInt8) (i : Nat) : (flip l i).length = l.length := by simp [flip]
theorem flip_xor (l : List UInt8) (i : Nat) (h : i < 8 * l.length) : flip l i = xorL l (single l.length (i / 8) ((1 : UInt8) <<< UInt8.ofNat (i % 8))) := by
  apply List.ext_getElem?
  intro k
  rw [flip, xorL, single, List.getElem?_set, List.getElem?_zipWith, List.getElem?_set]
  have hj : i / 8 < l.length := by omega
  by_cases hk : i / 8 = k
  · subst hk
    simp [hj]
  · rw [if_neg hk, if_neg hk]
    by_cases hkl : k < l.length
    · simp [hkl]
    · simp [List.getElem?_eq_none (Nat.le_of_not_lt hkl)]
theorem sum_flip (l : List UInt8) (i : Nat) (h : i < 8 * l.length) : sum (flip l i) = sum l ^^^ stps (8 * l.length - i) 1#32 := by
  rw [flip_xor l i h]
  unfold sum more
  have := run_xor l (single l.length (i / 8) ((1 : UInt8) <<< UInt8.ofNat (i % 8))) (by simp [single]) (~~~(0#32)) 0#32
  rw [BitVec.xor_zero] at this
  rw [this, run_single _ _ _ (by omega) (by omega), show 8 * (i / 8) + i % 8 = i by omega]
  generalize run (~~~(0#32)) l = a
  rw [← BitVec.xor_allOnes, ← BitVec.xor_allOnes, BitVec.xor_assoc, BitVec.xor_comm (stps _ _), ← BitVec.xor_assoc]
/-- The text after k of the 32 bits from place p on. -/
def fl (s : List UInt8) (p : Nat) (bits : BitVec 32) : Nat → List UInt8
  | 0 => s
  | k + 1 => if bits.getLsbD k && decide (p + k < 8 * s.length) then flip (fl s p bits k) (p + k) else fl s p bits k
theorem fl_length (s : List UInt8) (p : Nat) (bits : BitVec 32) (k : Nat) : (fl s p bits k).length = s.length := by
  induction k with
  | zero => rfl
  | succ k ih => rw [fl]; split <;> simp [flip_length, ih]
/-- The bits that are turned. -/
def trn (s : List UInt8) (p : Nat) (bits : BitVec 32) (k : Nat) : BitVec 32 := low bits (min k (8 * s.length - p))
theorem trn_succ (s : List UInt8) (p : Nat) (bits : BitVec 32) (k : Nat) (hp : p ≤ 8 * s.length) : trn s p bits (k + 1) = if bits.getLsbD k && decide (p + k < 8 * s.length) then trn s p bits k ^^^ (1#32 <<< k) else trn s p bits k := by
  unfold trn low
  by_cases h : p + k < 8 * s.length
  · rw [show min (k + 1) (8 * s.length - p) = k + 1 by omega, show min k (8 * s.length - p) = k by omega, timesTo]
    simp [h]
  · rw [show min (k + 1) (8 * s.length - p) = min k (8 * s.length - p) by omega]
    simp [h]
theorem sum_fl (s : List UInt8) (p : Nat) (bits : BitVec 32) (hp : p ≤ 8 * s.length) (k : Nat) (hk : k ≤ 32) : sum (fl s p bits k) = sum s ^^^ stps (8 * s.length - p) (trn s p bits k) := by
  induction k with
  | zero => rw [trn, Nat.zero_min, low, timesTo, stps_0, BitVec.xor_zero]; rfl
  | succ k ih =>
    have ih := ih (by omega)
    rw [trn_succ s p bits k hp, fl]
    by_cases hc : (bits.getLsbD k && decide (p + k < 8 * s.length)) = true
    · rw [if_pos hc, if_pos hc]
      have hlt : p + k < 8 * s.length := by simp at hc; exact hc.2
      rw [sum_flip _ _ (by rw [fl_length]; exact hlt), ih, fl_length, stps_xor, BitVec.xor_assoc]
      congr 2
      rw [show 8 * s.length - p = (8 * s.length - (p + k)) + k by omega, stps_bit _ k (by omega)]
    · rw [if_neg hc, if_neg hc, ih]
theorem trn_bits (s : List UInt8) (p : Nat) (bits : BitVec 32) (k i : Nat) (hi : i < 32) : (trn s p bits k).getLsbD i = (decide (i < min k (8 * s.length - p)) && bits.getLsbD i) := timesTo_bits bits _ i hi
theorem trn_true (s : List UInt8) (p : Nat) (bits : BitVec 32) (k : Nat) (hp : p ≤ 8 * s.length) (hk : k < 32) (hc : (bits.getLsbD k && decide (p + k < 8 * s.length)) = true) : (trn s p bits (k + 1) != 0#32) = true := by
  rw [bne_iff_ne]
  intro h
  have := trn_bits s p bits (k + 1) k hk
  rw [h] at this
  simp at hc
  simp [hc.1] at this
  omega
theorem sum_ne (s : List UInt8) (p : Nat) (bits : BitVec 32) (hp : p ≤ 8 * s.length) : (sum (fl s p bits 32) != sum s) = (trn s p bits 32 != 0#32) := by
  rw [sum_fl s p bits hp 32 (by omega), Bool.eq_iff_iff, bne_iff_ne, bne_iff_ne]
  constructor
  · intro h h0
    rw [h0, stps_0, BitVec.xor_zero] at h
    exact h rfl
  · intro h h0
    apply h
    apply stps_inj (8 * s.length - p)
    have : sum s ^^^ (sum s ^^^ stps (8 * s.length - p) (trn s p bits 32)) = sum s ^^^ sum s := by rw [h0]
    rwa [← BitVec.xor_assoc, BitVec.xor_self, BitVec.zero_xor] at this
/-- The block of a text's bytes, of which some bits are turned. -/
def fcells (l : List UInt8) (c : Nat) : Array Value := (Own.byteVals l ++ List.replicate c (Value.int .u8 0)).toArray
theorem fcells_get (l : List UInt8) (c j : Nat) (h : j < l.length) : (fcells l c)[j]? = some (.int .u8 ((l.getD j 0).toNat : Int)) := by
  simp [fcells, Own.byteVals, List.getElem?_append, h]
theorem fcells_set (l : List UInt8) (c j : Nat) (x : UInt8) (h : j < l.length) : (fcells l c).setIfInBounds j (.int .u8 (x.toNat : Int)) = fcells (l.set j x) c := by
  unfold fcells
  rw [List.setIfInBounds_toArray]
  congr 1
  rw [List.set_append, if_pos (by rw [Own.byteVals_length]; exact h)]
  congr 1
  simp [Own.byteVals, List.map_set]
theorem bytesCells_f (w : World) (s : ByteArray) : ∃ c, Lib.bytesCells w 5 s = fcells s.data.toList c := by
  refine ⟨grownCap w s.size 0 5 - s.size, ?_⟩
  unfold Lib.bytesCells fcells Own.byteVals
  apply Array.ext'
  simp
theorem heap_setCell_mark (w : World) (g i : Nat) (cs : Array Value) (t : TypeId) (fr : Nat × Nat) (v : Value) (hg : w.heap[g]? = some (.cells cs t fr)) :
    (w.setCell ⟨g, i, none⟩ v).heap[g]? = some (.cells (cs.setIfInBounds i v) t fr) := by
  simp only [World.setCell, Array.getElem?_modify, hg]
  simp
theorem u8_one_shl (r : Nat) (h : r < 8) : IntKind.u8.wrap ((2 : Int) ^ r) = (((1 : UInt8) <<< UInt8.ofNat r).toNat : Int) := by
  match r, h with
  | 0, _ => rfl
  | 1, _ => rfl
  | 2, _ => rfl
  | 3, _ => rfl
  | 4, _ => rfl
  | 5, _ => rfl
  | 6, _ => rfl
  | 7, _ => rfl
set_option maxHeartbeats 1000000 in
theorem crcBursts_walk (s : ByteArray) (hs : s.size ≤ maxLen) (t : Int) (ht : (Lit.int .u16 t).wf = true) (b : Int) (hb : (Lit.int .u32 b).wf = true) (w : World) :
    Calls Try.prog 6 #[.string s, .int .u16 t, .int .u32 b] w fun e w' => e = .returned (.bool true) ∧ Below w.heap.size w w' := by
  obtain ⟨x, rfl⟩ := U_of_wf hb
  have ht := bounds_u16 ht
  have hs' := hs
  unfold maxLen at hs'
  clear hb
  by_cases h1 : 1024 < s.size
  · go_enter Try.func6, Try.ntmps6
    go_wp2_with (go_at_call 8; ((with_reducible refine (awake_any _).mono ?_); rintro e w1 ⟨rfl, hb1⟩))
    go_ret
    exact ⟨rfl, hb1⟩
  by_cases h2 : s.size = 0
  · have h2' : ((s.size : Int) == 0) = true := by simp [h2]
    have h1' : decide (1024 < (s.size : Int)) = false := decide_eq_false (by omega)
    clear h1 h2
    go_enter Try.func6, Try.ntmps6
    go_wp2_with (go_at_call 8; ((with_reducible refine (awake_any _).mono ?_); rintro e w1 ⟨rfl, hb1⟩))
    go_ret
    exact ⟨rfl, hb1⟩
  have h2' : ((s.size : Int) == 0) = false := beq_eq_false_iff_ne.2 (by omega)
  have h3 : 0 < s.size := by omega
  obtain ⟨p, hp⟩ : ∃ p : Nat, Hid (t % (8 * (s.size : Int)) = (p : Int)) := ⟨(t % (8 * (s.size : Int))).toNat, (Int.toNat_of_nonneg (Int.emod_nonneg _ (by omega))).symm⟩
  have hpl : p < 8 * s.size := by
    have h := Int.emod_lt_of_pos t (show (0 : Int) < 8 * (s.size : Int) by omega)
    have := hp.out
    omega
  have hconv := fun w => Lib.run_convert_string_bytes (P := Try.prog) w 9 31 5 s Try.underlying9 Try.underlying31 Try.underlying5
  clear h2
  go_enter Try.func6, Try.ntmps6
  go_wp2
  have HB : Hid (Below w.heap.size w (Lib.bytesWorld w 5 s)) := bytesWorld_below _ _ _
  obtain ⟨c, hc⟩ := bytesCells_f w s
  have HC : Hid ((Lib.bytesWorld w 5 s).heap[w.heap.size]? = some (.cells (fcells s.data.toList c) 5 ((fcells s.data.toList c).size, (fcells s.data.toList c).size + 1))) := by
    have h := Lib.bytesWorld_at_new w 5 s
    rw [hc] at h
    exact h
  generalize Lib.bytesWorld w 5 s = W at HB HC ⊢
  clear hconv hc
  go_loopw [8, 9, 10] (fun tr i _ wr => ∃ k : Nat, k ≤ 32 ∧ i = .int .i64 k ∧ tr = .bool (trn s.data.toList p x k != 0#32) ∧ Below w.heap.size w wr ∧ wr.heap[w.heap.size]? = some (.cells (fcells (fl s.data.toList p x k) c) 5 ((fcells s.data.toList c).size, (fcells s.data.toList c).size + 1))) (fun _ i _ _ => 32 - (intOf i).toNat)
  case atStart => exact ⟨0, by omega, rfl, by simp [trn, low, timesTo], HB.out, HC.out⟩
  case round =>
    obtain ⟨k, hk, rfl, rfl, hb, hc⟩ := hrel
    have HB := Lib.hid hb
    have HC := Lib.hid hc
    clear hb hc
    have h4 : s.size ≤ 1024 := by omega
    have hp1 := hp.out
    by_cases hlt : k < 32
    · have hbt := bitTest x k
      have hsucc := Lib.hid (trn_succ s.data.toList p x k (by simp; omega))
      by_cases hbit : x.getLsbD k = true
      · by_cases hin : p + k < 8 * s.size
        · have hcond : (x.getLsbD k && decide (p + k < 8 * s.data.toList.length)) = true := by simp [hbit, hin]
          have htr := Lib.hid (trn_true s.data.toList p x k (by simp; omega) hlt hcond)
          have hfl : Hid (fl s.data.toList p x (k + 1) = flip (fl s.data.toList p x k) (p + k)) := by show fl _ _ _ _ = _; rw [fl, if_pos hcond]
          rw [hbit] at hbt
          obtain ⟨j, hj⟩ : ∃ j : Nat, Hid (j = (p + k) / 8) := ⟨_, rfl⟩
          obtain ⟨r, hr⟩ : ∃ r : Nat, Hid (r = (p + k) % 8) := ⟨_, rfl⟩
          have hj1 : ((p : Int) + (k : Int)) / 8 = (j : Int) := by have := hj.out; omega
          have hr1 : ((p : Int) + (k : Int)) % 8 = (r : Int) := by have := hr.out; omega
          have hj2 : j < s.size := by have := hj.out; omega
          have hr2 : r < 8 := by have := hr.out; omega
          have hi1 : (p : Int) + (k : Int) < 8 * (s.size : Int) := by omega
          obtain ⟨z, hz⟩ : ∃ z : UInt8, Hid ((1 : UInt8) <<< UInt8.ofNat r = z) := ⟨_, rfl⟩
          obtain ⟨y, hy⟩ : ∃ y : UInt8, Hid ((fl s.data.toList p x k).getD j 0 = y) := ⟨_, rfl⟩
          have hsh := u8_one_shl r hr2
          rw [hz.out] at hsh
          have hlen := fl_length s.data.toList p x k
          have hcell : wr.cell? ⟨w.heap.size, j, none⟩ = some (.int .u8 (y.toNat : Int)) := by
            rw [cell_of_row _ _ _ _ _ _ HC.out, fcells_get _ _ _ (by rw [hlen]; simpa using hj2), hy.out]
          have hfr : wr.frozen? ⟨w.heap.size, j, none⟩ = false := by
            have h := HC.out
            simp only [World.frozen?, h]
            simp [fcells, Own.byteVals]
            omega
          clear hlen hbit hcond
          go_wp2
          go_region
          have hx := u8_xor_b y z
          go_wp2
          go_roundw
          case rel =>
            refine ⟨k + 1, by omega, by go_num, by rw [htr.out], ?_, ?_⟩
            · exact (HB.out.setCell (Nat.le_refl _) _).drew
            · have h := heap_setCell_mark wr w.heap.size j _ _ _ (.int .u8 ((y ^^^ z).toNat : Int)) HC.out
              rw [fcells_set _ _ _ _ (by rw [fl_length]; simpa using hj2)] at h
              rw [hfl.out, flip, ← hj.out, ← hr.out, hz.out, hy.out]
              first | exact h | (rw [hx]; exact h)
          case measure => simp [intOf]; omega
        · have hcond : (x.getLsbD k && decide (p + k < 8 * s.data.toList.length)) = false := by simp [hbit]; simp at hin; exact hin
          have hfl : Hid (fl s.data.toList p x (k + 1) = fl s.data.toList p x k) := by show fl _ _ _ _ = _; rw [fl, hcond]; rfl
          have htn : Hid (trn s.data.toList p x (k + 1) = trn s.data.toList p x k) := by show trn _ _ _ _ = _; rw [hsucc.out, hcond]; rfl
          rw [hbit] at hbt
          have hi1 : decide ((p : Int) + (k : Int) < 8 * (s.size : Int)) = false := decide_eq_false (by omega)
          clear hbit hcond hsucc
          go_wp2
          go_roundw
          case rel => exact ⟨k + 1, by omega, by go_num, by rw [htn.out], HB.out, by rw [hfl.out]; exact HC.out⟩
          case measure => simp [intOf]; omega
      · have hbit : x.getLsbD k = false := by simpa using hbit
        have hcond : (x.getLsbD k && decide (p + k < 8 * s.data.toList.length)) = false := by rw [hbit]; rfl
        have hfl : Hid (fl s.data.toList p x (k + 1) = fl s.data.toList p x k) := by show fl _ _ _ _ = _; rw [fl, hcond]; rfl
        have htn : Hid (trn s.data.toList p x (k + 1) = trn s.data.toList p x k) := by show trn _ _ _ _ = _; rw [hsucc.out, hcond]; rfl
        rw [hbit] at hbt
        clear hbit hcond hsucc
        go_wp2
        go_roundw
        case rel => exact ⟨k + 1, by omega, by go_num, by rw [htn.out], HB.out, by rw [hfl.out]; exact HC.out⟩
        case measure => simp [intOf]; omega
    · have : k = 32 := by omega
      subst this
      have hl := fl_length s.data.toList p x 32
      have hback : ∀ W : World, W.heap[w.heap.size]? = wr.heap[w.heap.size]? → ∀ cap, (convert 31 9 (.slice (some ⟨w.heap.size, 0, none⟩) s.size cap)).run Try.prog W = .ok (.string ⟨(fl s.data.toList p x 32).toArray⟩) W := by
        intro W hW cap
        have := run_convert_bytes_back (P := Try.prog) W 31 9 5 ⟨w.heap.size, 0, none⟩ cap (fl s.data.toList p x 32) Try.underlying31 Try.underlying5 Try.underlying9 (fun j hj => by
          have hadd : (⟨w.heap.size, 0, none⟩ : Addr).add j = ⟨w.heap.size, j, none⟩ := by unfold Addr.add; split <;> simp_all
          rw [hadd, cell_of_row _ _ _ _ _ _ (hW.trans HC.out), fcells_get _ _ _ (by simpa using hj)]
          simp [List.getD, hj])
        rw [hl] at this
        simpa using this
      have hb0 := hback wr rfl
      have hne := sum_ne s.data.toList p x (by simp; omega)
      have hq : (U (sum (fl s.data.toList p x 32)) != U (sum s.data.toList)) = (trn s.data.toList p x 32 != 0#32) := by
        rw [← hne, bne, bne, U_inj]
      have hlm : (fl s.data.toList p x 32).length ≤ maxLen := by rw [hl]; simpa using hs
      have HL := Lib.hid hlm
      clear hback hne hl hlm
      go_wp2_with (first
        | (go_at_call 9; ((with_reducible refine (sum_arr _ HL.out _).mono ?_); rintro e w2 ⟨rfl, hb2⟩))
        | (go_at_call 9; ((with_reducible refine (sum_any s hs _).mono ?_); rintro e w3 ⟨rfl, hb3⟩))
        | (go_at_call 8; ((with_reducible refine (awake_any _).mono ?_); rintro e w4 ⟨rfl, hb4⟩)))
      go_ret
      exact ⟨rfl, below2 (below2 (below2 HB.out hb2) hb3) hb4⟩
end Crc
end Go.Proofs.Ytbjfpdbgjldleaa
