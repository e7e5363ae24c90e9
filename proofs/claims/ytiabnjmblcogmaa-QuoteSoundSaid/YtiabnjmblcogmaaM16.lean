/- Texts put together: QuoL, QuoG, QuoJ, QuoE. -/
import Derived.Test.YtiabnjmblcogmaaM15
import Derived.Test.YtiabnjmblcogmaaM00
set_option linter.all false
section
namespace Go.Proofs.Ytiabnjmblcogmaa
open Go.RowKit
namespace Quo
open Cat (CatIn BayIn chkC nob noy makerV Cam Box box_new box_b box_next box_flat Blues)
open Rec (BlueIn Stk)
open Pen (below2 below_al below_dN)
def wholeTo (c : CatIn) (l : List Int) (level : Int) : Nat → Int
  | 0 => 0
  | k + 1 => wholeTo c l level k + if 0 < l.getD k 0 then timeJ c k l level else 0
def wholeV (c : CatIn) (l : List Int) (level : Int) : Int × Int :=
  if mayB c level ≠ 0 then (0, mayB c level) else if runsOk c l = false then (0, 1) else (wholeTo c l level c.blues.length, 0)
set_option maxRecDepth 100000 in
set_option maxHeartbeats 8000000 in
theorem whole_any (c : CatIn) (w : World) (hc : Cam w c) (a : Option Addr) (cap : Nat) (l : List Int) (hl : l.length ≤ 20) (ha : In.Ints .i64 w a l) (level : Int) :
    Calls Try.prog 17 #[.agg c.val, .slice a l.length cap, .int .i64 level] w fun e w' => e = .returned (.tuple #[.int .i64 (wholeV c l level).1, .int .i64 (wholeV c l level).2]) ∧ Below w.heap.size w w' := by
  have HB0 := Lib.hid (box_new w c 27)
  have CM : Hid (∀ W, Below w.heap.size w W → Calls Try.prog 42 #[.agg c.val, .int .i64 1, .int .i64 level, .slice none 0 0] W fun e w' => e = .returned (.int .i64 (mayB c level)) ∧ Below W.heap.size W w') := fun W h => mayB_any c W (hc.below h) level
  have CR : Hid (∀ W, Below w.heap.size w W → Calls Try.prog 43 #[.agg c.val, .slice a l.length cap] W fun e w' => e = .returned (.bool (runsOk c l)) ∧ Below W.heap.size W w') := fun W h => runs_any c W (hc.below h) a cap l hl (ha.below h)
  have HV : Hid (wholeV c l level = if mayB c level ≠ 0 then (0, mayB c level) else if runsOk c l = false then (0, 1) else (wholeTo c l level c.blues.length, 0)) := rfl
  by_cases hm : mayB c level = 0
  · rw [hm] at CM HV
    have hV1 := HV.out
    rw [if_neg (by simp)] at hV1
    have HV1 := Lib.hid hV1
    clear hV1 HV hm
    cases hr : runsOk c l with
    | false =>
      rw [hr] at CR HV1
      have HV2 : Hid (wholeV c l level = (0, 1)) := by show _ = _; rw [HV1.out, if_pos rfl]
      rw [HV2.out]
      clear hc ha HV1 HV2 hr
      unfold CatIn.val at *
      go_enter Try.func17, Try.ntmps17
      go_wp2_with (first
        | (go_at_call 42; (with_reducible refine (CM.out _ (box_b HB0.out)).mono ?_); rintro e w1 ⟨rfl, hb1⟩; have HB1 := Lib.hid (box_next HB0.out hb1); clear hb1; obtain ⟨c0, c1, c2, c3, c4, c5, c6, c7, -⟩ := box_flat HB1)
        | (go_at_call 43; (with_reducible refine (CR.out _ (box_b HB1.out)).mono ?_); rintro e w2 ⟨rfl, hb2⟩; have HB2 := Lib.hid (box_next HB1.out hb2); clear hb2))
      go_ret2
      exact ⟨rfl, box_b HB2.out⟩
    | true =>
      have hlen := runsOk_len hr
      rw [hr] at CR HV1
      have HV2 : Hid (wholeV c l level = (wholeTo c l level c.blues.length, 0)) := by show _ = _; rw [HV1.out, if_neg (by simp)]
      have CT : Hid (∀ W (k : Nat), k < c.blues.length → Below w.heap.size w W → Calls Try.prog 44 #[.agg (c.blues.getD k nob).val, .int .i64 level, .int .i64 (l.getD k 0)] W fun e w' => e = .returned (.tuple #[.int .i64 (timeJ c k l level), .int .i64 (Rec.timeV (c.blues.getD k nob) level (l.getD k 0)).2]) ∧ Below W.heap.size W w') := fun W k hk h => Rec.refTime_any _ level _ W ((hc.below h).came hk)
      have HTB : Hid (∀ k : Nat, 0 ≤ timeJ c k l level ∧ timeJ c k l level ≤ 109951162777600099) := fun k => time_le _ _ _
      have HW0 : Hid (wholeTo c l level 0 = 0) := rfl
      have HWS : Hid (∀ k, wholeTo c l level (k + 1) = wholeTo c l level k + if 0 < l.getD k 0 then timeJ c k l level else 0) := fun k => rfl
      have hnb := hc.small.1
      have HBl := Lib.hid hc.lies.1
      have HA := Lib.hid ha
      clear hr HV1 hc ha
      generalize wholeV c l level = V at *
      generalize wholeTo c l level = WT at *
      obtain ⟨TJ, hTJ⟩ : ∃ TJ : Nat → Int, Hid ((fun k => timeJ c k l level) = TJ) := ⟨_, rfl⟩
      have hTJ2 : ∀ k, timeJ c k l level = TJ k := fun k => by rw [← hTJ.out]
      simp only [hTJ2] at CT HTB HWS
      clear hTJ hTJ2
      obtain ⟨types, blues, baddr, bcap, places, bays, yaddr, ycap, chars, broker, least, sales⟩ := c
      dsimp only at *
      obtain ⟨L, hLe⟩ : ∃ L, Hid (blues.length = L) := ⟨_, rfl⟩
      rw [hLe.out] at hnb CT HV2 hlen
      have HLl := Lib.hid hlen
      unfold CatIn.val at *
      dsimp only at *
      rw [hlen] at CR ⊢
      rw [hLe.out] at CM CR HB0 ⊢
      clear hl
      go_enter Try.func17, Try.ntmps17
      go_wp2_with (first
        | (go_at_call 42; (with_reducible refine (CM.out _ (box_b HB0.out)).mono ?_); rintro e w1 ⟨rfl, hb1⟩; have HB1 := Lib.hid (box_next HB0.out hb1); clear hb1; obtain ⟨c0, c1, c2, c3, c4, c5, c6, c7, -⟩ := box_flat HB1; dsimp only at c0 c1 c2 c3 c4 c5 c6 c7; rw [hLe.out] at c1)
        | (go_at_call 43; (with_reducible refine (CR.out _ (box_b HB1.out)).mono ?_); rintro e w2 ⟨rfl, hb2⟩; have HB2 := Lib.hid (box_next HB1.out hb2); clear hb2))
      go_loopw [9, 10] (fun x9 x10 wr => ∃ k : Nat, x10 = .int .i64 (k : Int) ∧ x9 = .int .i64 (WT k) ∧ k ≤ L ∧ 0 ≤ WT k ∧ WT k ≤ (k : Int) * 109951162777600099 ∧ Hid (Box w ⟨types, blues, baddr, bcap, places, bays, yaddr, ycap, chars, broker, least, sales⟩ wr)) (fun _ x _ => L - (intOf x).toNat)
      case atStart => exact ⟨0, rfl, by rw [HW0.out], Nat.zero_le _, by rw [HW0.out]; exact Int.le_refl _, by rw [HW0.out]; simp, HB2.out⟩
      case round =>
        obtain ⟨k, rfl, rfl, hk, hn0, hn1, HB⟩ := hrel
        obtain ⟨c0, c1, c2, c3, c4, c5, c6, c7, -⟩ := box_flat HB
        dsimp only at c0 c1 c2 c3 c4 c5 c6 c7
        rw [hLe.out] at c1
        by_cases hkl : k < L
        · have dk : decide ((k : Int) < (L : Int)) = true := decide_eq_true (by omega)
          have hk0 : (0 : Int) ≤ (k : Int) := by omega
          have hk1 : (k : Int) < (L : Int) := by omega
          obtain ⟨rb, ro, rfl, hrl, hrc⟩ := HA.out k (by rw [HLl.out]; exact hkl)
          obtain ⟨b, off, rfl, hbl, hbc⟩ := HBl.out k (by rw [hLe.out]; exact hkl)
          have x0 := ((box_b HB.out).cell (p := ⟨rb, ro + k, none⟩) hrl).trans hrc
          have hrs : rb < wr.heap.size := Nat.lt_of_lt_of_le hrl (box_b HB.out).size
          have HWk := Lib.hid (HWS.out k)
          have CTk := Lib.hid (fun W h => CT.out W k hkl h)
          obtain ⟨ht0, ht1⟩ := HTB.out k
          have HT0 : Hid (Tm w ⟨types, blues, some ⟨b, off, none⟩, bcap, places, bays, yaddr, ycap, chars, broker, least, sales⟩ b (off + k * 7) rb (ro + k) (blues.getD k nob) (l.getD k 0) wr) := ⟨HB.out, hbl, hrl, hbc, hrc⟩
          generalize (Rec.timeV (blues.getD k nob) level (l.getD k 0)).2 = F at *
          generalize l.getD k 0 = q at *
          generalize blues.getD k nob = x at *
          obtain ⟨T, hT⟩ : ∃ T, TJ k = T := ⟨_, rfl⟩
          rw [hT] at ht0 ht1 HWk CTk
          obtain ⟨n, hn⟩ : ∃ n, WT k = n := ⟨_, rfl⟩
          rw [hn] at hn0 hn1 HWk ⊢
          clear hrc hbc hT
          by_cases hp : 0 < q
          · have dp : decide (0 < q) = true := decide_eq_true hp
            have HW1 : Hid (WT (k + 1) = n + T) := by show _ = _; rw [HWk.out, if_pos hp]
            have hs0 : 0 ≤ n + T := by omega
            have hs1 : n + T ≤ ((k + 1 : Nat) : Int) * 109951162777600099 := by push_cast; omega
            have hs2 : n + T ≤ 9223372036854775807 := by omega
            unfold BlueIn.val at *
            go_upto_region 11 with (fail)
            have HT1 := Lib.hid (Tm.next HT0 (Below.refl wr.heap.size wr).drew).out
            go_region_held3 (fun V => V.cell? ⟨w.heap.size, 1, none⟩ = some (.slice (some ⟨b, off, none⟩) L bcap) ∧ V.cell? ⟨b, off + k * 7, none⟩ = some (.int .i64 x.makes) ∧ V.cell? ⟨b, off + k * 7 + 1, none⟩ = some (.int .i64 x.per) ∧ V.cell? ⟨b, off + k * 7 + 2, none⟩ = some (.int .i64 x.time) ∧ V.cell? ⟨b, off + k * 7 + 3, none⟩ = some (.slice x.addr x.needs.length x.cap) ∧ V.cell? ⟨b, off + k * 7 + 4, none⟩ = some (.int .i64 x.copy) ∧ V.cell? ⟨b, off + k * 7 + 5, none⟩ = some (.int .i64 x.study) ∧ V.cell? ⟨b, off + k * 7 + 6, none⟩ = some (.int .i64 x.most) ∧ V.cell? ⟨rb, ro + k, none⟩ = some (.int .i64 q) ∧ Hid (Tm w ⟨types, blues, some ⟨b, off, none⟩, bcap, places, bays, yaddr, ycap, chars, broker, least, sales⟩ b (off + k * 7) rb (ro + k) x q V)) (first | (rw [← hLe.out]; exact tm_flat HT2) | (rw [← hLe.out]; exact tm_flat HT1))
              (first
              | (go_at_call 44; (with_reducible refine (CTk.out _ (box_b HT1.out.box)).mono ?_); rintro e w2 ⟨rfl, hb2⟩; have HT2 := Lib.hid (Tm.next HT1 hb2).out))
            go_wp2
            go_roundw
            case rel => exact ⟨k + 1, by go_num, by rw [HW1.out], by omega, by rw [HW1.out]; exact hs0, by rw [HW1.out]; exact hs1, HT2.out.box⟩
            case measure => simp [intOf]; omega
          · have dp : decide (0 < q) = false := decide_eq_false hp
            have HW1 : Hid (WT (k + 1) = n) := by show _ = _; rw [HWk.out, if_neg hp, Int.add_zero]
            go_wp2
            go_roundw
            case rel => exact ⟨k + 1, by go_num, by rw [HW1.out], by omega, by rw [HW1.out]; exact hn0, by rw [HW1.out]; push_cast; omega, HB.out⟩
            case measure => simp [intOf]; omega
        · have dk : decide ((k : Int) < (L : Int)) = false := decide_eq_false (by omega)
          have hk1 : ¬ (k : Int) < (L : Int) := by omega
          have hkL : k = L := by omega
          subst hkL
          go_wp2
          go_ret2
          exact ⟨by rw [HV2.out]; rfl, box_b HB.out⟩
  · have HV2 : Hid (wholeV c l level = (0, mayB c level)) := by show _ = _; rw [HV.out, if_pos hm]
    rw [HV2.out]
    have dm : (mayB c level != 0) = true := bne_iff_ne.2 hm
    generalize mayB c level = M at *
    clear hc ha HV HV2
    unfold CatIn.val at *
    go_enter Try.func17, Try.ntmps17
    go_wp2_with (go_at_call 42; (with_reducible refine (CM.out _ (box_b HB0.out)).mono ?_); rintro e w1 ⟨rfl, hb1⟩)
    go_ret2
    exact ⟨rfl, below2 (box_b HB0.out) hb1⟩
end Quo
end Go.Proofs.Ytiabnjmblcogmaa
end
section
namespace Go.Proofs.Ytiabnjmblcogmaa
open Go.RowKit
namespace Quo
open Cat (CatIn BayIn chkC nob noy makerV Cam)
open Rec (BlueIn Stk Stks)
/-- Is a span as a job's must be? -/
def spanOk (c : CatIn) (l : List Int) (level : Int) (s : List Stk) (k : Nat) : Bool :=
  if l.getD k 0 = 0 then decide (s.getD k (0, 0) = (0, 0))
  else decide (0 ≤ (s.getD k (0, 0)).1) && (decide (timeJ c k l level ≤ (s.getD k (0, 0)).2) && decide ((s.getD k (0, 0)).2 - timeJ c k l level = (s.getD k (0, 0)).1))
/-- May a job begin before another one ends, for which it waits? -/
def early (c : CatIn) (l : List Int) (s : List Stk) (k x : Nat) : Bool := !decide (l.getD x 0 = 0) && (waitsV c l k x && decide ((s.getD k (0, 0)).1 < (s.getD x (0, 0)).2))
/-- Is another job done when one begins? -/
def busy (l : List Int) (s : List Stk) (k x : Nat) : Bool := !decide (l.getD x 0 = 0) && (decide ((s.getD x (0, 0)).1 ≤ (s.getD k (0, 0)).1) && decide ((s.getD k (0, 0)).1 < (s.getD x (0, 0)).2))
/-- How many are done among the first ones. -/
def busyTo (l : List Int) (s : List Stk) (k : Nat) : Nat → Nat
  | 0 => 0
  | x + 1 => busyTo l s k x + if busy l s k x then 1 else 0
def makeOf (c : CatIn) (bay : Int) : Int := (c.bays.getD (bay.toNat - 1) noy).make
/-- Is a job's time one at which it can be done? -/
def jobOk (c : CatIn) (bay : Int) (l : List Int) (s : List Stk) (k : Nat) : Bool :=
  decide (l.getD k 0 = 0) || ((List.range s.length).all (fun x => !early c l s k x) && decide ((busyTo l s k s.length : Int) ≤ makeOf c bay))
def fitsV (c : CatIn) (bay : Int) (l : List Int) (level : Int) (s : List Stk) : Bool :=
  decide (mayV c bay l level = 0) && (decide (s.length = c.blues.length) && ((List.range s.length).all (spanOk c l level s) && (List.range s.length).all (jobOk c bay l s)))
theorem range_no {P : Nat → Bool} {n k : Nat} (hk : k < n) (h : P k = false) : (List.range n).all P = false := by
  rw [List.all_eq_false]
  exact ⟨k, List.mem_range.2 hk, by rw [h]; decide⟩
theorem range_all {P : Nat → Bool} {n : Nat} (h : ∀ k, k < n → P k = true) : (List.range n).all P = true := by
  rw [List.all_eq_true]
  intro k hk
  exact h k (List.mem_range.1 hk)
theorem busyTo_le (l : List Int) (s : List Stk) (k : Nat) : ∀ n, busyTo l s k n ≤ n
  | 0 => Nat.le_refl _
  | n + 1 => by
    have := busyTo_le l s k n
    rw [busyTo]
    split <;> omega
end Quo
end Go.Proofs.Ytiabnjmblcogmaa
end
section
namespace Go.Proofs.Ytiabnjmblcogmaa
open Go.RowKit
namespace Quo
open Cat (CatIn BayIn chkC nob noy makerV Cam)
open Rec (BlueIn Stk Stks)
open In (Ints)
/-- The job for which a job waits because of a need, if there is one. -/
def waitOf (c : CatIn) (l : List Int) (s : Stk) : List Int := if 0 < makerV c.blues s.1 then (if 0 < l.getD (makerV c.blues s.1 - 1).toNat 0 then [makerV c.blues s.1 - 1] else []) else []
def waitsTo (c : CatIn) (l : List Int) (k i : Nat) : List Int := ((c.blues.getD k nob).needs.take i).flatMap (waitOf c l)
def waitsL (c : CatIn) (l : List Int) (k : Nat) : List Int := (c.blues.getD k nob).needs.flatMap (waitOf c l)
theorem flatMap_take_succ {α β : Type} (f : α → List β) (l : List α) (d : α) (i : Nat) (h : i < l.length) : (l.take (i + 1)).flatMap f = (l.take i).flatMap f ++ f (l.getD i d) := by
  rw [List.take_succ_eq_append_getElem h, List.flatMap_append, List.getD_eq_getElem?_getD, List.getElem?_eq_getElem h]
  simp
theorem waitsTo_succ (c : CatIn) (l : List Int) (k i : Nat) (h : i < (c.blues.getD k nob).needs.length) : waitsTo c l k (i + 1) = waitsTo c l k i ++ waitOf c l ((c.blues.getD k nob).needs.getD i (0, 0)) := flatMap_take_succ _ _ _ _ h
theorem waitsTo_all (c : CatIn) (l : List Int) (k : Nat) : waitsTo c l k (c.blues.getD k nob).needs.length = waitsL c l k := by
  unfold waitsTo waitsL
  rw [List.take_of_length_le (Nat.le_refl _)]
theorem waitOf_len (c : CatIn) (l : List Int) (s : Stk) : (waitOf c l s).length ≤ 1 := by
  unfold waitOf
  split
  · split <;> simp
  · simp
theorem flatMap_len {α β : Type} (f : α → List β) (n : Nat) (hf : ∀ a, (f a).length ≤ n) (l : List α) : (l.flatMap f).length ≤ l.length * n := by
  induction l with
  | nil => simp
  | cons a l ih =>
    rw [List.flatMap_cons, List.length_append, List.length_cons, Nat.succ_mul]
    have := hf a
    omega
theorem waitsTo_len (c : CatIn) (l : List Int) (k i : Nat) : (waitsTo c l k i).length ≤ i := by
  have h := flatMap_len (waitOf c l) 1 (waitOf_len c l) ((c.blues.getD k nob).needs.take i)
  unfold waitsTo
  rw [List.length_take] at h
  omega
theorem maker_le (l : List BlueIn) (z : Int) : makerV l z ≤ (l.length : Int) := by
  have := Cat.fst_up (fun i => (l.getD i nob).makes == z) l.length
  show Cat.fst _ _ + 1 ≤ _
  omega
theorem mem_waitsL {c : CatIn} {l : List Int} {k : Nat} {x : Int} (h : x ∈ waitsL c l k) : 0 ≤ x ∧ x < (c.blues.length : Int) := by
  unfold waitsL at h
  rw [List.mem_flatMap] at h
  obtain ⟨s, -, hs⟩ := h
  unfold waitOf at hs
  have h2 := maker_le c.blues s.1
  split at hs
  · split at hs
    · rw [List.mem_singleton] at hs
      omega
    · cases hs
  · cases hs
/-- A job: its blueprint, those for which it waits, and where they lie, and how long it takes. -/
structure JobIn where
  blue : Nat
  wa : Option Addr
  wcap : Nat
  waits : List Int
  time : Int
def noj : JobIn := ⟨0, none, 0, [], 0⟩
def jcells (j : JobIn) : List Value := [.int .i64 (j.blue : Int), .slice j.wa j.waits.length j.wcap, .int .i64 j.time]
def jobVals (l : List JobIn) : List Value := l.flatMap jcells
theorem jobVals_append (a b : List JobIn) : jobVals (a ++ b) = jobVals a ++ jobVals b := by simp [jobVals]
theorem jobVals_length (l : List JobIn) : (jobVals l).length = l.length * 3 := by
  induction l with
  | nil => rfl
  | cons a l ih => simp only [jobVals, List.flatMap_cons, List.length_append, List.length_cons, jcells, List.length_nil] at ih ⊢; omega
/-- The blueprints that have runs, among the first ones. -/
def jobsTo (l : List Int) (k : Nat) : List Nat := (List.range k).filter fun x => !decide (l.getD x 0 = 0)
theorem jobsTo_succ (l : List Int) (k : Nat) : jobsTo l (k + 1) = jobsTo l k ++ if l.getD k 0 = 0 then [] else [k] := by
  unfold jobsTo
  rw [List.range_succ, List.filter_append]
  by_cases h : l.getD k 0 = 0
  · rw [if_pos h]; rw [List.getD_eq_getElem?_getD] at h; simp [h]
  · rw [if_neg h]; rw [List.getD_eq_getElem?_getD] at h; simp [h]
theorem jobsTo_len (l : List Int) (k : Nat) : (jobsTo l k).length ≤ k := by
  have := List.length_filter_le (fun x => !decide (l.getD x 0 = 0)) (List.range k)
  rw [List.length_range] at this
  exact this
/-- Those for which a job waits, as they lie. -/
def WaitsAt (w : World) (base : Nat) (j : JobIn) : Prop := w.ownsRow base 3 1 (.slice j.wa j.waits.length j.wcap) j.waits.length (j.waits.map (Value.int .i64))
/-- Jobs of the first blueprints. -/
structure JobsOk (c : CatIn) (l : List Int) (level : Int) (n : Nat) (w : World) (base : Nat) (L : List JobIn) : Prop where
  blues : L.map (·.blue) = jobsTo l n
  waits : ∀ j, j ∈ L → j.waits = waitsL c l j.blue
  time : ∀ j, j ∈ L → j.time = timeJ c j.blue l level
  lies : ∀ j, j ∈ L → WaitsAt w base j
theorem JobsOk.len {c : CatIn} {l : List Int} {level : Int} {n : Nat} {w : World} {base : Nat} {L : List JobIn} (h : JobsOk c l level n w base L) : L.length ≤ n := by
  have := congrArg List.length h.blues
  rw [List.length_map] at this
  rw [this]
  exact jobsTo_len _ _
theorem waitsAt_grown {w w' : World} {base : Nat} {j : JobIn} {o : Option Nat} (h : WaitsAt w base j) (hg : w.grownBy w' o) (hne : ∀ g, o = some g → j.wa.map (·.block) ≠ some g) : WaitsAt w' base j := by
  refine h.kept hg ?_
  cases ha : j.wa with
  | none => exact .inl rfl
  | some a =>
    refine .inr fun e => ?_
    have := hne a.block e.symm
    rw [ha] at this
    exact this rfl
theorem waitsAt_below {w w' : World} {base : Nat} {j : JobIn} (h : WaitsAt w base j) (hb : Below w.heap.size w w') : WaitsAt w' base j := Own.own_below h hb
theorem JobsOk.below {c : CatIn} {l : List Int} {level : Int} {n : Nat} {w w' : World} {base : Nat} {L : List JobIn} (h : JobsOk c l level n w base L) (hb : Below w.heap.size w w') : JobsOk c l level n w' base L :=
  ⟨h.blues, h.waits, h.time, fun j hj => waitsAt_below (h.lies j hj) hb⟩
theorem JobsOk.nil (c : CatIn) (l : List Int) (level : Int) (w : World) (base : Nat) : JobsOk c l level 0 w base [] := ⟨rfl, fun j hj => (List.not_mem_nil hj).elim, fun j hj => (List.not_mem_nil hj).elim, fun j hj => (List.not_mem_nil hj).elim⟩
theorem JobsOk.skip {c : CatIn} {l : List Int} {level : Int} {n : Nat} {w : World} {base : Nat} {L : List JobIn} (h : JobsOk c l level n w base L) (h0 : l.getD n 0 = 0) : JobsOk c l level (n + 1) w base L :=
  ⟨by rw [h.blues, jobsTo_succ, if_pos h0, List.append_nil], h.waits, h.time, h.lies⟩
theorem JobsOk.snoc {c : CatIn} {l : List Int} {level : Int} {n : Nat} {w : World} {base : Nat} {L : List JobIn} (h : JobsOk c l level n w base L) (h0 : l.getD n 0 ≠ 0) (j : JobIn) (hb : j.blue = n) (hw : j.waits = waitsL c l n) (ht : j.time = timeJ c n l level) (hl : WaitsAt w base j) : JobsOk c l level (n + 1) w base (L ++ [j]) := by
  refine ⟨by rw [List.map_append, h.blues, jobsTo_succ, if_neg h0, List.map_cons, List.map_nil, hb], ?_, ?_, ?_⟩
  · intro x hx
    rcases List.mem_append.1 hx with h1 | h1
    · exact h.waits x h1
    · rw [List.mem_singleton.1 h1, hb]; exact hw
  · intro x hx
    rcases List.mem_append.1 hx with h1 | h1
    · exact h.time x h1
    · rw [List.mem_singleton.1 h1, hb]; exact ht
  · intro x hx
    rcases List.mem_append.1 hx with h1 | h1
    · exact h.lies x h1
    · rw [List.mem_singleton.1 h1]; exact hl
/-- A job's waits and the row of jobs lie in different blocks. -/
theorem waits_ne {w : World} {base base' n : Nat} {j : JobIn} {v : Value} {xs : List Value} (h : WaitsAt w base j) (hv : w.ownsRow base' 62 3 v n xs) : ∀ g, v.ownBlock = some g → j.wa.map (·.block) ≠ some g := by
  intro g hg e
  rcases hv.2 with ⟨rfl, -⟩ | ⟨g', cap, cur, rfl, -, hg', -⟩
  · cases hg
  · have e1 : g' = g := Option.some.inj hg
    rcases h.2 with ⟨h1, -⟩ | ⟨g2, cap2, cur2, h1, -, hg2, -⟩
    · cases h2 : j.wa with
      | none => rw [h2] at e; cases e
      | some a => rw [h2] at h1; cases h1
    · have h3 : j.wa = some ⟨g2, 0, none⟩ := by injection h1
      rw [h3] at e
      have e2 : g2 = g := Option.some.inj e
      rw [e1, ← e2, hg2] at hg'
      cases hg'
end Quo
end Go.Proofs.Ytiabnjmblcogmaa
end
section
namespace Go.Proofs.Ytiabnjmblcogmaa
namespace Quo
/-- What is to be planned: so many blueprints, which have runs, which wait for which, how long each takes, in how many slots. -/
structure PC where
  n : Nat
  run : Nat → Bool
  wt : Nat → Nat → Bool
  tm : Nat → Int
  sl : Int
/-- Where a plan stands. -/
structure PS where
  out : List (Int × Int)
  beg : List Bool
  now : Int
def endOf (S : PS) (k : Nat) : Int := (S.out.getD k (0, 0)).2
def begOf (S : PS) (k : Nat) : Int := (S.out.getD k (0, 0)).1
def isB (S : PS) (k : Nat) : Bool := S.beg.getD k false
def isD (S : PS) (k : Nat) : Bool := isB S k && decide (S.now < endOf S k)
def isO (S : PS) (k : Nat) : Bool := isB S k && decide (endOf S k ≤ S.now)
def isT (p : PC) (S : PS) (k : Nat) : Bool := p.run k && !isB S k
def isR (p : PC) (S : PS) (k : Nat) : Bool := isT p S k && (List.range p.n).all fun x => !p.wt k x || isO S x
def left (p : PC) (S : PS) : Nat := ((List.range p.n).filter (isT p S)).length
def doing (p : PC) (S : PS) : Nat := ((List.range p.n).filter (isD S)).length
def nextR (p : PC) (S : PS) : Option Nat := (List.range p.n).find? (isR p S)
/-- When the next of the first ones ends that are done now; 0: none is. -/
def thenTo (S : PS) : Nat → Int
  | 0 => 0
  | k + 1 => if isD S k && (decide (thenTo S k = 0) || decide (endOf S k < thenTo S k)) then endOf S k else thenTo S k
def begin1 (p : PC) (S : PS) (k : Nat) : PS := ⟨S.out.set k (S.now, S.now + p.tm k), S.beg.set k true, S.now⟩
def later (p : PC) (S : PS) : PS := ⟨S.out, S.beg, thenTo S p.n⟩
def planTo (p : PC) : Nat → PS → Option (List (Int × Int))
  | 0, _ => none
  | f + 1, S => if left p S = 0 then some S.out else
    match nextR p S with
    | some k => if (doing p S : Int) < p.sl then planTo p f (begin1 p S k) else if thenTo S p.n = 0 then none else planTo p f (later p S)
    | none => if thenTo S p.n = 0 then none else planTo p f (later p S)
def ps0 (n : Nat) : PS := ⟨List.replicate n (0, 0), List.replicate n false, 0⟩
/-- How much is left to be done: the plan's steps are no more. -/
def meas (p : PC) (S : PS) : Nat := 2 * left p S + doing p S
/-- How many have runs. -/
def jobsN (p : PC) : Nat := ((List.range p.n).filter p.run).length
/-- A plan as it stands may be. -/
structure PW (p : PC) (B : Int) (S : PS) : Prop where
  lo : S.out.length = p.n
  lb : S.beg.length = p.n
  now0 : 0 ≤ S.now
  now1 : S.now ≤ B * ((jobsN p : Int) - (left p S : Int))
  en : ∀ k, endOf S k ≤ B * ((jobsN p : Int) - (left p S : Int))
  run : ∀ k, isB S k = true → p.run k = true
  pos : ∀ k, isB S k = true → 0 < endOf S k
  zero : ∀ k, isB S k = false → S.out.getD k (0, 0) = (0, 0)
/-- What is said of a plan's times. -/
structure PT (p : PC) : Prop where
  pos : ∀ k, p.run k = true → 1 ≤ p.tm k
theorem getD_set {α : Type} (l : List α) (k j : Nat) (x d : α) (hk : k < l.length) : (l.set k x).getD j d = if j = k then x else l.getD j d := by
  rw [List.getD_eq_getElem?_getD, List.getElem?_set, List.getD_eq_getElem?_getD]
  by_cases h : k = j
  · subst h; rw [if_pos rfl, if_pos hk, if_pos rfl]; rfl
  · rw [if_neg h, if_neg (fun e => h e.symm)]
theorem filter_len_le {P Q : Nat → Bool} (l : List Nat) (h : ∀ x, x ∈ l → P x = true → Q x = true) : (l.filter P).length ≤ (l.filter Q).length := by
  induction l with
  | nil => simp
  | cons a l ih =>
    have ih := ih fun x hx => h x (List.mem_cons_of_mem _ hx)
    have ha := h a (List.mem_cons_self ..)
    rw [List.filter_cons, List.filter_cons]
    cases hp : P a with
    | false =>
      rw [if_neg (by simp)]
      split
      · rw [List.length_cons]; omega
      · exact ih
    | true =>
      rw [if_pos rfl, if_pos (ha hp), List.length_cons, List.length_cons]
      omega
/-- One that falls out: one less. -/
theorem filter_len_lt {P Q : Nat → Bool} (l : List Nat) (h : ∀ x, x ∈ l → P x = true → Q x = true) {k : Nat} (hk : k ∈ l) (hq : Q k = true) (hp : P k = false) : (l.filter P).length < (l.filter Q).length := by
  induction l with
  | nil => cases hk
  | cons a l ih =>
    rw [List.filter_cons, List.filter_cons]
    by_cases hak : a = k
    · subst hak
      rw [hp, hq, if_neg (by simp), if_pos rfl, List.length_cons]
      have := filter_len_le (P := P) (Q := Q) l fun x hx => h x (List.mem_cons_of_mem _ hx)
      omega
    · have hk2 : k ∈ l := by
        rcases List.mem_cons.1 hk with h1 | h1
        · exact absurd h1.symm hak
        · exact h1
      have ih := ih (fun x hx => h x (List.mem_cons_of_mem _ hx)) hk2
      have ha := h a (List.mem_cons_self ..)
      cases hpa : P a with
      | false =>
        rw [if_neg (by simp)]
        split
        · rw [List.length_cons]; omega
        · exact ih
      | true =>
        rw [if_pos rfl, if_pos (ha hpa), List.length_cons, List.length_cons]
        omega
/-- All but one: just one less. -/
theorem filter_len_but (n : Nat) {P Q : Nat → Bool} {k : Nat} (hk : k < n) (hq : Q k = true) (h : ∀ x, P x = (Q x && !decide (x = k))) : ((List.range n).filter P).length + 1 = ((List.range n).filter Q).length := by
  induction n with
  | zero => omega
  | succ n ih =>
    rw [List.range_succ, List.filter_append, List.filter_append, List.length_append, List.length_append]
    by_cases hkn : k = n
    · subst hkn
      have hsame : (List.range k).filter P = (List.range k).filter Q := by
        apply List.filter_congr
        intro x hx
        rw [h x, decide_eq_false (by have := List.mem_range.1 hx; omega)]
        simp
      rw [hsame]
      have hpk : P k = false := by rw [h k, decide_eq_true rfl]; simp
      simp [hpk, hq]
    · have ih := ih (by omega)
      have hpn : P n = Q n := by rw [h n, decide_eq_false (fun e => hkn e.symm)]; simp
      have : ([n].filter P) = ([n].filter Q) := by simp [List.filter_cons, hpn]
      rw [this]
      omega
theorem isB_begin {p : PC} {S : PS} {k j : Nat} (hk : k < S.beg.length) : isB (begin1 p S k) j = if j = k then true else isB S j := getD_set _ _ _ _ _ hk
theorem out_begin {p : PC} {S : PS} {k j : Nat} (hk : k < S.out.length) : (begin1 p S k).out.getD j (0, 0) = if j = k then (S.now, S.now + p.tm k) else S.out.getD j (0, 0) := getD_set _ _ _ _ _ hk
theorem isT_begin {p : PC} {S : PS} {k j : Nat} (hk : k < S.beg.length) : isT p (begin1 p S k) j = (isT p S j && !decide (j = k)) := by
  unfold isT
  rw [isB_begin hk]
  by_cases h : j = k
  · rw [if_pos h, decide_eq_true h]; simp
  · rw [if_neg h, decide_eq_false h]; simp
theorem left_begin {p : PC} {S : PS} {k : Nat} (hkn : k < p.n) (hk : k < S.beg.length) (ht : isT p S k = true) : left p (begin1 p S k) + 1 = left p S := by
  unfold left
  exact filter_len_but p.n hkn ht fun x => isT_begin hk
theorem find_lt {p : PC} {S : PS} {k : Nat} (h : nextR p S = some k) : k < p.n ∧ isR p S k = true := by
  unfold nextR at h
  exact ⟨List.mem_range.1 (List.mem_of_find?_eq_some h), List.find?_some h⟩
theorem isR_isT {p : PC} {S : PS} {k : Nat} (h : isR p S k = true) : isT p S k = true := by
  unfold isR at h
  rw [Bool.and_eq_true] at h
  exact h.1
theorem isD_begin {p : PC} {S : PS} {k j : Nat} (hb : k < S.beg.length) (ho : k < S.out.length) : isD (begin1 p S k) j = if j = k then decide (S.now < S.now + p.tm k) else isD S j := by
  unfold isD endOf
  rw [isB_begin hb, out_begin ho]
  by_cases h : j = k
  · rw [if_pos h, if_pos h, if_pos h]; rfl
  · rw [if_neg h, if_neg h, if_neg h]; rfl
theorem doing_begin {p : PC} {S : PS} {k : Nat} (hkn : k < p.n) (hb : k < S.beg.length) (ho : k < S.out.length) (hnb : isB S k = false) (ht : 1 ≤ p.tm k) : doing p (begin1 p S k) = doing p S + 1 := by
  unfold doing
  refine (filter_len_but p.n hkn (Q := isD (begin1 p S k)) (P := isD S) ?_ fun x => ?_).symm
  · rw [isD_begin hb ho, if_pos rfl]; exact decide_eq_true (by omega)
  · rw [isD_begin hb ho]
    by_cases h : x = k
    · subst h
      rw [decide_eq_true rfl]
      unfold isD; rw [hnb]; simp
    · rw [if_neg h, decide_eq_false h]; simp
theorem meas_begin {p : PC} {S : PS} {k : Nat} (hkn : k < p.n) (hb : k < S.beg.length) (ho : k < S.out.length) (ht : isT p S k = true) : meas p (begin1 p S k) < meas p S := by
  have h1 := left_begin hkn hb ht
  have h2 : doing p (begin1 p S k) ≤ doing p S + 1 := by
    unfold doing
    have e := filter_len_but p.n (P := fun x => isD (begin1 p S k) x && !decide (x = k)) (Q := fun x => isD (begin1 p S k) x || decide (x = k)) hkn (by simp) (fun x => by
      by_cases h : x = k
      · subst h; simp
      · simp [h])
    have h3 : ((List.range p.n).filter (isD (begin1 p S k))).length ≤ ((List.range p.n).filter (fun x => isD (begin1 p S k) x || decide (x = k))).length := filter_len_le _ fun x _ hx => by simp [hx]
    have h4 : ((List.range p.n).filter (fun x => isD (begin1 p S k) x && !decide (x = k))).length ≤ ((List.range p.n).filter (isD S)).length := filter_len_le _ fun x _ hx => by
      rw [Bool.and_eq_true] at hx
      have hxk : ¬ x = k := by simpa using hx.2
      rw [isD_begin hb ho, if_neg hxk] at hx
      exact hx.1
    omega
  unfold meas
  omega
-- the next time
theorem thenTo_pos {S : PS} (h0 : 0 ≤ S.now) : ∀ n, 0 ≤ thenTo S n
  | 0 => Int.le_refl _
  | n + 1 => by
    have ih := thenTo_pos h0 n
    rw [thenTo]
    split
    · rename_i h
      rw [Bool.and_eq_true] at h
      have h1 := h.1
      unfold isD at h1
      rw [Bool.and_eq_true, decide_eq_true_eq] at h1
      omega
    · exact ih
theorem isD_lt {S : PS} {k : Nat} (h : isD S k = true) : isB S k = true ∧ S.now < endOf S k := by
  unfold isD at h
  rw [Bool.and_eq_true, decide_eq_true_eq] at h
  exact h
/-- The next time is the end of one that is done now, and of no earlier one. -/
theorem thenTo_ok {S : PS} (h0 : 0 ≤ S.now) : ∀ n, (thenTo S n = 0 ∧ ∀ k, k < n → isD S k = false) ∨ (S.now < thenTo S n ∧ (∃ k, k < n ∧ isD S k = true ∧ endOf S k = thenTo S n) ∧ ∀ k, k < n → isD S k = true → thenTo S n ≤ endOf S k)
  | 0 => .inl ⟨rfl, fun k hk => absurd hk (Nat.not_lt_zero k)⟩
  | n + 1 => by
    rw [thenTo]
    cases hd : isD S n with
    | false =>
      rw [Bool.false_and, if_neg (by simp)]
      rcases thenTo_ok h0 n with ⟨h1, h2⟩ | ⟨h1, ⟨k, hk, hk2, hk3⟩, h3⟩
      · refine .inl ⟨h1, fun k hk => ?_⟩
        by_cases e : k = n
        · rw [e]; exact hd
        · exact h2 k (by omega)
      · refine .inr ⟨h1, ⟨k, by omega, hk2, hk3⟩, fun k hk hkd => ?_⟩
        by_cases e : k = n
        · rw [e, hd] at hkd; cases hkd
        · exact h3 k (by omega) hkd
    | true =>
      have hlt := (isD_lt hd).2
      rw [Bool.true_and]
      rcases thenTo_ok h0 n with ⟨h1, h2⟩ | ⟨h1, ⟨k, hk, hk2, hk3⟩, h3⟩
      · rw [h1, if_pos (by simp)]
        refine .inr ⟨hlt, ⟨n, by omega, hd, rfl⟩, fun k hk hkd => ?_⟩
        by_cases e : k = n
        · rw [e]; exact Int.le_refl _
        · rw [h2 k (by omega)] at hkd; cases hkd
      · rw [decide_eq_false (show ¬ thenTo S n = 0 by omega), Bool.false_or]
        by_cases hc : endOf S n < thenTo S n
        · rw [if_pos (decide_eq_true hc)]
          refine .inr ⟨hlt, ⟨n, by omega, hd, rfl⟩, fun k hk hkd => ?_⟩
          by_cases e : k = n
          · rw [e]; exact Int.le_refl _
          · have := h3 k (by omega) hkd; omega
        · rw [if_neg (by simpa using hc)]
          refine .inr ⟨h1, ⟨k, by omega, hk2, hk3⟩, fun k hk hkd => ?_⟩
          by_cases e : k = n
          · rw [e]; omega
          · exact h3 k (by omega) hkd
theorem doing_zero {p : PC} {S : PS} (h : ∀ k, k < p.n → isD S k = false) : doing p S = 0 := by
  unfold doing
  rw [List.length_eq_zero_iff, List.filter_eq_nil_iff]
  intro k hk
  rw [h k (List.mem_range.1 hk)]
  simp
theorem thenTo_zero {p : PC} {S : PS} (h0 : 0 ≤ S.now) : thenTo S p.n = 0 ↔ doing p S = 0 := by
  rcases thenTo_ok h0 p.n with ⟨h1, h2⟩ | ⟨h1, ⟨k, hk, hk2, hk3⟩, h3⟩
  · exact ⟨fun _ => doing_zero h2, fun _ => h1⟩
  · constructor
    · intro h; omega
    · intro h
      unfold doing at h
      rw [List.length_eq_zero_iff, List.filter_eq_nil_iff] at h
      exact absurd hk2 (by simpa using h k (List.mem_range.2 hk))
theorem isD_later {p : PC} {S : PS} (k : Nat) : isD (later p S) k = (isB S k && decide (thenTo S p.n < endOf S k)) := rfl
theorem meas_later {p : PC} {S : PS} (h0 : 0 ≤ S.now) (ht : thenTo S p.n ≠ 0) : meas p (later p S) < meas p S := by
  rcases thenTo_ok h0 p.n with ⟨h1, h2⟩ | ⟨h1, ⟨k, hk, hk2, hk3⟩, h3⟩
  · exact absurd h1 ht
  · have hl : left p (later p S) = left p S := rfl
    have hd : doing p (later p S) < doing p S := by
      unfold doing
      refine filter_len_lt _ (fun x _ hx => ?_) (List.mem_range.2 hk) hk2 ?_
      · rw [isD_later, Bool.and_eq_true, decide_eq_true_eq] at hx
        unfold isD
        rw [hx.1, Bool.true_and]
        exact decide_eq_true (by omega)
      · rw [isD_later, hk3, decide_eq_false (by omega)]; simp
    unfold meas
    omega
-- what stays true
theorem jobsN_left {p : PC} {S : PS} : left p S ≤ jobsN p := by
  unfold left jobsN
  exact filter_len_le _ fun x _ hx => by
    unfold isT at hx
    rw [Bool.and_eq_true] at hx
    exact hx.1
theorem getD_rep {α : Type} (n k : Nat) (d : α) : (List.replicate n d).getD k d = d := by
  rw [List.getD_eq_getElem?_getD, List.getElem?_replicate]
  split <;> rfl
theorem isB_ps0 (n k : Nat) : isB (ps0 n) k = false := getD_rep _ _ _
theorem left_ps0 (p : PC) : left p (ps0 p.n) = jobsN p := by
  unfold left jobsN
  congr 1
  apply List.filter_congr
  intro x _
  unfold isT
  rw [isB_ps0]; simp
theorem doing_ps0 (p : PC) : doing p (ps0 p.n) = 0 := doing_zero fun k _ => by unfold isD; rw [isB_ps0]; rfl
theorem PW.start (p : PC) (B : Int) : PW p B (ps0 p.n) := by
  have e : (jobsN p : Int) - (left p (ps0 p.n) : Int) = 0 := by rw [left_ps0]; omega
  have hz : ∀ k, (ps0 p.n).out.getD k (0, 0) = (0, 0) := fun k => getD_rep _ _ _
  refine ⟨by simp [ps0], by simp [ps0], Int.le_refl _, by rw [e, Int.mul_zero]; exact Int.le_refl _, fun k => ?_, fun k hk => ?_, fun k hk => ?_, fun k _ => hz k⟩
  · rw [e, Int.mul_zero]; unfold endOf; rw [hz k]; exact Int.le_refl _
  · rw [isB_ps0] at hk; cases hk
  · rw [isB_ps0] at hk; cases hk
theorem isT_notB {p : PC} {S : PS} {k : Nat} (h : isT p S k = true) : isB S k = false ∧ p.run k = true := by
  unfold isT at h
  rw [Bool.and_eq_true] at h
  exact ⟨by simpa using h.2, h.1⟩
theorem PW.begin {p : PC} {B : Int} {S : PS} (h : PW p B S) (hB : ∀ k, 0 ≤ p.tm k ∧ p.tm k ≤ B) (hT : PT p) {k : Nat} (hkn : k < p.n) (ht : isT p S k = true) : PW p B (begin1 p S k) := by
  have hb : k < S.beg.length := by rw [h.lb]; exact hkn
  have ho : k < S.out.length := by rw [h.lo]; exact hkn
  have hl := left_begin hkn hb ht
  obtain ⟨hnb, hrun⟩ := isT_notB ht
  have htm := hB k
  have htp := hT.pos k hrun
  have hB0 : 0 ≤ B := by omega
  have e : B * ((jobsN p : Int) - (left p (begin1 p S k) : Int)) = B * ((jobsN p : Int) - (left p S : Int)) + B := by
    have : (left p S : Int) = (left p (begin1 p S k) : Int) + 1 := by omega
    rw [this]
    have : (jobsN p : Int) - (left p (begin1 p S k) : Int) = ((jobsN p : Int) - ((left p (begin1 p S k) : Int) + 1)) + 1 := by omega
    rw [this, Int.mul_add, Int.mul_one]
  have hn1 := h.now1
  have hen := h.en
  refine ⟨by show (S.out.set _ _).length = _; rw [List.length_set]; exact h.lo, by show (S.beg.set _ _).length = _; rw [List.length_set]; exact h.lb, h.now0, by rw [e]; show S.now ≤ _; omega, fun j => ?_, fun j hj => ?_, fun j hj => ?_, fun j hj => ?_⟩
  · rw [e]
    unfold endOf
    rw [out_begin ho]
    by_cases hjk : j = k
    · rw [if_pos hjk]; show S.now + p.tm k ≤ _; omega
    · rw [if_neg hjk]; have := hen j; unfold endOf at this; omega
  · rw [isB_begin hb] at hj
    by_cases hjk : j = k
    · rw [hjk]; exact hrun
    · rw [if_neg hjk] at hj; exact h.run j hj
  · unfold endOf
    rw [out_begin ho]
    rw [isB_begin hb] at hj
    by_cases hjk : j = k
    · rw [if_pos hjk]; have := h.now0; show 0 < S.now + p.tm k; omega
    · rw [if_neg hjk] at hj ⊢; exact h.pos j hj
  · rw [isB_begin hb] at hj
    by_cases hjk : j = k
    · rw [if_pos hjk] at hj; cases hj
    · rw [if_neg hjk] at hj; rw [out_begin ho, if_neg hjk]; exact h.zero j hj
theorem PW.later {p : PC} {B : Int} {S : PS} (h : PW p B S) : PW p B (later p S) := by
  have hl : left p (Quo.later p S) = left p S := rfl
  have h0 := h.now0
  refine ⟨h.lo, h.lb, thenTo_pos h0 _, ?_, h.en, h.run, h.pos, h.zero⟩
  show thenTo S p.n ≤ _
  rw [hl]
  rcases thenTo_ok h0 p.n with ⟨h1, h2⟩ | ⟨h1, ⟨k, hk, hk2, hk3⟩, h3⟩
  · rw [h1]; have := h.now1; omega
  · rw [← hk3]; exact h.en k
end Quo
end Go.Proofs.Ytiabnjmblcogmaa
end
