/- Texts put together: PenS2, CatA, CatS, CatC. -/
import Derived.Test.YtiabnjmblcogmaaM07
import Derived.Test.YtiabnjmblcogmaaM02
import Derived.Deep.DeepMust
set_option linter.all false
section
namespace Go.Proofs.Ytiabnjmblcogmaa
open Go.RowKit
namespace Pen
theorem st2_none {S : ByteArray} {p : Nat} {b : Bool} (h : st2 S p b = none) : b = true := by cases b with | true => rfl | false => cases h
theorem st2_some {S : ByteArray} {p : Nat} {b : Bool} {l : List UInt8} (h : st2 S p b = some l) : b = false := by cases b with | false => rfl | true => cases h
theorem below_dN {a b : World} {k : Nat} (h : Below k a b) (n : Nat) : Below k a (b.drewN n) := ⟨h.os, h.tape, h.output, h.size, h.block⟩
/-- What is made of a word. -/
def capped (most : Int) (r : Int × Option (List UInt8)) : Int × Option (List UInt8) := if (9223372036854775807 : Int) < r.1 ∨ most < r.1 ∨ r.2 = none then (0, none) else r
theorem capped_rdO (most : Int) (o : Option (List UInt8)) : capped most (rdO o) = uintS most o := by
  cases o with
  | none => simp [capped, rdO, uintS]
  | some l =>
    unfold rdO uintS
    simp only
    cases rd l with
    | none => simp [capped]
    | some r =>
      obtain ⟨n, l'⟩ := r
      simp only [capped]
      simp
theorem rdO_low (o : Option (List UInt8)) : 0 ≤ (rdO o).1 := by
  cases o with
  | none => decide
  | some l =>
    unfold rdO
    simp only
    cases rd l with
    | none => decide
    | some r => exact Int.natCast_nonneg _
end Pen
end Go.Proofs.Ytiabnjmblcogmaa
end
section
namespace Go.Proofs.Ytiabnjmblcogmaa
open Go.RowKit
namespace Cat
open Rec (BlueIn Stk Stks Came bchk inB)
open Gra (Prs)
structure BayIn where
  place : Int
  make : Int
  lab : Int
  rate : Int
def BayIn.val (b : BayIn) : Array Value := #[.int .i64 b.place, .int .i64 b.make, .int .i64 b.lab, .int .i64 b.rate]
structure CatIn where
  types : Int
  blues : List BlueIn
  baddr : Option Addr
  bcap : Nat
  places : Int
  bays : List BayIn
  yaddr : Option Addr
  ycap : Nat
  chars : Int
  broker : Int
  least : Int
  sales : Int
def CatIn.val (c : CatIn) : Array Value := #[.int .i64 c.types, .slice c.baddr c.blues.length c.bcap, .int .i64 c.places, .slice c.yaddr c.bays.length c.ycap, .int .i64 c.chars, .int .i64 c.broker, .int .i64 c.least, .int .i64 c.sales]
def nob : BlueIn := ⟨0, 0, 0, [], none, 0, 0, 0, 0⟩
def noy : BayIn := ⟨0, 0, 0, 0⟩
/-- Blueprints that stand from an address on. -/
def Blues (w : World) (a : Option Addr) (l : List BlueIn) : Prop :=
  ∀ i, i < l.length → ∃ b off, a = some ⟨b, off, none⟩ ∧ b < w.heap.size ∧ w.cell? ⟨b, off + i * 7, none⟩ = some (.int .i64 (l.getD i nob).makes) ∧ w.cell? ⟨b, off + i * 7 + 1, none⟩ = some (.int .i64 (l.getD i nob).per) ∧ w.cell? ⟨b, off + i * 7 + 2, none⟩ = some (.int .i64 (l.getD i nob).time)
    ∧ w.cell? ⟨b, off + i * 7 + 3, none⟩ = some (.slice (l.getD i nob).addr (l.getD i nob).needs.length (l.getD i nob).cap) ∧ w.cell? ⟨b, off + i * 7 + 4, none⟩ = some (.int .i64 (l.getD i nob).copy) ∧ w.cell? ⟨b, off + i * 7 + 5, none⟩ = some (.int .i64 (l.getD i nob).study) ∧ w.cell? ⟨b, off + i * 7 + 6, none⟩ = some (.int .i64 (l.getD i nob).most)
/-- Bays that stand from an address on. -/
def Bays (w : World) (a : Option Addr) (l : List BayIn) : Prop :=
  ∀ i, i < l.length → ∃ b off, a = some ⟨b, off, none⟩ ∧ b < w.heap.size ∧ w.cell? ⟨b, off + i * 4, none⟩ = some (.int .i64 (l.getD i noy).place) ∧ w.cell? ⟨b, off + i * 4 + 1, none⟩ = some (.int .i64 (l.getD i noy).make) ∧ w.cell? ⟨b, off + i * 4 + 2, none⟩ = some (.int .i64 (l.getD i noy).lab) ∧ w.cell? ⟨b, off + i * 4 + 3, none⟩ = some (.int .i64 (l.getD i noy).rate)
theorem Blues.below {w w' : World} {a : Option Addr} {l : List BlueIn} (h : Blues w a l) (hb : Below w.heap.size w w') : Blues w' a l := fun i hi => by
  obtain ⟨b, off, ha, hlt, c0, c1, c2, c3, c4, c5, c6⟩ := h i hi
  exact ⟨b, off, ha, Nat.lt_of_lt_of_le hlt hb.size, (hb.cell (p := ⟨b, off + i * 7, none⟩) hlt).trans c0, (hb.cell (p := ⟨b, off + i * 7 + 1, none⟩) hlt).trans c1, (hb.cell (p := ⟨b, off + i * 7 + 2, none⟩) hlt).trans c2, (hb.cell (p := ⟨b, off + i * 7 + 3, none⟩) hlt).trans c3, (hb.cell (p := ⟨b, off + i * 7 + 4, none⟩) hlt).trans c4, (hb.cell (p := ⟨b, off + i * 7 + 5, none⟩) hlt).trans c5, (hb.cell (p := ⟨b, off + i * 7 + 6, none⟩) hlt).trans c6⟩
theorem Bays.below {w w' : World} {a : Option Addr} {l : List BayIn} (h : Bays w a l) (hb : Below w.heap.size w w') : Bays w' a l := fun i hi => by
  obtain ⟨b, off, ha, hlt, c0, c1, c2, c3⟩ := h i hi
  exact ⟨b, off, ha, Nat.lt_of_lt_of_le hlt hb.size, (hb.cell (p := ⟨b, off + i * 4, none⟩) hlt).trans c0, (hb.cell (p := ⟨b, off + i * 4 + 1, none⟩) hlt).trans c1, (hb.cell (p := ⟨b, off + i * 4 + 2, none⟩) hlt).trans c2, (hb.cell (p := ⟨b, off + i * 4 + 3, none⟩) hlt).trans c3⟩
def Lies (w : World) (c : CatIn) : Prop := Blues w c.baddr c.blues ∧ Bays w c.yaddr c.bays ∧ ∀ i, i < c.blues.length → Stks w (c.blues.getD i nob).addr (c.blues.getD i nob).needs
theorem Lies.below {w w' : World} {c : CatIn} (h : Lies w c) (hb : Below w.heap.size w w') : Lies w' c := ⟨h.1.below hb, h.2.1.below hb, fun i hi => (h.2.2 i hi).below hb⟩
def In64 (x : Int) : Prop := (Lit.int .i64 x).wf = true
def BlueNums (b : BlueIn) : Prop := In64 b.makes ∧ In64 b.per ∧ In64 b.time ∧ In64 b.copy ∧ In64 b.study ∧ In64 b.most ∧ ∀ k, k < b.needs.length → In64 (b.needs.getD k (0, 0)).1 ∧ In64 (b.needs.getD k (0, 0)).2
def BayNums (b : BayIn) : Prop := In64 b.place ∧ In64 b.make ∧ In64 b.lab ∧ In64 b.rate
/-- All numbers are int's. -/
def Nums (c : CatIn) : Prop := In64 c.types ∧ In64 c.places ∧ In64 c.chars ∧ In64 c.broker ∧ In64 c.least ∧ In64 c.sales ∧ (∀ i, i < c.blues.length → BlueNums (c.blues.getD i nob)) ∧ ∀ i, i < c.bays.length → BayNums (c.bays.getD i noy)
/-- Few parts. -/
def Small (c : CatIn) : Prop := c.blues.length ≤ 20 ∧ c.bays.length ≤ 12 ∧ ∀ i, i < c.blues.length → (c.blues.getD i nob).needs.length ≤ 12
/-- A catalogue that lies there, of few parts. -/
structure Cam (w : World) (c : CatIn) : Prop where
  lies : Lies w c
  small : Small c
  nums : Nums c
theorem Cam.below {w w' : World} {c : CatIn} (h : Cam w c) (hb : Below w.heap.size w w') : Cam w' c := ⟨h.lies.below hb, h.small, h.nums⟩
theorem Cam.came {w : World} {c : CatIn} (h : Cam w c) {i : Nat} (hi : i < c.blues.length) : Came w (c.blues.getD i nob) :=
  ⟨h.small.2.2 i hi, h.lies.2.2 i hi, fun k hk => ((h.nums.2.2.2.2.2.2.1 i hi).2.2.2.2.2.2 k hk).1, (h.nums.2.2.2.2.2.2.1 i hi).1⟩
/-- Which types need which others. -/
def needsOf (l : List BlueIn) : List (Int × Int) := l.flatMap fun b => b.needs.map fun s => (b.makes, s.1)
theorem getD_take {α : Type} (l : List α) (d : α) (i : Nat) (h : i < l.length) : l.take (i + 1) = l.take i ++ [l.getD i d] := by
  rw [List.take_add_one, List.getElem?_eq_getElem h, List.getD_eq_getElem?_getD, List.getElem?_eq_getElem h]; rfl
theorem needsOf_snoc (l : List BlueIn) (i : Nat) (h : i < l.length) : needsOf (l.take (i + 1)) = needsOf (l.take i) ++ (l.getD i nob).needs.map fun s => ((l.getD i nob).makes, s.1) := by
  rw [getD_take l nob i h]; simp [needsOf]
theorem needs_snoc (m : Int) (l : List Stk) (k : Nat) (h : k < l.length) : (l.take (k + 1)).map (fun s => (m, s.1)) = (l.take k).map (fun s => (m, s.1)) ++ [(m, (l.getD k (0, 0)).1)] := by
  rw [getD_take l (0, 0) k h]; simp
/-- Where a number stands first; -1: nowhere. -/
def fst (P : Nat → Bool) : Nat → Int
  | 0 => -1
  | n + 1 => if fst P n = -1 then (if P n then (n : Int) else -1) else fst P n
theorem fst_stay (P : Nat → Bool) (k : Nat) (h : fst P k = -1) (hk : P k = true) (n : Nat) (hn : k < n) : fst P n = (k : Int) := by
  induction n with
  | zero => omega
  | succ n ih =>
    by_cases e : n = k
    · subst e; rw [fst, if_pos h, if_pos hk]
    · rw [fst, ih (by omega), if_neg (by omega)]
theorem fst_go (P : Nat → Bool) (k : Nat) (h : fst P k = -1) (hk : P k = false) : fst P (k + 1) = -1 := by
  rw [fst, if_pos h, hk]; rfl
theorem fst_low (P : Nat → Bool) (n : Nat) : -1 ≤ fst P n := by
  induction n with
  | zero => exact Int.le_refl _
  | succ n ih =>
    rw [fst]
    split
    · split <;> omega
    · exact ih
theorem fst_none (P : Nat → Bool) (n : Nat) : fst P n = -1 ↔ ∀ k, k < n → P k = false := by
  induction n with
  | zero => exact ⟨fun _ k hk => by omega, fun _ => rfl⟩
  | succ n ih =>
    rw [fst]
    constructor
    · intro h k hk
      split at h
      · rename_i h0
        by_cases e : k = n
        · subst e
          cases hp : P k
          · rfl
          · rw [hp, if_pos rfl] at h; omega
        · exact ih.1 h0 k (by omega)
      · rename_i h0; exact absurd h h0
    · intro h
      rw [if_pos (ih.2 fun k hk => h k (by omega)), h n (by omega)]; rfl
end Cat
end Go.Proofs.Ytiabnjmblcogmaa
end
section
namespace Go.Proofs.Ytiabnjmblcogmaa
open Go.RowKit
namespace Cat
open Rec (BlueIn Stk Stks Came bchk inB)
open Pen (below2 below_al)
theorem cin_any (n f t : Int) (w : World) :
    Calls Try.prog 75 #[.int .i64 n, .int .i64 f, .int .i64 t] w fun e w' => e = .returned (.bool (inB (n, f, t))) ∧ w = w' := by
  have HI : Hid (inB (n, f, t) = (decide (f ≤ n) && decide (n ≤ t))) := rfl
  generalize inB (n, f, t) = B at *
  by_cases h1 : f ≤ n
  · by_cases h2 : n ≤ t
    · have HB : Hid (B = true) := by show B = true; rw [HI.out, decide_eq_true h1, decide_eq_true h2]; rfl
      have d1 := decide_eq_true h1
      have d2 := decide_eq_true h2
      go_enter Try.func75, Try.ntmps75
      go_wp2
      go_ret
      exact ⟨by rw [HB.out]; rfl, rfl⟩
    · have HB : Hid (B = false) := by show B = false; rw [HI.out, decide_eq_false h2]; simp
      have d1 := decide_eq_true h1
      have d2 := decide_eq_false h2
      go_enter Try.func75, Try.ntmps75
      go_wp2
      go_ret
      exact ⟨by rw [HB.out]; rfl, rfl⟩
  · have HB : Hid (B = false) := by show B = false; rw [HI.out, decide_eq_false h1]; rfl
    have d1 := decide_eq_false h1
    go_enter Try.func75, Try.ntmps75
    go_wp2
    go_ret
    exact ⟨by rw [HB.out]; rfl, rfl⟩
/-- Whether a bay may be. -/
def okY (places : Int) (b : BayIn) : Bool := inB (b.place, 1, places) && (inB (b.make, 0, 8) && (inB (b.lab, 0, 8) && inB (b.rate, 0, 10000)))
theorem badBlue_any (b : BlueIn) (types : Int) (g : Nat) (w : World) (hb : Came w b) (hg : w.cell? ⟨g, 0, none⟩ = some (.int .i64 types)) (hgl : g < w.heap.size) :
    Calls Try.prog 76 #[.agg b.val, .pointer (some ⟨g, 0, none⟩)] w fun e w' => e = .returned (.bool (decide (bchk b types ≠ 0))) ∧ Below w.heap.size w w' := by
  have CC : Hid (∀ W, Below w.heap.size w W → Calls Try.prog 77 #[.agg b.val, .int .i64 types] W fun e w' => e = .returned (.int .i64 (bchk b types)) ∧ Below W.heap.size W w') := fun W h => Rec.check_any b types W ⟨hb.1, hb.2.1.below h, hb.2.2⟩
  obtain ⟨R, hR⟩ : ∃ R, Hid (bchk b types = R) := ⟨_, rfl⟩
  have HR := Lib.hid (Rec.bchk_two b types)
  rw [hR.out] at CC HR ⊢
  have hbw := (Below.refl w.heap.size w).alloc (Nat.le_refl _) (.cells b.val 51)
  unfold BlueIn.val at *
  clear hb hR
  rcases HR.out with rfl | rfl
  all_goals
    go_enter Try.func76, Try.ntmps76
    go_wp2_with (go_at_call 77; ((with_reducible refine (CC.out _ hbw).mono ?_); rintro e wq ⟨rfl, hbq⟩))
    go_ret
    exact ⟨rfl, below2 hbw hbq⟩
theorem makes_any (b : BlueIn) (kind : Int) (g : Nat) (w : World) (hg : w.cell? ⟨g, 0, none⟩ = some (.int .i64 kind)) (hgl : g < w.heap.size) :
    Calls Try.prog 72 #[.agg b.val, .pointer (some ⟨g, 0, none⟩)] w fun e w' => e = .returned (.bool (b.makes == kind)) ∧ Below w.heap.size w w' := by
  have hbw := (Below.refl w.heap.size w).alloc (Nat.le_refl _) (.cells b.val 51)
  unfold BlueIn.val at *
  go_enter Try.func72, Try.ntmps72
  go_wp2
  go_ret
  exact ⟨rfl, hbw⟩
set_option maxHeartbeats 1000000 in
theorem badBay_any (b : BayIn) (places : Int) (g : Nat) (w : World) (hg : w.cell? ⟨g, 2, none⟩ = some (.int .i64 places)) (hgl : g < w.heap.size) :
    Calls Try.prog 78 #[.agg b.val, .pointer (some ⟨g, 0, none⟩)] w fun e w' => e = .returned (.bool (!okY places b)) ∧ Below w.heap.size w w' := by
  have HS : Hid (okY places b = (inB (b.place, 1, places) && (inB (b.make, 0, 8) && (inB (b.lab, 0, 8) && inB (b.rate, 0, 10000))))) := rfl
  have I1 : Hid (∀ W, Calls Try.prog 75 #[.int .i64 b.place, .int .i64 1, .int .i64 places] W _) := fun W => cin_any _ _ _ W
  have I2 : Hid (∀ W, Calls Try.prog 75 #[.int .i64 b.make, .int .i64 0, .int .i64 8] W _) := fun W => cin_any _ _ _ W
  have I3 : Hid (∀ W, Calls Try.prog 75 #[.int .i64 b.lab, .int .i64 0, .int .i64 8] W _) := fun W => cin_any _ _ _ W
  have I4 : Hid (∀ W, Calls Try.prog 75 #[.int .i64 b.rate, .int .i64 0, .int .i64 10000] W _) := fun W => cin_any _ _ _ W
  have hbw := (Below.refl w.heap.size w).alloc (Nat.le_refl _) (.cells b.val 48)
  generalize inB (b.place, 1, places) = X1 at *
  generalize inB (b.make, 0, 8) = X2 at *
  generalize inB (b.lab, 0, 8) = X3 at *
  generalize inB (b.rate, 0, 10000) = X4 at *
  generalize okY places b = O at *
  unfold BayIn.val at *
  cases X1
  ·
    have HO : Hid (O = false) := HS.out
    obtain rfl := HO.out
    go_enter Try.func78, Try.ntmps78
    go_wp2_with (go_at_call 75; ((first | (with_reducible refine (I1.out _).mono ?_) | (with_reducible refine (I2.out _).mono ?_) | (with_reducible refine (I3.out _).mono ?_) | (with_reducible refine (I4.out _).mono ?_)); rintro e wq ⟨rfl, rfl⟩))
    go_ret
    exact ⟨rfl, hbw⟩
  ·
    cases X2
    ·
      have HO : Hid (O = false) := HS.out
      obtain rfl := HO.out
      go_enter Try.func78, Try.ntmps78
      go_wp2_with (go_at_call 75; ((first | (with_reducible refine (I1.out _).mono ?_) | (with_reducible refine (I2.out _).mono ?_) | (with_reducible refine (I3.out _).mono ?_) | (with_reducible refine (I4.out _).mono ?_)); rintro e wq ⟨rfl, rfl⟩))
      go_ret
      exact ⟨rfl, hbw⟩
    ·
      cases X3
      ·
        have HO : Hid (O = false) := HS.out
        obtain rfl := HO.out
        go_enter Try.func78, Try.ntmps78
        go_wp2_with (go_at_call 75; ((first | (with_reducible refine (I1.out _).mono ?_) | (with_reducible refine (I2.out _).mono ?_) | (with_reducible refine (I3.out _).mono ?_) | (with_reducible refine (I4.out _).mono ?_)); rintro e wq ⟨rfl, rfl⟩))
        go_ret
        exact ⟨rfl, hbw⟩
      ·
        cases X4
        ·
          have HO : Hid (O = false) := HS.out
          obtain rfl := HO.out
          go_enter Try.func78, Try.ntmps78
          go_wp2_with (go_at_call 75; ((first | (with_reducible refine (I1.out _).mono ?_) | (with_reducible refine (I2.out _).mono ?_) | (with_reducible refine (I3.out _).mono ?_) | (with_reducible refine (I4.out _).mono ?_)); rintro e wq ⟨rfl, rfl⟩))
          go_ret
          exact ⟨rfl, hbw⟩
        ·
          have HO : Hid (O = true) := HS.out
          obtain rfl := HO.out
          go_enter Try.func78, Try.ntmps78
          go_wp2_with (go_at_call 75; ((first | (with_reducible refine (I1.out _).mono ?_) | (with_reducible refine (I2.out _).mono ?_) | (with_reducible refine (I3.out _).mono ?_) | (with_reducible refine (I4.out _).mono ?_)); rintro e wq ⟨rfl, rfl⟩))
          go_ret
          exact ⟨rfl, hbw⟩
set_option maxHeartbeats 1000000 in
theorem indexBad_any (a : Option Addr) (cap : Nat) (l : List BlueIn) (hl : l.length ≤ 20) (x : Int) (g : Nat) (w : World) (ha : Blues w a l) (hcm : ∀ i, i < l.length → Came w (l.getD i nob)) (hg : w.cell? ⟨g, 0, none⟩ = some (.int .i64 x)) (hgl : g < w.heap.size) :
    Calls Try.prog 71 #[.slice a l.length cap, .func (.func 76) #[] #[.pointer (some ⟨g, 0, none⟩)]] w fun e w' => e = .returned (.int .i64 (fst (fun i => decide (bchk (l.getD i nob) x ≠ 0)) l.length)) ∧ Below w.heap.size w w' := by
  have HA := Lib.hid ha
  have CL : Hid (∀ (k : Nat) (W : World), k < l.length → Below w.heap.size w W → Calls Try.prog 76 #[.agg (l.getD k nob).val, .pointer (some ⟨g, 0, none⟩)] W fun e w' => e = .returned (.bool ((fun i => decide (bchk (l.getD i nob) x ≠ 0)) k)) ∧ Below W.heap.size W w') := fun k W hk hB => badBlue_any _ x g W ⟨(hcm k hk).1, (hcm k hk).2.1.below hB, (hcm k hk).2.2⟩ ((hB.cell (p := ⟨g, 0, none⟩) hgl).trans hg) (Nat.lt_of_lt_of_le hgl hB.size)
  obtain ⟨P, hP⟩ : ∃ P : Nat → Bool, (fun i => decide (bchk (l.getD i nob) x ≠ 0)) = P := ⟨_, rfl⟩
  rw [hP] at CL ⊢
  clear ha hP hcm
  go_enter Try.func71, Try.ntmps71
  go_wp2
  go_loopw [8] (fun i wr => ∃ k : Nat, k ≤ l.length ∧ i = .int .i64 k ∧ Below w.heap.size w wr ∧ Hid (fst P k = -1)) (fun i _ => l.length - (intOf i).toNat)
  case atStart => exact ⟨0, by omega, rfl, Below.refl _ _, rfl⟩
  case round =>
    obtain ⟨k, hk, rfl, hb, HF⟩ := hrel
    by_cases hlt : k < l.length
    · obtain ⟨b, off, rfl, hbl, c0, c1, c2, c3, c4, c5, c6⟩ := (HA.out.below hb) k hlt
      have hlt1 : (k : Int) < (l.length : Int) := by omega
      have CC := Lib.hid (CL.out k wr hlt hb)
      have HFS := Lib.hid (fun hp => fst_stay P k HF.out hp l.length hlt)
      have HFG := Lib.hid (fst_go P k HF.out)
      generalize l.getD k nob = E at *
      unfold BlueIn.val at CC
      obtain ⟨B, hB⟩ : ∃ B, P k = B := ⟨_, rfl⟩
      rw [hB] at CC
      cases B
      · have HF2 := Lib.hid (HFG.out hB)
        clear hB HFS HFG
        go_wp2_with (go_at_call 76; ((with_reducible refine CC.out.mono ?_); rintro e wq ⟨rfl, hbq⟩))
        go_roundw
        case rel => exact ⟨k + 1, by omega, by go_num, below2 hb hbq, HF2⟩
        case measure => simp [intOf]; omega
      · have HF2 := Lib.hid (HFS.out hB)
        clear hB HFS HFG
        go_wp2_with (go_at_call 76; ((with_reducible refine CC.out.mono ?_); rintro e wq ⟨rfl, hbq⟩))
        go_ret
        exact ⟨by rw [HF2.out]; rfl, below2 hb hbq⟩
    · have hke : k = l.length := by omega
      rw [hke] at HF
      clear hke
      go_wp2
      go_ret
      exact ⟨by rw [HF.out]; rfl, hb⟩
theorem containsBad_any (a : Option Addr) (cap : Nat) (l : List BlueIn) (hl : l.length ≤ 20) (x : Int) (g : Nat) (w : World) (ha : Blues w a l) (hcm : ∀ i, i < l.length → Came w (l.getD i nob)) (hg : w.cell? ⟨g, 0, none⟩ = some (.int .i64 x)) (hgl : g < w.heap.size) :
    Calls Try.prog 79 #[.slice a l.length cap, .func (.func 76) #[] #[.pointer (some ⟨g, 0, none⟩)]] w fun e w' => e = .returned (.bool (decide (0 ≤ fst (fun i => decide (bchk (l.getD i nob) x ≠ 0)) l.length))) ∧ Below w.heap.size w w' := by
  have CC := Lib.hid (indexBad_any a cap l hl x g w ha hcm hg hgl)
  generalize fst (fun i => decide (bchk (l.getD i nob) x ≠ 0)) l.length = F at *
  clear ha hcm
  go_enter Try.func79, Try.ntmps79
  go_wp2_with (go_at_call 71; ((with_reducible refine CC.out.mono ?_); rintro e w1 ⟨rfl, hb1⟩))
  go_ret
  exact ⟨rfl, hb1⟩
set_option maxHeartbeats 1000000 in
theorem indexMaker_any (a : Option Addr) (cap : Nat) (l : List BlueIn) (hl : l.length ≤ 20) (x : Int) (g : Nat) (w : World) (ha : Blues w a l) (hg : w.cell? ⟨g, 0, none⟩ = some (.int .i64 x)) (hgl : g < w.heap.size) :
    Calls Try.prog 71 #[.slice a l.length cap, .func (.func 72) #[] #[.pointer (some ⟨g, 0, none⟩)]] w fun e w' => e = .returned (.int .i64 (fst (fun i => (l.getD i nob).makes == x) l.length)) ∧ Below w.heap.size w w' := by
  have HA := Lib.hid ha
  have CL : Hid (∀ (k : Nat) (W : World), k < l.length → Below w.heap.size w W → Calls Try.prog 72 #[.agg (l.getD k nob).val, .pointer (some ⟨g, 0, none⟩)] W fun e w' => e = .returned (.bool ((fun i => (l.getD i nob).makes == x) k)) ∧ Below W.heap.size W w') := fun k W hk hB => makes_any _ x g W ((hB.cell (p := ⟨g, 0, none⟩) hgl).trans hg) (Nat.lt_of_lt_of_le hgl hB.size)
  obtain ⟨P, hP⟩ : ∃ P : Nat → Bool, (fun i => (l.getD i nob).makes == x) = P := ⟨_, rfl⟩
  rw [hP] at CL ⊢
  clear ha hP
  go_enter Try.func71, Try.ntmps71
  go_wp2
  go_loopw [8] (fun i wr => ∃ k : Nat, k ≤ l.length ∧ i = .int .i64 k ∧ Below w.heap.size w wr ∧ Hid (fst P k = -1)) (fun i _ => l.length - (intOf i).toNat)
  case atStart => exact ⟨0, by omega, rfl, Below.refl _ _, rfl⟩
  case round =>
    obtain ⟨k, hk, rfl, hb, HF⟩ := hrel
    by_cases hlt : k < l.length
    · obtain ⟨b, off, rfl, hbl, c0, c1, c2, c3, c4, c5, c6⟩ := (HA.out.below hb) k hlt
      have hlt1 : (k : Int) < (l.length : Int) := by omega
      have CC := Lib.hid (CL.out k wr hlt hb)
      have HFS := Lib.hid (fun hp => fst_stay P k HF.out hp l.length hlt)
      have HFG := Lib.hid (fst_go P k HF.out)
      generalize l.getD k nob = E at *
      unfold BlueIn.val at CC
      obtain ⟨B, hB⟩ : ∃ B, P k = B := ⟨_, rfl⟩
      rw [hB] at CC
      cases B
      · have HF2 := Lib.hid (HFG.out hB)
        clear hB HFS HFG
        go_wp2_with (go_at_call 72; ((with_reducible refine CC.out.mono ?_); rintro e wq ⟨rfl, hbq⟩))
        go_roundw
        case rel => exact ⟨k + 1, by omega, by go_num, below2 hb hbq, HF2⟩
        case measure => simp [intOf]; omega
      · have HF2 := Lib.hid (HFS.out hB)
        clear hB HFS HFG
        go_wp2_with (go_at_call 72; ((with_reducible refine CC.out.mono ?_); rintro e wq ⟨rfl, hbq⟩))
        go_ret
        exact ⟨by rw [HF2.out]; rfl, below2 hb hbq⟩
    · have hke : k = l.length := by omega
      rw [hke] at HF
      clear hke
      go_wp2
      go_ret
      exact ⟨by rw [HF.out]; rfl, hb⟩
set_option maxHeartbeats 1000000 in
theorem indexBay_any (a : Option Addr) (cap : Nat) (l : List BayIn) (hl : l.length ≤ 20) (x : Int) (g : Nat) (w : World) (ha : Bays w a l) (hg : w.cell? ⟨g, 2, none⟩ = some (.int .i64 x)) (hgl : g < w.heap.size) :
    Calls Try.prog 92 #[.slice a l.length cap, .func (.func 78) #[] #[.pointer (some ⟨g, 0, none⟩)]] w fun e w' => e = .returned (.int .i64 (fst (fun i => !okY x (l.getD i noy)) l.length)) ∧ Below w.heap.size w w' := by
  have HA := Lib.hid ha
  have CL : Hid (∀ (k : Nat) (W : World), k < l.length → Below w.heap.size w W → Calls Try.prog 78 #[.agg (l.getD k noy).val, .pointer (some ⟨g, 0, none⟩)] W fun e w' => e = .returned (.bool ((fun i => !okY x (l.getD i noy)) k)) ∧ Below W.heap.size W w') := fun k W hk hB => badBay_any _ x g W ((hB.cell (p := ⟨g, 2, none⟩) hgl).trans hg) (Nat.lt_of_lt_of_le hgl hB.size)
  obtain ⟨P, hP⟩ : ∃ P : Nat → Bool, (fun i => !okY x (l.getD i noy)) = P := ⟨_, rfl⟩
  rw [hP] at CL ⊢
  clear ha hP
  go_enter Try.func92, Try.ntmps92
  go_wp2
  go_loopw [8] (fun i wr => ∃ k : Nat, k ≤ l.length ∧ i = .int .i64 k ∧ Below w.heap.size w wr ∧ Hid (fst P k = -1)) (fun i _ => l.length - (intOf i).toNat)
  case atStart => exact ⟨0, by omega, rfl, Below.refl _ _, rfl⟩
  case round =>
    obtain ⟨k, hk, rfl, hb, HF⟩ := hrel
    by_cases hlt : k < l.length
    · obtain ⟨b, off, rfl, hbl, c0, c1, c2, c3⟩ := (HA.out.below hb) k hlt
      have hlt1 : (k : Int) < (l.length : Int) := by omega
      have CC := Lib.hid (CL.out k wr hlt hb)
      have HFS := Lib.hid (fun hp => fst_stay P k HF.out hp l.length hlt)
      have HFG := Lib.hid (fst_go P k HF.out)
      generalize l.getD k noy = E at *
      unfold BayIn.val at CC
      obtain ⟨B, hB⟩ : ∃ B, P k = B := ⟨_, rfl⟩
      rw [hB] at CC
      cases B
      · have HF2 := Lib.hid (HFG.out hB)
        clear hB HFS HFG
        go_wp2_with (go_at_call 78; ((with_reducible refine CC.out.mono ?_); rintro e wq ⟨rfl, hbq⟩))
        go_roundw
        case rel => exact ⟨k + 1, by omega, by go_num, below2 hb hbq, HF2⟩
        case measure => simp [intOf]; omega
      · have HF2 := Lib.hid (HFS.out hB)
        clear hB HFS HFG
        go_wp2_with (go_at_call 78; ((with_reducible refine CC.out.mono ?_); rintro e wq ⟨rfl, hbq⟩))
        go_ret
        exact ⟨by rw [HF2.out]; rfl, below2 hb hbq⟩
    · have hke : k = l.length := by omega
      rw [hke] at HF
      clear hke
      go_wp2
      go_ret
      exact ⟨by rw [HF.out]; rfl, hb⟩
theorem containsBay_any (a : Option Addr) (cap : Nat) (l : List BayIn) (hl : l.length ≤ 20) (x : Int) (g : Nat) (w : World) (ha : Bays w a l) (hg : w.cell? ⟨g, 2, none⟩ = some (.int .i64 x)) (hgl : g < w.heap.size) :
    Calls Try.prog 80 #[.slice a l.length cap, .func (.func 78) #[] #[.pointer (some ⟨g, 0, none⟩)]] w fun e w' => e = .returned (.bool (decide (0 ≤ fst (fun i => !okY x (l.getD i noy)) l.length))) ∧ Below w.heap.size w w' := by
  have CC := Lib.hid (indexBay_any a cap l hl x g w ha hg hgl)
  generalize fst (fun i => !okY x (l.getD i noy)) l.length = F at *
  clear ha
  go_enter Try.func80, Try.ntmps80
  go_wp2_with (go_at_call 92; ((with_reducible refine CC.out.mono ?_); rintro e w1 ⟨rfl, hb1⟩))
  go_ret
  exact ⟨rfl, hb1⟩
end Cat
end Go.Proofs.Ytiabnjmblcogmaa
end
section
namespace Go.Proofs.Ytiabnjmblcogmaa
open Go.RowKit
namespace Cat
open Rec (BlueIn Stk Stks Came bchk inB)
open Pen (below2 below_al)
def CatIn.fees (c : CatIn) : Fee.FeesIn := ⟨c.broker, c.least, c.sales⟩
def hasBad (l : List BlueIn) (types : Int) : Bool := decide (0 ≤ fst (fun i => decide (bchk (l.getD i nob) types ≠ 0)) l.length)
def hasBay (l : List BayIn) (places : Int) : Bool := decide (0 ≤ fst (fun i => !okY places (l.getD i noy)) l.length)
/-- Whether all numbers may be. -/
def okC (c : CatIn) : Bool := inB (c.types, 1, 32) && (inB (c.places, 1, 8) && (inB (c.chars, 1, 16) && (decide (c.blues.length ≤ 16) && (decide (c.bays.length ≤ 8) && (!hasBad c.blues c.types && (!hasBay c.bays c.places && Fee.okF c.fees))))))
set_option maxRecDepth 100000 in
set_option maxHeartbeats 4000000 in
theorem sizes_any (c : CatIn) (w : World) (hc : Cam w c) :
    Calls Try.prog 55 #[.agg c.val] w fun e w' => e = .returned (.bool (okC c)) ∧ Below w.heap.size w w' := by
  have HS : Hid (okC c = (inB (c.types, 1, 32) && (inB (c.places, 1, 8) && (inB (c.chars, 1, 16) && (decide (c.blues.length ≤ 16) && (decide (c.bays.length ≤ 8) && (!hasBad c.blues c.types && (!hasBay c.bays c.places && Fee.okF c.fees)))))))) := rfl
  have I1 : Hid (∀ W, Calls Try.prog 75 #[.int .i64 c.types, .int .i64 1, .int .i64 32] W _) := fun W => cin_any _ _ _ W
  have I2 : Hid (∀ W, Calls Try.prog 75 #[.int .i64 c.places, .int .i64 1, .int .i64 8] W _) := fun W => cin_any _ _ _ W
  have I3 : Hid (∀ W, Calls Try.prog 75 #[.int .i64 c.chars, .int .i64 1, .int .i64 16] W _) := fun W => cin_any _ _ _ W
  have CB : Hid (∀ W, Below w.heap.size w W → W.cell? ⟨w.heap.size, 0, none⟩ = some (.int .i64 c.types) → w.heap.size < W.heap.size → Calls Try.prog 79 #[.slice c.baddr c.blues.length c.bcap, .func (.func 76) #[] #[.pointer (some ⟨w.heap.size, 0, none⟩)]] W fun e w' => e = .returned (.bool (hasBad c.blues c.types)) ∧ Below W.heap.size W w') := fun W h h0 h1 =>
    containsBad_any _ _ _ hc.small.1 _ _ W (hc.below h).lies.1 (fun i hi => (hc.below h).came hi) h0 h1
  have CY : Hid (∀ W, Below w.heap.size w W → W.cell? ⟨w.heap.size, 2, none⟩ = some (.int .i64 c.places) → w.heap.size < W.heap.size → Calls Try.prog 80 #[.slice c.yaddr c.bays.length c.ycap, .func (.func 78) #[] #[.pointer (some ⟨w.heap.size, 0, none⟩)]] W fun e w' => e = .returned (.bool (hasBay c.bays c.places)) ∧ Below W.heap.size W w') := fun W h h0 h1 =>
    containsBay_any _ _ _ (Nat.le_trans hc.small.2.1 (by omega)) _ _ W (hc.below h).lies.2.1 h0 h1
  have CF : Hid (∀ W, Calls Try.prog 81 #[.agg #[.int .i64 c.broker, .int .i64 c.least, .int .i64 c.sales]] W fun e w' => e = .returned (.int .i64 (if Fee.okF c.fees then 0 else 1)) ∧ Below W.heap.size W w') := fun W => Fee.check_any c.fees W
  have hsm := Lib.hid hc.small
  unfold CatIn.val
  generalize inB (c.types, 1, 32) = X1 at *
  generalize inB (c.places, 1, 8) = X2 at *
  generalize inB (c.chars, 1, 16) = X3 at *
  generalize hasBad c.blues c.types = X6 at *
  generalize hasBay c.bays c.places = X7 at *
  generalize Fee.okF c.fees = X8 at *
  generalize okC c = O at *
  generalize c.blues.length = nb at *
  generalize c.bays.length = ny at *
  clear hc
  cases X1
  · skip
    have HO : Hid (O = false) := by show O = _; rw [HS.out]; rfl
    obtain rfl := HO.out
    go_enter Try.func55, Try.ntmps55
    go_wp2_with (first | (go_at_call 75; ((first | (with_reducible refine (I1.out _).mono ?_) | (with_reducible refine (I2.out _).mono ?_) | (with_reducible refine (I3.out _).mono ?_)); rintro e wq ⟨rfl, rfl⟩)) | (go_at_call 79; ((with_reducible refine (CB.out _ (below_al (Below.refl _ _) _) (by go_simp) (by simp)).mono ?_); rintro e w1 ⟨rfl, hb1⟩; have hb1' := below2 (below_al (Below.refl _ _) _) hb1; have s1 := Rec.box_lt hb1; have c2 := Rec.box_cell hb1 2; have c3 := Rec.box_cell hb1 3; have c5 := Rec.box_cell hb1 5; have c6 := Rec.box_cell hb1 6; have c7 := Rec.box_cell hb1 7; simp only [List.getElem?_toArray, List.getElem?_cons_zero, List.getElem?_cons_succ] at c2 c3 c5 c6 c7)) | (go_at_call 80; ((with_reducible refine (CY.out _ hb1' c2 s1).mono ?_); rintro e w2 ⟨rfl, hb2⟩; have hb2' := below2 hb1' hb2; replace c5 := (hb2.cell s1).trans c5; replace c6 := (hb2.cell s1).trans c6; replace c7 := (hb2.cell s1).trans c7; replace s1 := Nat.lt_of_lt_of_le s1 hb2.size)) | (go_at_call 81; ((with_reducible refine (CF.out _).mono ?_); rintro e w3 ⟨rfl, hb3⟩)))
    go_ret
    exact ⟨rfl, below_al (Below.refl _ _) _⟩
  · skip
    cases X2
    · skip
      have HO : Hid (O = false) := by show O = _; rw [HS.out]; rfl
      obtain rfl := HO.out
      go_enter Try.func55, Try.ntmps55
      go_wp2_with (first | (go_at_call 75; ((first | (with_reducible refine (I1.out _).mono ?_) | (with_reducible refine (I2.out _).mono ?_) | (with_reducible refine (I3.out _).mono ?_)); rintro e wq ⟨rfl, rfl⟩)) | (go_at_call 79; ((with_reducible refine (CB.out _ (below_al (Below.refl _ _) _) (by go_simp) (by simp)).mono ?_); rintro e w1 ⟨rfl, hb1⟩; have hb1' := below2 (below_al (Below.refl _ _) _) hb1; have s1 := Rec.box_lt hb1; have c2 := Rec.box_cell hb1 2; have c3 := Rec.box_cell hb1 3; have c5 := Rec.box_cell hb1 5; have c6 := Rec.box_cell hb1 6; have c7 := Rec.box_cell hb1 7; simp only [List.getElem?_toArray, List.getElem?_cons_zero, List.getElem?_cons_succ] at c2 c3 c5 c6 c7)) | (go_at_call 80; ((with_reducible refine (CY.out _ hb1' c2 s1).mono ?_); rintro e w2 ⟨rfl, hb2⟩; have hb2' := below2 hb1' hb2; replace c5 := (hb2.cell s1).trans c5; replace c6 := (hb2.cell s1).trans c6; replace c7 := (hb2.cell s1).trans c7; replace s1 := Nat.lt_of_lt_of_le s1 hb2.size)) | (go_at_call 81; ((with_reducible refine (CF.out _).mono ?_); rintro e w3 ⟨rfl, hb3⟩)))
      go_ret
      exact ⟨rfl, below_al (Below.refl _ _) _⟩
    · skip
      cases X3
      · skip
        have HO : Hid (O = false) := by show O = _; rw [HS.out]; rfl
        obtain rfl := HO.out
        go_enter Try.func55, Try.ntmps55
        go_wp2_with (first | (go_at_call 75; ((first | (with_reducible refine (I1.out _).mono ?_) | (with_reducible refine (I2.out _).mono ?_) | (with_reducible refine (I3.out _).mono ?_)); rintro e wq ⟨rfl, rfl⟩)) | (go_at_call 79; ((with_reducible refine (CB.out _ (below_al (Below.refl _ _) _) (by go_simp) (by simp)).mono ?_); rintro e w1 ⟨rfl, hb1⟩; have hb1' := below2 (below_al (Below.refl _ _) _) hb1; have s1 := Rec.box_lt hb1; have c2 := Rec.box_cell hb1 2; have c3 := Rec.box_cell hb1 3; have c5 := Rec.box_cell hb1 5; have c6 := Rec.box_cell hb1 6; have c7 := Rec.box_cell hb1 7; simp only [List.getElem?_toArray, List.getElem?_cons_zero, List.getElem?_cons_succ] at c2 c3 c5 c6 c7)) | (go_at_call 80; ((with_reducible refine (CY.out _ hb1' c2 s1).mono ?_); rintro e w2 ⟨rfl, hb2⟩; have hb2' := below2 hb1' hb2; replace c5 := (hb2.cell s1).trans c5; replace c6 := (hb2.cell s1).trans c6; replace c7 := (hb2.cell s1).trans c7; replace s1 := Nat.lt_of_lt_of_le s1 hb2.size)) | (go_at_call 81; ((with_reducible refine (CF.out _).mono ?_); rintro e w3 ⟨rfl, hb3⟩)))
        go_ret
        exact ⟨rfl, below_al (Below.refl _ _) _⟩
      · skip
        by_cases hnb : nb ≤ 16
        · have dnb : decide ((nb : Int) ≤ 16) = true := decide_eq_true (by omega)
          have enb : (nb : Int) ≤ 16 := by omega
          rw [decide_eq_true hnb] at HS
          by_cases hny : ny ≤ 8
          · have dny : decide ((ny : Int) ≤ 8) = true := decide_eq_true (by omega)
            have eny : (ny : Int) ≤ 8 := by omega
            rw [decide_eq_true hny] at HS
            cases X6
            · skip
              cases X7
              · skip
                cases X8
                · skip
                  have HO : Hid (O = false) := by show O = _; rw [HS.out]; rfl
                  obtain rfl := HO.out
                  go_enter Try.func55, Try.ntmps55
                  go_wp2_with (first | (go_at_call 75; ((first | (with_reducible refine (I1.out _).mono ?_) | (with_reducible refine (I2.out _).mono ?_) | (with_reducible refine (I3.out _).mono ?_)); rintro e wq ⟨rfl, rfl⟩)) | (go_at_call 79; ((with_reducible refine (CB.out _ (below_al (Below.refl _ _) _) (by go_simp) (by simp)).mono ?_); rintro e w1 ⟨rfl, hb1⟩; have hb1' := below2 (below_al (Below.refl _ _) _) hb1; have s1 := Rec.box_lt hb1; have c2 := Rec.box_cell hb1 2; have c3 := Rec.box_cell hb1 3; have c5 := Rec.box_cell hb1 5; have c6 := Rec.box_cell hb1 6; have c7 := Rec.box_cell hb1 7; simp only [List.getElem?_toArray, List.getElem?_cons_zero, List.getElem?_cons_succ] at c2 c3 c5 c6 c7)) | (go_at_call 80; ((with_reducible refine (CY.out _ hb1' c2 s1).mono ?_); rintro e w2 ⟨rfl, hb2⟩; have hb2' := below2 hb1' hb2; replace c5 := (hb2.cell s1).trans c5; replace c6 := (hb2.cell s1).trans c6; replace c7 := (hb2.cell s1).trans c7; replace s1 := Nat.lt_of_lt_of_le s1 hb2.size)) | (go_at_call 81; ((with_reducible refine (CF.out _).mono ?_); rintro e w3 ⟨rfl, hb3⟩)))
                  go_ret
                  exact ⟨rfl, below2 hb2' hb3⟩
                · skip
                  have HO : Hid (O = true) := by show O = _; rw [HS.out]; rfl
                  obtain rfl := HO.out
                  go_enter Try.func55, Try.ntmps55
                  go_wp2_with (first | (go_at_call 75; ((first | (with_reducible refine (I1.out _).mono ?_) | (with_reducible refine (I2.out _).mono ?_) | (with_reducible refine (I3.out _).mono ?_)); rintro e wq ⟨rfl, rfl⟩)) | (go_at_call 79; ((with_reducible refine (CB.out _ (below_al (Below.refl _ _) _) (by go_simp) (by simp)).mono ?_); rintro e w1 ⟨rfl, hb1⟩; have hb1' := below2 (below_al (Below.refl _ _) _) hb1; have s1 := Rec.box_lt hb1; have c2 := Rec.box_cell hb1 2; have c3 := Rec.box_cell hb1 3; have c5 := Rec.box_cell hb1 5; have c6 := Rec.box_cell hb1 6; have c7 := Rec.box_cell hb1 7; simp only [List.getElem?_toArray, List.getElem?_cons_zero, List.getElem?_cons_succ] at c2 c3 c5 c6 c7)) | (go_at_call 80; ((with_reducible refine (CY.out _ hb1' c2 s1).mono ?_); rintro e w2 ⟨rfl, hb2⟩; have hb2' := below2 hb1' hb2; replace c5 := (hb2.cell s1).trans c5; replace c6 := (hb2.cell s1).trans c6; replace c7 := (hb2.cell s1).trans c7; replace s1 := Nat.lt_of_lt_of_le s1 hb2.size)) | (go_at_call 81; ((with_reducible refine (CF.out _).mono ?_); rintro e w3 ⟨rfl, hb3⟩)))
                  go_ret
                  exact ⟨rfl, below2 hb2' hb3⟩
              · skip
                have HO : Hid (O = false) := by show O = _; rw [HS.out]; rfl
                obtain rfl := HO.out
                go_enter Try.func55, Try.ntmps55
                go_wp2_with (first | (go_at_call 75; ((first | (with_reducible refine (I1.out _).mono ?_) | (with_reducible refine (I2.out _).mono ?_) | (with_reducible refine (I3.out _).mono ?_)); rintro e wq ⟨rfl, rfl⟩)) | (go_at_call 79; ((with_reducible refine (CB.out _ (below_al (Below.refl _ _) _) (by go_simp) (by simp)).mono ?_); rintro e w1 ⟨rfl, hb1⟩; have hb1' := below2 (below_al (Below.refl _ _) _) hb1; have s1 := Rec.box_lt hb1; have c2 := Rec.box_cell hb1 2; have c3 := Rec.box_cell hb1 3; have c5 := Rec.box_cell hb1 5; have c6 := Rec.box_cell hb1 6; have c7 := Rec.box_cell hb1 7; simp only [List.getElem?_toArray, List.getElem?_cons_zero, List.getElem?_cons_succ] at c2 c3 c5 c6 c7)) | (go_at_call 80; ((with_reducible refine (CY.out _ hb1' c2 s1).mono ?_); rintro e w2 ⟨rfl, hb2⟩; have hb2' := below2 hb1' hb2; replace c5 := (hb2.cell s1).trans c5; replace c6 := (hb2.cell s1).trans c6; replace c7 := (hb2.cell s1).trans c7; replace s1 := Nat.lt_of_lt_of_le s1 hb2.size)) | (go_at_call 81; ((with_reducible refine (CF.out _).mono ?_); rintro e w3 ⟨rfl, hb3⟩)))
                go_ret
                exact ⟨rfl, hb2'⟩
            · skip
              have HO : Hid (O = false) := by show O = _; rw [HS.out]; rfl
              obtain rfl := HO.out
              go_enter Try.func55, Try.ntmps55
              go_wp2_with (first | (go_at_call 75; ((first | (with_reducible refine (I1.out _).mono ?_) | (with_reducible refine (I2.out _).mono ?_) | (with_reducible refine (I3.out _).mono ?_)); rintro e wq ⟨rfl, rfl⟩)) | (go_at_call 79; ((with_reducible refine (CB.out _ (below_al (Below.refl _ _) _) (by go_simp) (by simp)).mono ?_); rintro e w1 ⟨rfl, hb1⟩; have hb1' := below2 (below_al (Below.refl _ _) _) hb1; have s1 := Rec.box_lt hb1; have c2 := Rec.box_cell hb1 2; have c3 := Rec.box_cell hb1 3; have c5 := Rec.box_cell hb1 5; have c6 := Rec.box_cell hb1 6; have c7 := Rec.box_cell hb1 7; simp only [List.getElem?_toArray, List.getElem?_cons_zero, List.getElem?_cons_succ] at c2 c3 c5 c6 c7)) | (go_at_call 80; ((with_reducible refine (CY.out _ hb1' c2 s1).mono ?_); rintro e w2 ⟨rfl, hb2⟩; have hb2' := below2 hb1' hb2; replace c5 := (hb2.cell s1).trans c5; replace c6 := (hb2.cell s1).trans c6; replace c7 := (hb2.cell s1).trans c7; replace s1 := Nat.lt_of_lt_of_le s1 hb2.size)) | (go_at_call 81; ((with_reducible refine (CF.out _).mono ?_); rintro e w3 ⟨rfl, hb3⟩)))
              go_ret
              exact ⟨rfl, hb1'⟩
          · have dny : decide ((ny : Int) ≤ 8) = false := decide_eq_false (by omega)
            have eny : ¬ (ny : Int) ≤ 8 := by omega
            rw [decide_eq_false hny] at HS
            have HO : Hid (O = false) := by show O = _; rw [HS.out]; rfl
            obtain rfl := HO.out
            go_enter Try.func55, Try.ntmps55
            go_wp2_with (first | (go_at_call 75; ((first | (with_reducible refine (I1.out _).mono ?_) | (with_reducible refine (I2.out _).mono ?_) | (with_reducible refine (I3.out _).mono ?_)); rintro e wq ⟨rfl, rfl⟩)) | (go_at_call 79; ((with_reducible refine (CB.out _ (below_al (Below.refl _ _) _) (by go_simp) (by simp)).mono ?_); rintro e w1 ⟨rfl, hb1⟩; have hb1' := below2 (below_al (Below.refl _ _) _) hb1; have s1 := Rec.box_lt hb1; have c2 := Rec.box_cell hb1 2; have c3 := Rec.box_cell hb1 3; have c5 := Rec.box_cell hb1 5; have c6 := Rec.box_cell hb1 6; have c7 := Rec.box_cell hb1 7; simp only [List.getElem?_toArray, List.getElem?_cons_zero, List.getElem?_cons_succ] at c2 c3 c5 c6 c7)) | (go_at_call 80; ((with_reducible refine (CY.out _ hb1' c2 s1).mono ?_); rintro e w2 ⟨rfl, hb2⟩; have hb2' := below2 hb1' hb2; replace c5 := (hb2.cell s1).trans c5; replace c6 := (hb2.cell s1).trans c6; replace c7 := (hb2.cell s1).trans c7; replace s1 := Nat.lt_of_lt_of_le s1 hb2.size)) | (go_at_call 81; ((with_reducible refine (CF.out _).mono ?_); rintro e w3 ⟨rfl, hb3⟩)))
            go_ret
            exact ⟨rfl, below_al (Below.refl _ _) _⟩
        · have dnb : decide ((nb : Int) ≤ 16) = false := decide_eq_false (by omega)
          have enb : ¬ (nb : Int) ≤ 16 := by omega
          rw [decide_eq_false hnb] at HS
          have HO : Hid (O = false) := by show O = _; rw [HS.out]; rfl
          obtain rfl := HO.out
          go_enter Try.func55, Try.ntmps55
          go_wp2_with (first | (go_at_call 75; ((first | (with_reducible refine (I1.out _).mono ?_) | (with_reducible refine (I2.out _).mono ?_) | (with_reducible refine (I3.out _).mono ?_)); rintro e wq ⟨rfl, rfl⟩)) | (go_at_call 79; ((with_reducible refine (CB.out _ (below_al (Below.refl _ _) _) (by go_simp) (by simp)).mono ?_); rintro e w1 ⟨rfl, hb1⟩; have hb1' := below2 (below_al (Below.refl _ _) _) hb1; have s1 := Rec.box_lt hb1; have c2 := Rec.box_cell hb1 2; have c3 := Rec.box_cell hb1 3; have c5 := Rec.box_cell hb1 5; have c6 := Rec.box_cell hb1 6; have c7 := Rec.box_cell hb1 7; simp only [List.getElem?_toArray, List.getElem?_cons_zero, List.getElem?_cons_succ] at c2 c3 c5 c6 c7)) | (go_at_call 80; ((with_reducible refine (CY.out _ hb1' c2 s1).mono ?_); rintro e w2 ⟨rfl, hb2⟩; have hb2' := below2 hb1' hb2; replace c5 := (hb2.cell s1).trans c5; replace c6 := (hb2.cell s1).trans c6; replace c7 := (hb2.cell s1).trans c7; replace s1 := Nat.lt_of_lt_of_le s1 hb2.size)) | (go_at_call 81; ((with_reducible refine (CF.out _).mono ?_); rintro e w3 ⟨rfl, hb3⟩)))
          go_ret
          exact ⟨rfl, below_al (Below.refl _ _) _⟩
end Cat
end Go.Proofs.Ytiabnjmblcogmaa
end
