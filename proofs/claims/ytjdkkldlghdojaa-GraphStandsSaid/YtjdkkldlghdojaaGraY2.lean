/- How many ways lead: the program's Ways. -/
import Derived.Test.YtjdkkldlghdojaaGraY
import Derived.Deep.DeepMust
namespace Go.Proofs.Ytjdkkldlghdojaa
open Go.RowKit
namespace Gra
open In (Ints IsInts)
def oAny (O : Nat → Bool) (ys : List Int) : Nat → Bool
  | 0 => false
  | j + 1 => oAny O ys j || O (ys.getD j 0).toNat
def lA (W : Nat → Int) (ys : List Int) (j : Nat) : List Int := (ys.take j).map fun y => W y.toNat
theorem lA_snoc (W : Nat → Int) (ys : List Int) (j : Nat) (h : j < ys.length) : lA W ys (j + 1) = lA W ys j ++ [W (ys.getD j 0).toNat] := by
  unfold lA; rw [take_snocI ys j h, List.map_append]; rfl
theorem lA_sum (W : Nat → Int) (ys : List Int) (j : Nat) (h : j ≤ ys.length) : (lA W ys j).sum = smW (fun i => W i.toNat) ys j := by
  induction j with
  | zero => rfl
  | succ j ih => rw [lA_snoc W ys j h, List.sum_append, ih (by omega), smW]; simp
theorem oAny_yes (O : Nat → Bool) (ys : List Int) (j : Nat) (h : oAny O ys j = true) : ∃ i, i < j ∧ O (ys.getD i 0).toNat = true := by
  induction j with
  | zero => cases h
  | succ j ih =>
    rw [oAny, Bool.or_eq_true] at h
    rcases h with h | h
    · obtain ⟨i, hi, e⟩ := ih h
      exact ⟨i, by omega, e⟩
    · exact ⟨j, by omega, h⟩
theorem oAny_no (O : Nat → Bool) (ys : List Int) (j : Nat) (h : oAny O ys j = false) : ∀ i, i < j → O (ys.getD i 0).toNat = false := by
  induction j with
  | zero => intro i hi; omega
  | succ j ih =>
    rw [oAny, Bool.or_eq_false_iff] at h
    intro i hi
    by_cases e : i = j
    · subst e; exact h.2
    · exact ih h.1 i (by omega)
theorem ways_step {T : Int → Int} {W : Nat → Int} {O : Nat → Bool} {ys : List Int} (hT : ∀ i, i < 65 → Tells T W O i) (hnn : ∀ i, 0 ≤ T i) (hys : ∀ j, j < ys.length → 1 ≤ ys.getD j 0 ∧ ys.getD j 0 < 65) :
    (oAny O ys ys.length || decide (¬ (lA W ys ys.length).sum ≤ MX)) = true ↔ MX < smW T ys ys.length := by
  have hW : ∀ i, i < ys.length → O (ys.getD i 0).toNat = false → W (ys.getD i 0).toNat = T (ys.getD i 0) := fun i hi ho => by
    have h1 := hys i hi
    have := (hT (ys.getD i 0).toNat (by omega)).val ho
    rwa [show (((ys.getD i 0).toNat : Nat) : Int) = ys.getD i 0 by omega] at this
  cases ho : oAny O ys ys.length with
  | true =>
    obtain ⟨i, hi, e⟩ := oAny_yes O ys _ ho
    have h1 := hys i hi
    have h2 := (hT (ys.getD i 0).toNat (by omega)).over.1 e
    rw [show (((ys.getD i 0).toNat : Nat) : Int) = ys.getD i 0 by omega] at h2
    have h3 := smW_part hnn ys hi
    simp
    omega
  | false =>
    have hno := oAny_no O ys _ ho
    have e : (lA W ys ys.length).sum = smW T ys ys.length := by
      rw [lA_sum W ys _ (Nat.le_refl _)]
      exact smW_congr ys _ fun i hi => hW i hi (hno i hi)
    rw [e]
    simp
theorem ways_val {T : Int → Int} {W : Nat → Int} {O : Nat → Bool} {ys : List Int} (hT : ∀ i, i < 65 → Tells T W O i) (hys : ∀ j, j < ys.length → 1 ≤ ys.getD j 0 ∧ ys.getD j 0 < 65)
    (h : (oAny O ys ys.length || decide (¬ (lA W ys ys.length).sum ≤ MX)) = false) : (if (lA W ys ys.length).sum ≤ MX then (lA W ys ys.length).sum else 0) = smW T ys ys.length := by
  rw [Bool.or_eq_false_iff] at h
  have hno := oAny_no O ys _ h.1
  have h2 := of_decide_eq_false h.2
  rw [if_pos (by omega), lA_sum W ys _ (Nat.le_refl _)]
  exact smW_congr ys _ fun i hi => by
    have h1 := hys i hi
    have := (hT (ys.getD i 0).toNat (by omega)).val (hno i hi)
    rwa [show (((ys.getD i 0).toNat : Nat) : Int) = ys.getD i 0 by omega] at this
theorem getD_memI (l : List Int) (k : Nat) (h : k < l.length) : l.getD k 0 ∈ l := by
  rw [List.getD_eq_getElem?_getD, List.getElem?_eq_getElem h]; exact List.getElem_mem h
theorem tells0 (Z : Nat) (E : List (Int × Int)) (xs : List Int) : ∀ i, i < 65 → Tells (wyT (Z : Int) E xs 0) (fun i => if i = Z then 1 else 0) (fun _ => false) i := by
  intro i _
  have e : wyT (Z : Int) E xs 0 (i : Int) = if i = Z then 1 else 0 := by
    unfold wyT
    by_cases h : i = Z
    · rw [if_pos (by omega), if_pos h]
    · rw [if_neg (by omega), if_neg h]
  refine ⟨?_, fun _ => by rw [e], ?_, ?_⟩
  · rw [e]; unfold MX; simp; split <;> omega
  · split <;> omega
  · unfold MX; split <;> omega
theorem lA_in {T : Int → Int} {V : Nat → Int} {O : Nat → Bool} {ys : List Int} (hT : ∀ i, i < 65 → Tells T V O i) (hys : ∀ j, j < ys.length → 1 ≤ ys.getD j 0 ∧ ys.getD j 0 < 65) (j : Nat) : ∀ x ∈ lA V ys j, 0 ≤ x ∧ x ≤ MX := by
  intro x hx
  unfold lA at hx
  rw [List.mem_map] at hx
  obtain ⟨y, hy, rfl⟩ := hx
  obtain ⟨i, hi, e⟩ := List.getElem_of_mem (List.mem_of_mem_take hy)
  have h1 := hys i hi
  rw [List.getD_eq_getElem?_getD, List.getElem?_eq_getElem hi, Option.getD_some, e] at h1
  have := hT y.toNat (by omega)
  exact ⟨this.nn, this.le⟩
theorem lA_len (V : Nat → Int) (ys : List Int) : (lA V ys ys.length).length = ys.length := by unfold lA; rw [List.length_map, List.take_length]
theorem tells_step {T T' : Int → Int} {V : Nat → Int} {O : Nat → Bool} {ys : List Int} {X : Nat} (hT : ∀ i, i < 65 → Tells T V O i) (hnn : ∀ i, 0 ≤ T i) (hys : ∀ j, j < ys.length → 1 ≤ ys.getD j 0 ∧ ys.getD j 0 < 65)
    (hat : T' (X : Int) = smW T ys ys.length) (hoff : ∀ i : Int, i ≠ (X : Int) → T' i = T i) {s : Int} (hs : (lA V ys ys.length).sum = s) :
    ∀ i, i < 65 → Tells T' (fun i => if i = X then (if s ≤ MX then s else 0) else V i) (fun i => if i = X then (oAny O ys ys.length || decide (¬ s ≤ MX)) else O i) i := by
  intro i hi
  subst hs
  by_cases e : i = X
  · subst e
    have h0 := sum_nn fun x hx => (lA_in hT hys ys.length x hx).1
    refine ⟨?_, fun h => ?_, ?_, ?_⟩
    · show (if i = i then _ else _) = true ↔ _
      rw [if_pos rfl, hat]; exact ways_step hT hnn hys
    · show (if i = i then _ else _) = _
      rw [if_pos rfl, hat]
      have h' : (if i = i then (oAny O ys ys.length || decide (¬ (lA V ys ys.length).sum ≤ MX)) else O i) = false := h
      rw [if_pos rfl] at h'
      exact ways_val hT hys h'
    · show 0 ≤ (if i = i then _ else _)
      rw [if_pos rfl]; split <;> omega
    · show (if i = i then _ else _) ≤ MX
      rw [if_pos rfl]; split
      · assumption
      · decide
  · have h1 := hT i hi
    have h2 := hoff (i : Int) (by omega)
    refine ⟨?_, fun h => ?_, ?_, ?_⟩
    · show (if i = X then _ else _) = true ↔ _
      rw [if_neg e, h2]; exact h1.over
    · show (if i = X then _ else _) = _
      have h' : (if i = X then (oAny O ys ys.length || decide (¬ (lA V ys ys.length).sum ≤ MX)) else O i) = false := h
      rw [if_neg e] at h'
      rw [if_neg e, h2]; exact h1.val h'
    · show 0 ≤ (if i = X then _ else _)
      rw [if_neg e]; exact h1.nn
    · show (if i = X then _ else _) ≤ MX
      rw [if_neg e]; exact h1.le
theorem wyT_same {tz : Int} {E : List (Int × Int)} {xs : List Int} {k : Nat} (h : xs.getD k 0 = tz) (i : Int) : wyT tz E xs (k + 1) i = wyT tz E xs k i := by
  show wy1 tz E (wyT tz E xs k) (xs.getD k 0) i = _
  unfold wy1
  by_cases e : i = xs.getD k 0
  · rw [if_pos e, if_pos h]
    have e2 : i = tz := e.trans h
    subst e2
    exact (wyT_to i E xs k).symm
  · rw [if_neg e]
theorem wyT_at {tz : Int} {E : List (Int × Int)} {xs : List Int} {k : Nat} (h : xs.getD k 0 ≠ tz) : wyT tz E xs (k + 1) (xs.getD k 0) = smW (wyT tz E xs k) (ndsF E (xs.getD k 0)) (ndsF E (xs.getD k 0)).length := by
  show wy1 tz E (wyT tz E xs k) (xs.getD k 0) _ = _
  unfold wy1
  rw [if_pos rfl, if_neg h]
theorem wyT_off {tz : Int} {E : List (Int × Int)} {xs : List Int} {k : Nat} {i : Int} (h : i ≠ xs.getD k 0) : wyT tz E xs (k + 1) i = wyT tz E xs k i := by
  show wy1 tz E (wyT tz E xs k) (xs.getD k 0) i = _
  unfold wy1
  rw [if_neg h]
theorem wyT_zero {tz : Int} {E : List (Int × Int)} {xs : List Int} {k : Nat} {i : Int} (h : i ∉ xs.take k) (hi : i ≠ tz) (hk : k ≤ xs.length) : wyT tz E xs k i = 0 := by
  induction k with
  | zero => unfold wyT; rw [if_neg hi]
  | succ k ih =>
    rw [take_snocI xs k hk, List.mem_append, List.mem_singleton] at h
    rw [wyT_off (fun e => h (.inr e)), ih (fun e => h (.inl e)) (by omega)]
theorem nodup_take {l : List Int} (h : l.Nodup) {k : Nat} (hk : k < l.length) : l.getD k 0 ∉ l.take k := by
  intro hm
  obtain ⟨i, hi, e⟩ := List.getElem_of_mem hm
  rw [List.length_take] at hi
  rw [List.getElem_take, List.getD_eq_getElem?_getD, List.getElem?_eq_getElem hk, Option.getD_some] at e
  have := (List.getElem_inj h).1 e
  omega
/-- What an order needs stands ahead. -/
theorem ordG_ahead (n : Nat) (E : List (Int × Int)) (m : Nat) : ∀ k, k < (ordG n E m).length → ∀ e ∈ E, e.1 = (ordG n E m).getD k 0 → e.2 ∈ (ordG n E m).take k := by
  induction m with
  | zero => intro k hk; exact absurd hk (Nat.not_lt_zero k)
  | succ m ih =>
    rw [ordG]
    split
    · exact ih
    · rename_i hp
      obtain ⟨_, _, _, h4⟩ := pick_pos hp
      intro k hk e he h1
      rw [List.length_append, List.length_singleton] at hk
      by_cases hkl : k < (ordG n E m).length
      · rw [List.getD_eq_getElem?_getD, List.getElem?_append_left hkl, ← List.getD_eq_getElem?_getD] at h1
        rw [List.take_append_of_le_length (by omega)]
        exact ih k hkl e he h1
      · have hke : k = (ordG n E m).length := by omega
        subst hke
        rw [List.getD_eq_getElem?_getD, List.getElem?_append_right (Nat.le_refl _)] at h1
        simp at h1
        rw [List.take_append_of_le_length (Nat.le_refl _), List.take_length]
        exact h4 e he h1
def zA : Array Value := (List.replicate 65 (Value.int .i64 0)).toArray
theorem zero44 (w : World) : (zeroValue 44).run Try.prog w = .ok (.agg zA) w := by kernel_rfl
theorem zA_row (w : World) : (w.alloc (.cells zA 44)).rowIs w.heap.size 44 65 (fun _ => .int .i64 0) :=
  ⟨zA, heap_alloc_new w _, by simp [zA], fun i hi => by rw [zA, List.getElem?_toArray, List.getElem?_replicate, if_pos hi]⟩
theorem zA_ne : ¬ zA = #[] := fun e => by have := congrArg Array.size e; simp [zA] at this
theorem zA_size : zA.size = 65 := by simp [zA]
/-- The two arrays in memory. -/
structure ArrW (W : World) (a b : Nat) (V : Nat → Int) (O : Nat → Bool) (wr : World) : Prop where
  ways : wr.rowIs a 44 65 (fun i => .int .i64 (V i))
  over : wr.rowIs b 45 65 (fun i => .bool (O i))
  bel : Below W.heap.size W wr
theorem arr_new (w : World) (tz : Nat) : ArrW w w.heap.size (w.heap.size + 1) (fun i => if i = tz then 1 else 0) (fun _ => false) ((w.alloc (.cells (zA.setIfInBounds tz (.int .i64 1)) 44)).alloc (.cells zB 45)) := by
  have h2 := zB_row (w.alloc (.cells (zA.setIfInBounds tz (.int .i64 1)) 44))
  rw [show (w.alloc (.cells (zA.setIfInBounds tz (.int .i64 1)) 44)).heap.size = w.heap.size + 1 by simp] at h2
  have h1 := World.rowIs_alloc w (zA.setIfInBounds tz (.int .i64 1)) 44 (fun i => .int .i64 (if i = tz then 1 else 0)) (fun i hi => by
    rw [Array.size_setIfInBounds, zA_size] at hi
    rw [Array.getElem?_setIfInBounds, zA_size]
    by_cases e : tz = i
    · subst e; rw [if_pos rfl, if_pos hi, if_pos rfl]
    · rw [if_neg e, if_neg (fun h => e h.symm), zA, List.getElem?_toArray, List.getElem?_replicate, if_pos hi])
  rw [Array.size_setIfInBounds, zA_size] at h1
  exact ⟨h1.alloc _, h2, ((Below.refl _ _).alloc (Nat.le_refl _) _).alloc (by simp) _⟩
theorem ArrW.drewN {W wr : World} {a b : Nat} {V : Nat → Int} {O : Nat → Bool} (h : ArrW W a b V O wr) (q : Nat) : ArrW W a b V O (wr.drewN q) := ⟨h.ways, h.over, below_dN h.bel q⟩
theorem ArrW.setV {W wr : World} {a b : Nat} {V : Nat → Int} {O : Nat → Bool} (h : ArrW W a b V O wr) (hab : b ≠ a) (ha : W.heap.size ≤ a) (x : Nat) (v : Int) : ArrW W a b (fun i => if i = x then v else V i) O (wr.setCell ⟨a, x, none⟩ (.int .i64 v)) :=
  ⟨(h.ways.set x _).congr fun i _ => by split <;> rfl, h.over.setOther hab _, h.bel.setCell ha _⟩
theorem ArrW.setO {W wr : World} {a b : Nat} {V : Nat → Int} {O : Nat → Bool} (h : ArrW W a b V O wr) (hab : a ≠ b) (hb : W.heap.size ≤ b) (x : Nat) (v : Bool) : ArrW W a b V (fun i => if i = x then v else O i) (wr.setCell ⟨b, x, none⟩ (.bool v)) :=
  ⟨h.ways.setOther hab _, (h.over.set x _).congr fun i _ => by split <;> rfl, h.bel.setCell hb _⟩
theorem ArrW.grown {W wr wx : World} {a b : Nat} {V : Nat → Int} {O : Nat → Bool} (h : ArrW W a b V O wr) {row : Option Nat} (hg : wr.grownBy wx row) (hr : ∀ k, row = some k → W.heap.size ≤ k ∧ k ≠ a ∧ k ≠ b) : ArrW W a b V O wx :=
  ⟨h.ways.of_block (hg.block a h.ways.lt fun e => (hr a e.symm).2.1 rfl), h.over.of_block (hg.block b h.over.lt fun e => (hr b e.symm).2.2 rfl), h.bel.grown hg h.bel.size fun k e => (hr k e).1⟩
theorem ArrW.alloc {W wr : World} {a b : Nat} {V : Nat → Int} {O : Nat → Bool} (h : ArrW W a b V O wr) (o : Obj) : ArrW W a b V O (wr.alloc o) :=
  ⟨h.ways.alloc o, h.over.alloc o, h.bel.alloc h.bel.size o⟩
theorem ArrW.congr {W wr : World} {a b : Nat} {V V' : Nat → Int} {O O' : Nat → Bool} (h : ArrW W a b V O wr) (hv : ∀ i, V' i = V i) (ho : ∀ i, O' i = O i) : ArrW W a b V' O' wr := by
  rw [show V' = V from funext hv, show O' = O from funext ho]; exact h
set_option maxRecDepth 100000 in
set_option maxHeartbeats 8000000 in
theorem Ways_yes (N : Nat) (a : Option Addr) (cap : Nat) (l : List (Int × Int)) (F Z : Nat) (hg : Good (N : Int) l) (hF1 : 1 ≤ F) (hF2 : F ≤ N) (hZ1 : 1 ≤ Z) (hZ2 : Z ≤ N) (hfull : ¬ (ord N l).length < N) (RV RE : Int) (HRR : Hid ((if waysV N l F Z ≤ MX then waysV N l F Z else 0) = RV ∧ (if waysV N l F Z ≤ MX then (0 : Int) else 5) = RE)) (w : World) (ha : Prs w a l) :
    Calls Try.prog 8 #[.int .i64 (N : Int), .slice a l.length cap, .int .i64 (F : Int), .int .i64 (Z : Int)] w fun e w' => e = .returned (.tuple #[.int .i64 RV, .int .i64 RE]) ∧ Below w.heap.size w w' := by
  have HA := Lib.hid ha
  have HG := Lib.hid hg
  have CM2 : Hid (Calls Try.prog 17 #[.int .i64 (N : Int), .slice a l.length cap] w fun e w' => e = .returned (.pointer (some ⟨w.heap.size, 0, none⟩)) ∧ Hid (Below w.heap.size w w') ∧ Hid (w'.cell? ⟨w.heap.size, 0, none⟩ = some (.int .i64 (N : Int)))) := (made_any (N : Int) a cap l w ha).mono fun e w' ⟨h1, h2⟩ => by
    rcases h2 with ⟨_, e1, C, h3⟩ | ⟨h3, _⟩
    · exact ⟨e1, h1, h3.cell0⟩
    · exact absurd hg h3
  have CO : Hid (∀ w1 : World, Below w.heap.size w w1 → Calls Try.prog 19 #[.int .i64 (N : Int), .slice a l.length cap] w1 fun e w' => ∃ v O C, e = .returned (.tuple #[.pointer (some ⟨w1.heap.size, 0, none⟩), v, .int .i64 0]) ∧ Hid (w'.ownsRow w1.heap.size 3 1 v (ord N l).length ((ord N l).map (Value.int .i64))) ∧ Hid (Web w' w1.heap.size w1.heap.size (N : Int) (RF l) O C) ∧ Hid (Below w1.heap.size w1 w')) := fun w1 hb => (ordered_any (N : Int) a cap l w1 (ha.below hb)).mono fun e w' ⟨h1, h2⟩ => by
    simp only [Int.toNat_natCast] at h2
    rcases h2 with ⟨h3, _⟩ | ⟨_, h3, _⟩ | ⟨_, _, v, O, C, e1, h5, h6⟩
    · exact absurd hg h3
    · exact absurd h3 hfull
    · exact ⟨v, O, C, e1, h5, h6, h1⟩
  have CF : Hid (∀ W, W.cell? ⟨w.heap.size, 0, none⟩ = some (.int .i64 (N : Int)) → Calls Try.prog 18 #[.pointer (some ⟨w.heap.size, 0, none⟩), .int .i64 (F : Int)] W fun e w' => e = .returned (.bool true) ∧ W = w') := fun W h => by have := is_any w.heap.size N (F : Int) W h; rwa [show inW (F : Int) (N : Int) = true by unfold inW; simp; omega] at this
  have CZ : Hid (∀ W, W.cell? ⟨w.heap.size, 0, none⟩ = some (.int .i64 (N : Int)) → Calls Try.prog 18 #[.pointer (some ⟨w.heap.size, 0, none⟩), .int .i64 (Z : Int)] W fun e w' => e = .returned (.bool true) ∧ W = w') := fun W h => by have := is_any w.heap.size N (Z : Int) W h; rwa [show inW (Z : Int) (N : Int) = true by unfold inW; simp; omega] at this
  have HP := Lib.hid hg.pairs
  simp only [Int.toNat_natCast] at HP
  have hN64 : (N : Int) < 65 := by have := hg.2.1; omega
  have HL : Hid (l.length ≤ 256) := hg.2.2.1
  have hz44 := zero44
  have hz45 := zero45
  have hne44 := zA_ne
  have hne45 := zB_ne
  have hs44 := zA_size
  have hgz : zA[Z]? = some (.int .i64 0) := by rw [zA, List.getElem?_toArray, List.getElem?_replicate, if_pos (by have := hg.2.1; omega)]
  have HAN := Lib.hid arr_new
  generalize zA = ZA at *
  generalize zB = ZB at *
  have f1 : (0 : Int) ≤ (F : Int) := by omega
  have f2 : (F : Int) < 65 := by omega
  have z1 : (0 : Int) ≤ (Z : Int) := by omega
  have z2 : (Z : Int) < 65 := by omega
  obtain ⟨i0, hi, hz0, hz1, hz2⟩ := info_parts info3
  have HFZ : Hid (F < 65 ∧ Z < 65 ∧ 1 ≤ F ∧ F ≤ N ∧ 1 ≤ Z ∧ Z ≤ N) := ⟨by omega, by omega, hF1, hF2, hZ1, hZ2⟩
  have HFU := Lib.hid hfull
  clear ha hg hF1 hF2 hZ1 hZ2 hfull
  go_enter Try.func8, Try.ntmps8
  go_wp2_with (first
    | (go_at_call 17; ((with_reducible refine CM2.out.mono ?_); rintro e w1 ⟨rfl, HB1, HC1⟩))
    | (go_at_call 18; ((first | (with_reducible refine (CF.out _ HC1.out).mono ?_) | (with_reducible refine (CZ.out _ HC1.out).mono ?_)); rintro e w2 ⟨rfl, rfl⟩))
    | (go_at_call 19; go_must ((with_reducible refine (CO.out _ HB1.out).mono ?_); rintro e w2 ⟨v, O, C, rfl, HO, HW, HB2⟩; obtain ⟨av, cv, rfl, hI⟩ := own_ints HO.out; have HI := Lib.hid hI; clear hI)))
  have HAR := Lib.hid (HAN.out w2 Z)
  have h1415 : w2.heap.size + 1 ≠ w2.heap.size := by omega
  obtain ⟨xs, hxs⟩ : ∃ xs, Hid (ord N l = xs) := ⟨_, rfl⟩
  have HXR : Hid (∀ k, k < xs.length → 1 ≤ xs.getD k 0 ∧ xs.getD k 0 ≤ (N : Int)) := fun k hk => by have := hxs.out; subst this; exact ord_in hk
  have HXA : Hid (∀ k, k < xs.length → ∀ e ∈ l, e.1 = xs.getD k 0 → e.2 ∈ xs.take k) := fun k hk => by have := hxs.out; subst this; exact ordG_ahead N l N k hk
  have HXN : Hid xs.Nodup := by have := hxs.out; subst this; exact (ordG_ok N l N).nodup
  have HOL : Hid (xs.length ≤ N) := by have := hxs.out; subst this; exact (ordG_ok N l N).len
  have HVV : Hid (waysV N l F Z = wyT (Z : Int) l xs xs.length (F : Int)) := by show _ = _; unfold waysV; rw [hxs.out]
  rw [hxs.out] at HI HO ⊢
  have hxl : (xs.length : Int) < 65 := by have := HOL.out; omega
  clear HAN hz44 hz45 hne44 hne45 hs44 hgz CM2 CO CF CZ HA HO
  generalize ((w2.alloc (.cells (ZA.setIfInBounds Z (.int .i64 1)) 44)).alloc (.cells ZB 45)) = wm at *
  go_loopw [54] (fun v54 wr => ∃ (k : Nat) (V : Nat → Int) (O : Nat → Bool), k ≤ xs.length ∧ v54 = .int .i64 k ∧ Hid (∀ i, i < 65 → Tells (wyT (Z : Int) l xs k) V O i) ∧ Hid (ArrW w2 w2.heap.size (w2.heap.size + 1) V O wr)) (fun v54 _ => xs.length - (intOf v54).toNat)
  case atStart => exact ⟨0, _, _, by omega, rfl, tells0 Z l xs, HAR⟩
  case round =>
    obtain ⟨k, V, O, hk, rfl, HT, HAr⟩ := hrel
    by_cases hlt : k < xs.length
    · obtain ⟨b, off, ea, hb, c0⟩ := (In.Ints.below HI.out HAr.out.bel) k hlt
      rw [ea]
      replace ea := Lib.hid ea
      have hlt1 : (k : Int) < (xs.length : Int) := by omega
      have hk0 : (0 : Int) ≤ (k : Int) := by omega
      have hx := HXR.out k hlt
      have HWS : Hid (xs.getD k 0 = (Z : Int) → ∀ i : Int, wyT (Z : Int) l xs (k + 1) i = wyT (Z : Int) l xs k i) := fun h i => wyT_same h i
      have HWA : Hid (xs.getD k 0 ≠ (Z : Int) → wyT (Z : Int) l xs (k + 1) (xs.getD k 0) = smW (wyT (Z : Int) l xs k) (ndsF l (xs.getD k 0)) (ndsF l (xs.getD k 0)).length) := fun h => wyT_at h
      have HWO : Hid (∀ i : Int, i ≠ xs.getD k 0 → wyT (Z : Int) l xs (k + 1) i = wyT (Z : Int) l xs k i) := fun i h => wyT_off h
      have HWZ : Hid (xs.getD k 0 ≠ (Z : Int) → wyT (Z : Int) l xs k (xs.getD k 0) = 0) := fun h => wyT_zero (nodup_take HXN.out hlt) h (by omega)
      have HWN : Hid (∀ i, 0 ≤ wyT (Z : Int) l xs k i) := wyT_nn _ _ _ _
      have HAH : Hid (∀ i, i < (ndsF l (xs.getD k 0)).length → (ndsF l (xs.getD k 0)).getD i 0 ≠ xs.getD k 0) := fun i hi e => by
        have hm := getD_memI _ _ hi
        have := HXA.out k hlt _ (nds_mem.1 hm) rfl
        simp only at this
        rw [e] at this
        exact nodup_take HXN.out hlt this
      obtain ⟨X, hX⟩ : ∃ X : Nat, Hid (xs.getD k 0 = (X : Int)) := ⟨(xs.getD k 0).toNat, by show _ = _; omega⟩
      rw [hX.out] at c0 hx HWS HWA HWO HWZ HAH
      generalize wyT (Z : Int) l xs k = T at *
      obtain ⟨T', hT'⟩ : ∃ T', Hid (wyT (Z : Int) l xs (k + 1) = T') := ⟨_, rfl⟩
      rw [hT'.out] at HWS HWA HWO
      have hx1 : (0 : Int) ≤ (X : Int) := by omega
      have hx3 : (X : Int) < 65 := by omega
      by_cases g : X = Z
      · have d1 : ((X : Int) == (Z : Int)) = true := by simp [g]
        have HT2 : Hid (∀ i, i < 65 → Tells T' V O i) := fun i hi => by
          have := HT.out i hi
          have e := HWS.out (by rw [g]) (i : Int)
          exact ⟨by rw [e]; exact this.over, by rw [e]; exact this.val, this.nn, this.le⟩
        clear g hx
        go_wp2
        go_roundw
        case rel => exact ⟨k + 1, V, O, hlt, by go_num, by rw [hT'.out]; exact HT2, HAr⟩
        case measure => simp [intOf]; omega
      · have gi : (X : Int) ≠ (Z : Int) := by omega
        have d1 : ((X : Int) == (Z : Int)) = false := beq_eq_false_iff_ne.2 gi
        have HWA2 := Lib.hid (HWA.out gi)
        have HOX : Hid (O X = false) := by
          have h0 := (HT.out X (by omega)).over
          cases e : O X with
          | false => rfl
          | true => have := h0.1 e; rw [HWZ.out gi] at this; unfold MX at this; omega
        have hr1 : isRow (1 + X) := by unfold isRow; omega
        obtain ⟨ua, uc, hCu, hUI⟩ := HW.out.ints hr1
        have cR := (HW.out.cell (i := 1 + X) (by omega))
        rw [hCu] at cR
        have HAe := Lib.hid (HAr.out.alloc (.cells #[] 3))
        have cR2 := (HAe.out.bel.cell (p := ⟨w1.heap.size, 1 + X, none⟩) HW.out.row.lt).trans cR
        have HLe : Hid ((wr.alloc (.cells #[] 3)).ownsRow wr.heap.size 3 1 (.slice (some ⟨wr.heap.size, 0, none⟩) 0 0) 0 []) := World.ownsRow_made wr #[] 0 (Nat.le_refl _) (by unfold maxLen; omega) rfl
        have HSe : Hid (wr.heap.size ≤ (wr.alloc (.cells #[] 3)).heap.size) := by show _ ≤ _; simp
        have hl14 := HAr.out.ways.lt
        have hl15 := HAr.out.over.lt
        rw [RF_nds l X (by omega)] at cR2 hUI
        have HYR : Hid (∀ i, i < (ndsF l (X : Int)).length → 1 ≤ (ndsF l (X : Int)).getD i 0 ∧ (ndsF l (X : Int)).getD i 0 ≤ (N : Int)) := fun i hi => nds_in HP.out hi
        have HYL : Hid ((ndsF l (X : Int)).length ≤ 256) := Nat.le_trans (ndsF_len _ _) HL.out
        replace hUI := Lib.hid hUI
        clear cR hCu hx g gi HWZ HWA HWS
        generalize ndsF l (X : Int) = ys at *
        have hyl : (ys.length : Int) < 257 := by have := HYL.out; omega
        obtain ⟨wo, rfl⟩ : ∃ wo : World, wo = wr := ⟨_, rfl⟩
        go_wp2
        generalize wo.alloc (.cells #[] 3) = we at *
        go_loopw [18, 69] (fun v18 v69 wx => ∃ j : Nat, j ≤ ys.length ∧ v69 = .int .i64 j ∧ Hid (wx.ownsRow wo.heap.size 3 1 v18 j ((lA V ys j).map (Value.int .i64))) ∧ Hid (ArrW w2 w2.heap.size (w2.heap.size + 1) V (fun i => if i = X then oAny O ys j else O i) wx) ∧ Hid (wo.heap.size ≤ wx.heap.size)) (fun _ v69 _ => ys.length - (intOf v69).toNat)
        case atStart => exact ⟨0, by omega, rfl, HLe, HAe.out.congr (fun _ => rfl) (fun i => by
          by_cases e : i = X
          · subst e; rw [if_pos rfl]; exact HOX.out.symm
          · rw [if_neg e]), HSe⟩
        case round =>
          obtain ⟨j, hj, rfl, HLr, HAx, HSr⟩ := hrel
          by_cases hltj : j < ys.length
          · obtain ⟨b2, off2, ea2, hb2, c2⟩ := (In.Ints.below hUI.out HAx.out.bel) j hltj
            rw [ea2]
            replace ea2 := Lib.hid ea2
            have hltj1 : (j : Int) < (ys.length : Int) := by omega
            have hj0 : (0 : Int) ≤ (j : Int) := by omega
            have hy := HYR.out j hltj
            have hyx := HAH.out j hltj
            have HLS := Lib.hid (lA_snoc V ys j hltj)
            have HOS : Hid (oAny O ys (j + 1) = (oAny O ys j || O (ys.getD j 0).toNat)) := rfl
            obtain ⟨Y, hY⟩ : ∃ Y : Nat, Hid (ys.getD j 0 = (Y : Int)) := ⟨(ys.getD j 0).toNat, by show _ = _; omega⟩
            rw [hY.out] at c2 hy hyx HLS HOS
            rw [Int.toNat_natCast] at HLS HOS
            have hyx2 : Y ≠ X := fun e => hyx (by rw [e])
            have hy0 : (0 : Int) ≤ (Y : Int) := by omega
            have hy65 : (Y : Int) < 65 := by omega
            have cox := HAx.out.over.cell (i := X) (by omega)
            have fox := HAx.out.over.frozen X
            have coy := HAx.out.over.cell (i := Y) (by omega)
            have cwy := HAx.out.ways.cell (i := Y) (by omega)
            rw [if_pos rfl] at cox
            rw [if_neg hyx2] at coy
            have HLL : Hid (j ≤ 256) := by have := HYL.out; show _ ≤ _; omega
            have HSO := Lib.hid (HAx.out.setO (by omega) (by omega) X)
            obtain ⟨A1, hA1⟩ : ∃ A1, Hid (oAny O ys j = A1) := ⟨_, rfl⟩
            obtain ⟨A2, hA2⟩ : ∃ A2, Hid (O Y = A2) := ⟨_, rfl⟩
            obtain ⟨VY, hVY⟩ : ∃ VY, Hid (V Y = VY) := ⟨_, rfl⟩
            rw [hA1.out] at cox HOS
            rw [hA2.out] at coy HOS
            rw [hVY.out] at cwy HLS
            have HLT : Hid (j < ys.length) := hltj
            clear hy hyx hb hb2
            cases A1 with
            | true =>
              have HAs : Hid (ArrW w2 w2.heap.size (w2.heap.size + 1) V (fun i => if i = X then true else O i) (wr.setCell ⟨w2.heap.size + 1, X, none⟩ (.bool true))) := (HSO.out true).congr (fun _ => rfl) (fun i => by by_cases e : i = X <;> simp [e])
              have HLs : Hid ((wr.setCell ⟨w2.heap.size + 1, X, none⟩ (.bool true)).ownsRow wo.heap.size 3 1 _ j ((lA V ys j).map (Value.int .i64))) := ownsRow_setCell_below HLr.out hl15 _
              have cwy2 := HAs.out.ways.cell (i := Y) (by omega)
              have HOS2 : Hid (oAny O ys (j + 1) = true) := by show _ = _; rw [HOS.out]; rfl
              rw [hVY.out] at cwy2
              clear cwy hltj
              go_wp2_with (at_builtin; go_must (refine Own.list_one rfl (.tmp 83) (.tmp 87) 30 rfl wo.heap.size 3 i0 _ 8 Try.underlying30 hi hz0 hz1 hz2 rfl _ _ _ rfl _ _ _ rfl (HLs.out.alloc _) (cell_new2 _ _ _ _ _) rfl ?h1 ?h2 ?h3 ?_; (case h1 => have := HLL.out; unfold maxLen; omega); (case h2 => have := HLL.out; omega); (case h3 => have := HSr.out; simp; omega); intro v3' w4 hown4 hgrow4; have HA4 := Lib.hid ((HAs.out.alloc _).grown hgrow4 (fun k e => by have := Own.own_block HLr.out (Nat.le_refl _) k e; omega)); have HL4 := Lib.hid hown4; have HS4 : Hid (wo.heap.size ≤ w4.heap.size) := (by have h1 := hgrow4.size; have h2 := HSr.out; simp at h1; show _ ≤ _; omega); clear hown4 hgrow4))
              go_roundw
              case rel => exact ⟨j + 1, by have := HLT.out; omega, by go_num, by rw [HLS.out, List.map_append]; exact HL4, by rw [HOS2.out]; exact HA4, HS4⟩
              case measure => have := HLT.out; simp [intOf]; omega
            | false =>
              have HAs : Hid (ArrW w2 w2.heap.size (w2.heap.size + 1) V (fun i => if i = X then A2 else O i) (wr.setCell ⟨w2.heap.size + 1, X, none⟩ (.bool A2))) := (HSO.out A2).congr (fun _ => rfl) (fun i => by by_cases e : i = X <;> simp [e])
              have HLs : Hid ((wr.setCell ⟨w2.heap.size + 1, X, none⟩ (.bool A2)).ownsRow wo.heap.size 3 1 _ j ((lA V ys j).map (Value.int .i64))) := ownsRow_setCell_below HLr.out hl15 _
              have cwy2 := HAs.out.ways.cell (i := Y) (by omega)
              have HOS2 : Hid (oAny O ys (j + 1) = A2) := by show _ = _; rw [HOS.out]; simp
              rw [hVY.out] at cwy2
              clear cwy hltj
              go_wp2_with (at_builtin; go_must (refine Own.list_one rfl (.tmp 83) (.tmp 87) 30 rfl wo.heap.size 3 i0 _ 8 Try.underlying30 hi hz0 hz1 hz2 rfl _ _ _ rfl _ _ _ rfl (HLs.out.alloc _) (cell_new2 _ _ _ _ _) rfl ?h1 ?h2 ?h3 ?_; (case h1 => have := HLL.out; unfold maxLen; omega); (case h2 => have := HLL.out; omega); (case h3 => have := HSr.out; simp; omega); intro v3' w4 hown4 hgrow4; have HA4 := Lib.hid ((HAs.out.alloc _).grown hgrow4 (fun k e => by have := Own.own_block HLr.out (Nat.le_refl _) k e; omega)); have HL4 := Lib.hid hown4; have HS4 : Hid (wo.heap.size ≤ w4.heap.size) := (by have h1 := hgrow4.size; have h2 := HSr.out; simp at h1; show _ ≤ _; omega); clear hown4 hgrow4))
              go_roundw
              case rel => exact ⟨j + 1, by have := HLT.out; omega, by go_num, by rw [HLS.out, List.map_append]; exact HL4, by rw [HOS2.out]; exact HA4, HS4⟩
              case measure => have := HLT.out; simp [intOf]; omega
          · have hje : j = ys.length := by omega
            have hge : ¬ (j : Int) < (ys.length : Int) := by omega
            rw [hje] at HLr HAx
            obtain ⟨al, cl, el, hIl⟩ := own_ints (l := lA V ys ys.length) (by rw [lA_len]; exact HLr.out)
            have hys : ∀ j, j < ys.length → 1 ≤ ys.getD j 0 ∧ ys.getD j 0 < 65 := fun j hj => by have := HYR.out j hj; omega
            have hla := lA_in HT.out hys ys.length
            have CS := Lib.hid (sum_any al cl (lA V ys ys.length) (by rw [lA_len]; omega) wr hIl (fun x hx => (hla x hx).1) (fun x hx => (hla x hx).2))
            have HT2 := Lib.hid (@tells_step T T' V O ys X HT.out HWN.out hys HWA2.out HWO.out _ rfl)
            have cwx := HAx.out.ways.cell (i := X) (by omega)
            have fwx := HAx.out.ways.frozen X
            have cox := HAx.out.over.cell (i := X) (by omega)
            have fox := HAx.out.over.frozen X
            rw [if_pos rfl] at cox
            rw [el]
            obtain ⟨A1, hA1⟩ : ∃ A1, Hid (oAny O ys ys.length = A1) := ⟨_, rfl⟩
            obtain ⟨s, hs⟩ : ∃ s, Hid ((lA V ys ys.length).sum = s) := ⟨_, rfl⟩
            rw [hA1.out] at cox HT2 HAx
            rw [hs.out] at CS HT2
            rw [lA_len] at CS ⊢
            have HLT : Hid (k < xs.length) := hlt
            clear el hIl hys hla hje
            by_cases hok : s ≤ MX
            · rw [if_pos hok, if_pos hok] at CS
              cases A1 with
              | true =>
                have HAs : Hid (ArrW w2 w2.heap.size (w2.heap.size + 1) (fun i => if i = X then s else V i) (fun i => if i = X then true else O i) (wr.setCell ⟨w2.heap.size, X, none⟩ (.int .i64 s))) := HAx.out.setV (by omega) (by omega) X s
                have cox2 := HAs.out.over.cell (i := X) (by omega)
                have fox2 := HAs.out.over.frozen X
                rw [if_pos rfl] at cox2
                have HAv : Hid (ArrW w2 w2.heap.size (w2.heap.size + 1) (fun i => if i = X then s else V i) (fun i => if i = X then true else O i) ((wr.setCell ⟨w2.heap.size, X, none⟩ (.int .i64 s)).setCell ⟨w2.heap.size + 1, X, none⟩ (.bool true))) := (HAs.out.setO (by omega) (by omega) X true).congr (fun _ => rfl) (fun i => by by_cases e : i = X <;> simp [e])
                have HT3 : Hid (∀ i, i < 65 → Tells T' (fun i => if i = X then s else V i) (fun i => if i = X then true else O i) i) := by
                  show ∀ i, i < 65 → _
                  simpa [hok] using HT2.out
                clear hok hltj hb
                go_wp2_with (go_at_call 20; go_must ((with_reducible refine CS.out.mono ?_); rintro e w3 ⟨rfl, rfl⟩))
                go_roundw
                case rel => exact ⟨k + 1, _, _, HLT.out, by go_num, by rw [hT'.out]; exact HT3, HAv⟩
                case measure => have := HLT.out; simp [intOf]; omega
              | false =>
                have HAs : Hid (ArrW w2 w2.heap.size (w2.heap.size + 1) (fun i => if i = X then s else V i) (fun i => if i = X then false else O i) (wr.setCell ⟨w2.heap.size, X, none⟩ (.int .i64 s))) := HAx.out.setV (by omega) (by omega) X s
                have cox2 := HAs.out.over.cell (i := X) (by omega)
                have fox2 := HAs.out.over.frozen X
                rw [if_pos rfl] at cox2
                have HAv : Hid (ArrW w2 w2.heap.size (w2.heap.size + 1) (fun i => if i = X then s else V i) (fun i => if i = X then false else O i) ((wr.setCell ⟨w2.heap.size, X, none⟩ (.int .i64 s)).setCell ⟨w2.heap.size + 1, X, none⟩ (.bool false))) := (HAs.out.setO (by omega) (by omega) X false).congr (fun _ => rfl) (fun i => by by_cases e : i = X <;> simp [e])
                have HT3 : Hid (∀ i, i < 65 → Tells T' (fun i => if i = X then s else V i) (fun i => if i = X then false else O i) i) := by
                  show ∀ i, i < 65 → _
                  simpa [hok] using HT2.out
                clear hok hltj hb
                go_wp2_with (go_at_call 20; go_must ((with_reducible refine CS.out.mono ?_); rintro e w3 ⟨rfl, rfl⟩))
                go_roundw
                case rel => exact ⟨k + 1, _, _, HLT.out, by go_num, by rw [hT'.out]; exact HT3, HAv⟩
                case measure => have := HLT.out; simp [intOf]; omega
            · rw [if_neg hok, if_neg hok] at CS
              cases A1 with
              | true =>
                have HAs : Hid (ArrW w2 w2.heap.size (w2.heap.size + 1) (fun i => if i = X then 0 else V i) (fun i => if i = X then true else O i) (wr.setCell ⟨w2.heap.size, X, none⟩ (.int .i64 0))) := HAx.out.setV (by omega) (by omega) X 0
                have cox2 := HAs.out.over.cell (i := X) (by omega)
                have fox2 := HAs.out.over.frozen X
                rw [if_pos rfl] at cox2
                have HAv : Hid (ArrW w2 w2.heap.size (w2.heap.size + 1) (fun i => if i = X then 0 else V i) (fun i => if i = X then true else O i) ((wr.setCell ⟨w2.heap.size, X, none⟩ (.int .i64 0)).setCell ⟨w2.heap.size + 1, X, none⟩ (.bool true))) := (HAs.out.setO (by omega) (by omega) X true).congr (fun _ => rfl) (fun i => by by_cases e : i = X <;> simp [e])
                have HT3 : Hid (∀ i, i < 65 → Tells T' (fun i => if i = X then 0 else V i) (fun i => if i = X then true else O i) i) := by
                  show ∀ i, i < 65 → _
                  simpa [hok] using HT2.out
                clear hok hltj hb
                go_wp2_with (go_at_call 20; go_must ((with_reducible refine CS.out.mono ?_); rintro e w3 ⟨rfl, rfl⟩))
                go_roundw
                case rel => exact ⟨k + 1, _, _, HLT.out, by go_num, by rw [hT'.out]; exact HT3, HAv⟩
                case measure => have := HLT.out; simp [intOf]; omega
              | false =>
                have HAs : Hid (ArrW w2 w2.heap.size (w2.heap.size + 1) (fun i => if i = X then 0 else V i) (fun i => if i = X then false else O i) (wr.setCell ⟨w2.heap.size, X, none⟩ (.int .i64 0))) := HAx.out.setV (by omega) (by omega) X 0
                have cox2 := HAs.out.over.cell (i := X) (by omega)
                have fox2 := HAs.out.over.frozen X
                rw [if_pos rfl] at cox2
                have HAv : Hid (ArrW w2 w2.heap.size (w2.heap.size + 1) (fun i => if i = X then 0 else V i) (fun i => if i = X then true else O i) ((wr.setCell ⟨w2.heap.size, X, none⟩ (.int .i64 0)).setCell ⟨w2.heap.size + 1, X, none⟩ (.bool true))) := (HAs.out.setO (by omega) (by omega) X true).congr (fun _ => rfl) (fun i => by by_cases e : i = X <;> simp [e])
                have HT3 : Hid (∀ i, i < 65 → Tells T' (fun i => if i = X then 0 else V i) (fun i => if i = X then true else O i) i) := by
                  show ∀ i, i < 65 → _
                  simpa [hok] using HT2.out
                clear hok hltj hb
                go_wp2_with (go_at_call 20; go_must ((with_reducible refine CS.out.mono ?_); rintro e w3 ⟨rfl, rfl⟩))
                go_roundw
                case rel => exact ⟨k + 1, _, _, HLT.out, by go_num, by rw [hT'.out]; exact HT3, HAv⟩
                case measure => have := HLT.out; simp [intOf]; omega
    · have hke : k = xs.length := by omega
      have hge : ¬ (k : Int) < (xs.length : Int) := by omega
      have hT := HT.out F HFZ.out.1
      rw [hke] at hT
      have cof := HAr.out.over.cell (i := F) HFZ.out.1
      have cvf := HAr.out.ways.cell (i := F) HFZ.out.1
      have HBB : Hid (Below w.heap.size w wr) := by
        have h1 := HB1.out.size
        have h2 := HB2.out.size
        exact HB1.out.trans ((HB2.out.mono h1).trans (HAr.out.bel.mono (by omega)))
      obtain ⟨A, hA⟩ : ∃ A, Hid (O F = A) := ⟨_, rfl⟩
      obtain ⟨VF, hVF⟩ : ∃ A, Hid (V F = A) := ⟨_, rfl⟩
      rw [hA.out] at cof
      rw [hVF.out] at cvf
      have hvv := HVV.out
      have h1 := hT.over
      have h2 := hT.val
      rw [hA.out] at h1 h2
      rw [hVF.out] at h2
      generalize wyT (Z : Int) l xs xs.length (F : Int) = R at *
      cases A with
      | true =>
        have h3 : ¬ R ≤ MX := by have := h1.1 rfl; omega
        rw [← hvv] at h3
        have e1 : RV = 0 := HRR.out.1.symm.trans (if_neg h3)
        have e2 : RE = 5 := HRR.out.2.symm.trans (if_neg h3)
        subst e1
        subst e2
        clear h1 h2 h3 hT hlt hke hvv
        go_wp2
        go_ret2
        exact ⟨rfl, HBB.out⟩
      | false =>
        have h3 : R ≤ MX := by
          by_cases e : MX < R
          · have := h1.2 e; cases this
          · omega
        rw [← hvv] at h3
        have e1 : RV = VF := HRR.out.1.symm.trans ((if_pos h3).trans (hvv.trans (h2 rfl).symm))
        have e2 : RE = 0 := HRR.out.2.symm.trans (if_pos h3)
        subst e1
        subst e2
        clear h1 h2 h3 hT hlt hke hvv
        go_wp2
        go_ret2
        exact ⟨rfl, HBB.out⟩
end Gra
end Go.Proofs.Ytjdkkldlghdojaa
