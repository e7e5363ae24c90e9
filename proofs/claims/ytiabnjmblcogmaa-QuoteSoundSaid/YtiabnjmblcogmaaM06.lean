/- Texts put together: GraR, GraR2. -/
import Derived.Test.YtiabnjmblcogmaaM05
import Derived.Deep.QuietTactic
import Derived.Deep.DeepMust
set_option linter.all false
section
namespace Go.Proofs.Ytiabnjmblcogmaa
open Go.RowKit
namespace Gra
open In (Ints IsInts)
def inTo (l : List Int) (x : Int) (k : Nat) : Bool := (l.take k).contains x
theorem contains_no (l : List Int) (x : Int) (h : ∀ j, j < l.length → l.getD j 0 ≠ x) : l.contains x = false := by
  cases hc : l.contains x with
  | false => rfl
  | true =>
    have hm : x ∈ l := by simpa using hc
    obtain ⟨i, hi, e⟩ := List.getElem_of_mem hm
    exact absurd (by rw [List.getD_eq_getElem?_getD, List.getElem?_eq_getElem hi, Option.getD_some]; exact e) (h i hi)
theorem contains_yes (l : List Int) (x : Int) (j : Nat) (hj : j < l.length) (h : l.getD j 0 = x) : l.contains x = true := by
  have : x ∈ l := by rw [← h, List.getD_eq_getElem?_getD, List.getElem?_eq_getElem hj]; exact List.getElem_mem _
  simpa using this
theorem in_any (a : Option Addr) (cap : Nat) (l : List Int) (hl : l.length ≤ 4096) (x : Int) (w : World) (ha : Ints .i64 w a l) :
    Calls Try.prog 97 #[.slice a l.length cap, .int .i64 x] w fun e w' => e = .returned (.bool (l.contains x)) ∧ w = w' := by
  have HA := Lib.hid ha
  clear ha
  obtain ⟨RS, hRS⟩ : ∃ A : Bool, Hid (l.contains x = A) := ⟨_, rfl⟩
  rw [hRS.out]
  go_enter Try.func97, Try.ntmps97
  go_wp2
  go_loop [5] (fun i => ∃ k : Nat, k ≤ l.length ∧ i = .int .i64 k ∧ Hid (∀ j, j < k → l.getD j 0 ≠ x)) (fun i => l.length - (intOf i).toNat)
  case atStart => exact ⟨0, by omega, rfl, fun j hj => by omega⟩
  case round =>
    obtain ⟨k, hk, rfl, HK⟩ := hrel
    by_cases hlt : k < l.length
    · obtain ⟨b, off, rfl, hbl, hcc⟩ := HA.out k hlt
      have hlt1 : (k : Int) < (l.length : Int) := by omega
      have HY : Hid (l.getD k 0 = x → l.contains x = true) := contains_yes l x k hlt
      have HN : Hid (l.getD k 0 ≠ x → ∀ j, j < k + 1 → l.getD j 0 ≠ x) := fun h j hj => by
        by_cases e : j = k
        · subst e; exact h
        · exact HK.out j (by omega)
      generalize l.getD k 0 = T at *
      by_cases g : T = x
      · have d1 : (T == x) = true := by simp [g]
        have HR := Lib.hid (HY.out g)
        clear g
        go_wp2
        go_ret
        exact ⟨by rw [show RS = _ from hRS.out.symm.trans HR.out]; rfl, rfl⟩
      · have d1 : (T == x) = false := beq_eq_false_iff_ne.2 g
        have HR := Lib.hid (HN.out g)
        clear g
        go_wp2
        go_round
        case rel => exact ⟨k + 1, by omega, by go_num, HR⟩
        case measure => simp [intOf]; omega
    · have hge : ¬ (k : Int) < (l.length : Int) := by omega
      have HR := Lib.hid (contains_no l x (fun j hj => HK.out j (by omega)))
      clear hlt
      go_wp2
      go_ret
      exact ⟨by rw [show RS = _ from hRS.out.symm.trans HR.out]; rfl, rfl⟩
instance (n : Int) (l : List (Int × Int)) : Decidable (Good n l) := by unfold Good; exact inferInstance
theorem inW_dec {x n : Int} : (inW x n = false) ↔ (x < 1 ∨ n < x) := by
  constructor
  · intro h; have := inW_no h; omega
  · intro h
    cases e : inW x n with
    | false => rfl
    | true => have := inW_yes e; omega
set_option maxRecDepth 100000 in
set_option maxHeartbeats 2000000 in
theorem may_core (n : Int) (a : Option Addr) (cap : Nat) (l : List (Int × Int)) (hn0 : 0 ≤ n) (hn : n ≤ 64) (hl : l.length ≤ 256) (w : World) (ha : Prs w a l) :
    Calls Try.prog 96 #[.int .i64 n, .slice a l.length cap] w fun e w' => e = .returned (.bool (decide (Good n l))) ∧ Below w.heap.size w w' := by
  have HA := Lib.hid ha
  have d1 : decide (n < 0) = false := decide_eq_false (by omega)
  have d2 : decide (64 < n) = false := decide_eq_false (by omega)
  have d3 : decide ((256 : Int) < (l.length : Int)) = false := decide_eq_false (by omega)
  have HN : Hid (0 ≤ n ∧ n ≤ 64 ∧ l.length ≤ 256) := ⟨hn0, hn, hl⟩
  clear ha
  go_enter Try.func96, Try.ntmps96
  go_wp2
  go_loopw [5] (fun v5 wr => ∃ k : Nat, k ≤ l.length ∧ v5 = .int .i64 k ∧ Hid (∀ j, j < k → inW (l.getD j (0, 0)).1 n = true ∧ inW (l.getD j (0, 0)).2 n = true) ∧ Hid (Below w.heap.size w wr)) (fun v5 _ => l.length - (intOf v5).toNat)
  case atStart => exact ⟨0, by omega, rfl, fun j hj => by omega, Below.refl _ _⟩
  case round =>
    obtain ⟨k, hk, rfl, HV, HB⟩ := hrel
    by_cases hlt : k < l.length
    · obtain ⟨b, off, ea, hb, c0, c1⟩ := (Prs.below HA.out HB.out) k hlt
      rw [ea]
      replace ea := Lib.hid ea
      have hlt1 : (k : Int) < (l.length : Int) := by omega
      have hk0 : (0 : Int) ≤ (k : Int) := by omega
      have HNO : Hid (¬ (inW (l.getD k (0, 0)).1 n = true ∧ inW (l.getD k (0, 0)).2 n = true) → decide (Good n l) = false) := fun h => decide_eq_false fun hg => h (hg.2.2.2 k hlt)
      have HYE : Hid ((inW (l.getD k (0, 0)).1 n = true ∧ inW (l.getD k (0, 0)).2 n = true) → ∀ j, j < k + 1 → inW (l.getD j (0, 0)).1 n = true ∧ inW (l.getD j (0, 0)).2 n = true) := fun h j hj => by
        by_cases e : j = k
        · subst e; exact h
        · exact HV.out j (by omega)
      obtain ⟨p, hp⟩ : ∃ A, Hid ((l.getD k (0, 0)).1 = A) := ⟨_, rfl⟩
      obtain ⟨q, hq⟩ : ∃ A, Hid ((l.getD k (0, 0)).2 = A) := ⟨_, rfl⟩
      rw [hp.out] at c0 HNO HYE
      rw [hq.out] at c1 HNO HYE
      by_cases g1 : p < 1
      · have e1 : decide (p < 1) = true := decide_eq_true g1
        have HNF := Lib.hid (HNO.out (fun h => by have := inW_yes h.1; omega))
        go_wp2
        go_ret
        exact ⟨by rw [HNF.out]; rfl, HB.out⟩
      · have e1 : decide (p < 1) = false := decide_eq_false g1
        by_cases g2 : n < p
        · have e2 : decide (n < p) = true := decide_eq_true g2
          have HNF := Lib.hid (HNO.out (fun h => by have := inW_yes h.1; omega))
          clear g1 g2
          go_wp2
          go_ret
          exact ⟨by rw [HNF.out]; rfl, HB.out⟩
        · have e2 : decide (n < p) = false := decide_eq_false g2
          by_cases g3 : q < 1
          · have e3 : decide (q < 1) = true := decide_eq_true g3
            have HNF := Lib.hid (HNO.out (fun h => by have := inW_yes h.2; omega))
            clear g1 g2 g3
            go_wp2
            go_ret
            exact ⟨by rw [HNF.out]; rfl, HB.out⟩
          · have e3 : decide (q < 1) = false := decide_eq_false g3
            by_cases g4 : n < q
            · have e4 : decide (n < q) = true := decide_eq_true g4
              have HNF := Lib.hid (HNO.out (fun h => by have := inW_yes h.2; omega))
              clear g1 g2 g3 g4
              go_wp2
              go_ret
              exact ⟨by rw [HNF.out]; rfl, HB.out⟩
            · have e4 : decide (n < q) = false := decide_eq_false g4
              have HYF := Lib.hid (HYE.out (by
                constructor
                · cases e : inW p n with
                  | true => rfl
                  | false => rw [inW_dec] at e; omega
                · cases e : inW q n with
                  | true => rfl
                  | false => rw [inW_dec] at e; omega))
              clear g1 g2 g3 g4
              go_wp2
              go_roundw
              case rel => exact ⟨k + 1, by omega, by go_num, HYF, HB⟩
              case measure => simp [intOf]; omega
    · have hge : ¬ (k : Int) < (l.length : Int) := by omega
      have HNF : Hid (decide (Good n l) = true) := decide_eq_true ⟨HN.out.1, HN.out.2.1, HN.out.2.2, fun j hj => HV.out j (by omega)⟩
      clear hlt
      go_wp2
      go_ret
      exact ⟨by rw [HNF.out]; rfl, HB.out⟩
set_option maxRecDepth 100000 in
theorem may_any (n : Int) (a : Option Addr) (cap : Nat) (l : List (Int × Int)) (w : World) (ha : Prs w a l) :
    Calls Try.prog 96 #[.int .i64 n, .slice a l.length cap] w fun e w' => e = .returned (.bool (decide (Good n l))) ∧ Below w.heap.size w w' := by
  by_cases h1 : n < 0
  · have d1 : decide (n < 0) = true := decide_eq_true h1
    have HE : Hid (decide (Good n l) = false) := decide_eq_false fun h => by have := h.1; omega
    clear ha h1
    go_enter Try.func96, Try.ntmps96
    go_wp2
    go_ret
    exact ⟨by rw [HE.out]; rfl, Below.refl _ _⟩
  · by_cases h2 : 64 < n
    · have d1 : decide (n < 0) = false := decide_eq_false h1
      have d2 : decide (64 < n) = true := decide_eq_true h2
      have HE : Hid (decide (Good n l) = false) := decide_eq_false fun h => by have := h.2.1; omega
      clear ha h1
      go_enter Try.func96, Try.ntmps96
      go_wp2
      go_ret
      exact ⟨by rw [HE.out]; rfl, Below.refl _ _⟩
    · by_cases h3 : (256 : Int) < (l.length : Int)
      · have d1 : decide (n < 0) = false := decide_eq_false h1
        have d2 : decide (64 < n) = false := decide_eq_false h2
        have d3 : decide ((256 : Int) < (l.length : Int)) = true := decide_eq_true h3
        have HE : Hid (decide (Good n l) = false) := decide_eq_false fun h => by have := h.2.2.1; omega
        clear ha h1 h2
        go_enter Try.func96, Try.ntmps96
        go_wp2
        go_ret
        exact ⟨by rw [HE.out]; rfl, Below.refl _ _⟩
      · exact may_core n a cap l (by omega) (by omega) (by omega) w ha
theorem Good.pairs {n : Int} {l : List (Int × Int)} (h : Good n l) : ∀ e ∈ l, (1 ≤ e.1 ∧ e.1 ≤ ((n.toNat : Nat) : Int)) ∧ (1 ≤ e.2 ∧ e.2 ≤ ((n.toNat : Nat) : Int)) := by
  intro e he
  obtain ⟨i, hi, rfl⟩ := List.getElem_of_mem he
  have := h.2.2.2 i hi
  rw [List.getD_eq_getElem?_getD, List.getElem?_eq_getElem hi, Option.getD_some] at this
  have h1 := inW_yes this.1
  have h2 := inW_yes this.2
  have := h.1
  omega
/-- What Order answers: the order, and why there is none. -/
def ordRes (n : Int) (l : List (Int × Int)) : List Int × Int :=
  if Good n l then (if (ord n.toNat l).length < n.toNat then ([], 9) else (ord n.toNat l, 0)) else ([], 1)
def ListOut (r : List Int × Int) (w : World) (e : Ending) (w' : World) : Prop :=
  ∃ a cap, e = .returned (.tuple #[.slice a r.1.length cap, .int .i64 r.2]) ∧ Ints .i64 w' a r.1 ∧ Below w.heap.size w w'
def OrderedOut (n : Int) (l : List (Int × Int)) (w : World) (e : Ending) (w' : World) : Prop :=
  Below w.heap.size w w' ∧ ((¬ Good n l ∧ e = .returned (.tuple #[.pointer none, .slice none 0 0, .int .i64 1]))
    ∨ (Good n l ∧ (ord n.toNat l).length < n.toNat ∧ e = .returned (.tuple #[.pointer none, .slice none 0 0, .int .i64 9]))
    ∨ (Good n l ∧ ¬ (ord n.toNat l).length < n.toNat ∧ ∃ v O C, e = .returned (.tuple #[.pointer (some ⟨w.heap.size, 0, none⟩), v, .int .i64 0]) ∧ w'.ownsRow w.heap.size 3 1 v (ord n.toNat l).length ((ord n.toNat l).map (Value.int .i64)) ∧ Web w' w.heap.size w.heap.size n (RF l) O C))
theorem own_base {w : World} {base base' : Nat} {e : TypeId} {size n : Nat} {v : Value} {xs : List Value} (h : w.ownsRow base e size v n xs) (hb : base' ≤ base) : w.ownsRow base' e size v n xs := by
  refine ⟨h.1, ?_⟩
  rcases h.2 with h0 | ⟨g', cap, cur, hv, h1, r⟩
  · exact .inl h0
  · exact .inr ⟨g', cap, cur, hv, Nat.le_trans hb h1, r⟩
theorem grw_below {W w' : World} {g B : Nat} (h : W.grownBy w' (some g)) (hB : B ≤ g) (hBW : B ≤ W.heap.size) : Below B W w' :=
  ⟨h.os, h.tape, h.output, h.size, fun k hk => h.block k (by omega) (fun e => by cases e; omega)⟩
theorem OF_cnt (l : List (Int × Int)) (x : Nat) : OF l x = cnt l [] (x : Int) := by
  unfold OF; rw [cnt_nil]; rfl
set_option maxRecDepth 100000 in
set_option maxHeartbeats 2000000 in
theorem ordered_any (n : Int) (a : Option Addr) (cap : Nat) (l : List (Int × Int)) (w : World) (ha : Prs w a l) :
    Calls Try.prog 82 #[.int .i64 n, .slice a l.length cap] w (OrderedOut n l w) := by
  have CM := Lib.hid (made_any n a cap l w ha)
  clear ha
  by_cases hg : Good n l
  · have CM2 : Hid (Calls Try.prog 94 #[.int .i64 n, .slice a l.length cap] w fun e w' => e = .returned (.pointer (some ⟨w.heap.size, 0, none⟩)) ∧ Hid (Below w.heap.size w w' ∧ ∃ C, Web w' w.heap.size w.heap.size n (RF l) (OF l) C)) := CM.out.mono fun e w' ⟨h1, h2⟩ => by
      rcases h2 with ⟨_, e1, h3⟩ | ⟨h3, _⟩
      · exact ⟨e1, h1, h3⟩
      · exact absurd hg h3
    have HG := Lib.hid hg
    obtain ⟨N, hN⟩ : ∃ N : Nat, n = (N : Int) := ⟨n.toNat, by have := hg.1; omega⟩
    subst hN
    have CO : Hid (∀ (w' : World) (C : Nat → Value), Web w' w.heap.size w.heap.size (N : Int) (RF l) (OF l) C → Calls Try.prog 95 #[.pointer (some ⟨w.heap.size, 0, none⟩)] w' (OrderOut w' w.heap.size N l C)) := fun w' C h => order_any w.heap.size N l C w' (by have := HG.out.2.1; omega) HG.out.2.2.1 (by have := HG.out.pairs; simpa using this) h.ordC (Web.start h (fun x _ => OF_cnt l x))
    clear hg CM
    have hT : ((N : Int)).toNat = N := by simp
    have hM1 : ((ord N l).length : Int) < 65 := by have := (ordG_ok N l N).len; have := HG.out.2.1; unfold ord; omega
    have hM2 : (N : Int) < 65 := by have := HG.out.2.1; omega
    replace hT := Lib.hid hT
    by_cases hlt : (ord N l).length < N
    · have hlt1 : ((ord N l).length : Int) < (N : Int) := by omega
      replace hlt := Lib.hid hlt
      go_enter Try.func82, Try.ntmps82
      go_wp2_with (go_at_call 94; ((with_reducible refine CM2.out.mono ?_); rintro e w1 ⟨rfl, HM⟩))
      obtain ⟨hb1, C, hweb⟩ := HM.out
      have HW := Lib.hid hweb
      have HB1 := Lib.hid hb1
      clear hb1 hweb HM
      go_wp2_with (go_at_call 95; ((with_reducible refine (CO.out _ C HW.out).mono ?_); rintro e w2 ⟨v, O, rfl, hown, hord⟩; obtain ⟨av, cv, rfl⟩ := own_slice hown; have HO := Lib.hid hown; have HD := Lib.hid hord; clear hown hord))
      go_ret3
      have HB2 : Below w.heap.size w w2 := HB1.out.trans (grw_below HD.out.grow (Nat.le_refl _) HB1.out.size)
      exact ⟨HB2, .inr (.inl ⟨HG.out, by rw [hT.out]; exact hlt.out, rfl⟩)⟩
    · have hlt1 : ¬ ((ord N l).length : Int) < (N : Int) := by omega
      replace hlt := Lib.hid hlt
      go_enter Try.func82, Try.ntmps82
      go_wp2_with (go_at_call 94; ((with_reducible refine CM2.out.mono ?_); rintro e w1 ⟨rfl, HM⟩))
      obtain ⟨hb1, C, hweb⟩ := HM.out
      have HW := Lib.hid hweb
      have HB1 := Lib.hid hb1
      clear hb1 hweb HM
      go_wp2_with (go_at_call 95; ((with_reducible refine (CO.out _ C HW.out).mono ?_); rintro e w2 ⟨v, O, rfl, hown, hord⟩; obtain ⟨av, cv, rfl⟩ := own_slice hown; have HO := Lib.hid hown; have HD := Lib.hid hord; clear hown hord))
      go_ret3
      have HB2 : Below w.heap.size w w2 := HB1.out.trans (grw_below HD.out.grow (Nat.le_refl _) HB1.out.size)
      exact ⟨HB2, .inr (.inr ⟨HG.out, by rw [hT.out]; exact hlt.out, _, _, _, rfl, by rw [hT.out]; exact own_base HO.out HB1.out.size, Web.back HW.out HD.out⟩)⟩
  · have CM2 : Hid (Calls Try.prog 94 #[.int .i64 n, .slice a l.length cap] w fun e w' => e = .returned (.pointer none) ∧ Hid (Below w.heap.size w w')) := CM.out.mono fun e w' ⟨h1, h2⟩ => by
      rcases h2 with ⟨h3, _⟩ | ⟨_, h3⟩
      · exact absurd h3 hg
      · exact ⟨h3, h1⟩
    have HG := Lib.hid hg
    clear hg CM
    go_enter Try.func82, Try.ntmps82
    go_wp2_with (go_at_call 94; ((with_reducible refine CM2.out.mono ?_); rintro e w1 ⟨rfl, HM⟩))
    go_ret3
    exact ⟨HM.out, .inl ⟨HG.out, rfl⟩⟩
end Gra
end Go.Proofs.Ytiabnjmblcogmaa
end
section
namespace Go.Proofs.Ytiabnjmblcogmaa
open Go.RowKit
namespace Gra
open In (Ints IsInts)
def rdTo (E : List (Int × Int)) (out : List Int) (k : Int) (i : Nat) : Bool := !(out.contains k) && (E.take i).all (fun e => e.1 != k || out.contains e.2)
theorem rdTo_succ (E : List (Int × Int)) (out : List Int) (k : Int) (i : Nat) (h : i < E.length) : rdTo E out k (i + 1) = (rdTo E out k i && ((E.getD i (0, 0)).1 != k || out.contains (E.getD i (0, 0)).2)) := by
  unfold rdTo
  rw [take_snoc E i h, List.all_append, Bool.and_assoc]
  congr 2
  simp
theorem rdTo_zero (E : List (Int × Int)) (out : List Int) (k : Int) : rdTo E out k 0 = !(out.contains k) := by unfold rdTo; simp
theorem rdTo_end (E : List (Int × Int)) (out : List Int) (k : Int) : rdTo E out k E.length = rdy E out k := by unfold rdTo rdy; rw [List.take_length]
theorem isPick_start (n : Nat) (E : List (Int × Int)) (out : List Int) : IsPick (n + 1) n E out 0 := .inl ⟨rfl, fun k h1 h2 => by omega⟩
theorem isPick_yes {k n : Nat} {E : List (Int × Int)} {out : List Int} (hk : k ≤ n) (hr : rdy E out (k : Int) = true) : IsPick k n E out (k : Int) :=
  .inr ⟨k, rfl, Nat.le_refl _, hk, hr, fun j h1 h2 => by omega⟩
theorem isPick_no {k n : Nat} {E : List (Int × Int)} {out : List Int} {v : Int} (h : IsPick (k + 1) n E out v) (hr : rdy E out (k : Int) = false) : IsPick k n E out v := by
  rcases h with ⟨rfl, h⟩ | ⟨p, rfl, h1, h2, h3, h4⟩
  · refine .inl ⟨rfl, fun j h1 h2 => ?_⟩
    by_cases e : j = k
    · subst e; exact hr
    · exact h j (by omega) h2
  · refine .inr ⟨p, rfl, by omega, h2, h3, fun j a b => ?_⟩
    by_cases e : j = k
    · subst e; exact hr
    · exact h4 j (by omega) b
theorem isPick_top {n : Nat} {E : List (Int × Int)} {out : List Int} {v : Int} (h : IsPick 1 n E out v) : v ≤ (n : Int) ∧ 0 ≤ v := by
  rcases h with ⟨rfl, _⟩ | ⟨p, rfl, h1, h2, _⟩ <;> omega
set_option maxRecDepth 100000 in
set_option maxHeartbeats 8000000 in
theorem refOrder_core (n : Int) (a : Option Addr) (cap : Nat) (l : List (Int × Int)) (w : World) (ha : Prs w a l) :
    Calls Try.prog 84 #[.int .i64 n, .slice a l.length cap] w (ListOut (ordRes n l) w) := by
  have CM := Lib.hid (may_any n a cap l w ha)
  have HA := Lib.hid ha
  clear ha
  by_cases hg : Good n l
  · rw [decide_eq_true hg] at CM
    obtain ⟨N, hN⟩ : ∃ N : Nat, n = (N : Int) := ⟨n.toNat, by have := hg.1; omega⟩
    subst hN
    have HG := Lib.hid hg
    have hN64 : (N : Int) < 65 := by have := hg.2.1; omega
    have hL : l.length ≤ 256 := hg.2.2.1
    have hL1 : (l.length : Int) < 257 := by omega
    obtain ⟨i0, hi, hz0, hz1, hz2⟩ := info_parts info3
    have HR : Hid (ordRes (N : Int) l = if (ord N l).length < N then ([], 9) else (ord N l, 0)) := by show _ = _; unfold ordRes; rw [if_pos HG.out]; simp
    clear hg
    go_enter Try.func84, Try.ntmps84
    go_wp2_with (go_at_call 96; ((with_reducible refine CM.out.mono ?_); rintro e w1 ⟨rfl, hB1⟩; have HB1 := Lib.hid hB1; clear hB1))
    go_loopg [6] N (fun gk v6 wr => ∃ (j : Nat), Hid (gk + j = N) ∧ Hid ((ordG N l j).length = j) ∧ Hid (wr.ownsRow w.heap.size 3 1 v6 (ordG N l j).length ((ordG N l j).map (Value.int .i64))) ∧ Hid (Below w.heap.size w wr))
    case atStart => exact ⟨0, by show _ = _; omega, rfl, World.ownsRow_nil _ _ _ _, HB1⟩
    case round =>
      obtain ⟨G0, rfl⟩ : ∃ G0 : Nat, G0 = gk := ⟨_, rfl⟩
      obtain ⟨j, hj, HJ, HO, HB⟩ := hrel
      obtain ⟨av, cv, ev⟩ := own_slice HO.out
      rw [ev] at HO ⊢
      clear ev
      obtain ⟨out, hout⟩ : ∃ o, Hid (ordG N l j = o) := ⟨_, rfl⟩
      rw [hout.out] at HO HJ ⊢
      have HI : Hid (Ints .i64 wr av out) := by
        rcases HO.out.2 with ⟨e, h0⟩ | ⟨g', cap, cur, hv, _⟩
        · intro i hi; omega
        · cases hv; exact (RowAt.of_own HO.out).ints .i64 _ rfl
      have hjN : out.length ≤ N := by have := hj.out; have := HJ.out; omega
      have hjL : (out.length : Int) < 65 := by omega
      by_cases hlt : out.length < N
      · have hlt1 : (out.length : Int) < (N : Int) := by omega
        replace hlt := Lib.hid hlt
        replace hjN := Lib.hid hjN
        go_wp2
        go_loop [7, 8] (fun v7 v8 => ∃ (k : Nat) (v : Int), k ≤ N ∧ v8 = .int .i64 (k : Int) ∧ v7 = .int .i64 v ∧ Hid (IsPick (k + 1) N l out v)) (fun _ v8 => (intOf v8).toNat)
        case atStart => exact ⟨N, 0, by omega, rfl, rfl, isPick_start _ _ _⟩
        case round =>
          obtain ⟨k, v, hk, rfl, rfl, HV⟩ := hrel
          by_cases hk1 : 1 ≤ k
          · obtain ⟨K, hK⟩ : ∃ K : Int, Hid ((k : Int) = K) := ⟨_, rfl⟩
            have hK1 : (1 : Int) ≤ K := by have := hK.out; omega
            have hK2 : K < 65 := by have := hK.out; omega
            have CI : Hid (∀ x, Calls _ _ _ _ _) := fun x => in_any av cv out (by omega) x wr HI.out
            have RZ := Lib.hid (rdTo_zero l out K)
            rw [hK.out]
            generalize hb0 : out.contains K = B0 at RZ
            replace hb0 := Lib.hid hb0
            go_wp2_with (go_at_call 97; ((with_reducible refine (CI.out _).mono ?_); rintro e w2 ⟨rfl, rfl⟩; rw [hb0.out]))
            go_loop [9, 10] (fun v9 v10 => ∃ (i : Nat) (R : Bool), i ≤ l.length ∧ v10 = .int .i64 (i : Int) ∧ v9 = .bool R ∧ Hid (R = rdTo l out K i)) (fun _ v10 => l.length - (intOf v10).toNat)
            case atStart => exact ⟨0, _, by omega, rfl, rfl, RZ.out.symm⟩
            case round =>
              obtain ⟨i, R, hi2, rfl, rfl, HRD⟩ := hrel
              by_cases hlti : i < l.length
              · obtain ⟨b, off, ea, hb, c0, c1⟩ := (Prs.below HA.out HB.out) i hlti
                rw [ea]
                replace ea := Lib.hid ea
                have hlti1 : (i : Int) < (l.length : Int) := by omega
                have hi0 : (0 : Int) ≤ (i : Int) := by omega
                have RS := Lib.hid (rdTo_succ l out K i hlti)
                rw [← HRD.out] at RS
                obtain ⟨p, hp⟩ : ∃ A, Hid ((l.getD i (0, 0)).1 = A) := ⟨_, rfl⟩
                obtain ⟨q, hq⟩ : ∃ A, Hid ((l.getD i (0, 0)).2 = A) := ⟨_, rfl⟩
                rw [hp.out] at c0 RS
                rw [hq.out] at c1 RS
                cases R with
                | false =>
                  have RS2 : Hid (rdTo l out K (i + 1) = false) := RS.out
                  go_wp2
                  go_round
                  case rel => exact ⟨i + 1, false, by omega, by go_num, rfl, RS2.out.symm⟩
                  case measure => simp [intOf]; omega
                | true =>
                  by_cases g : p = K
                  · have d1 : (p == K) = true := by simp [g]
                    have d2 : (p != K) = false := by simp [g]
                    generalize hb1 : out.contains q = B1 at RS
                    replace hb1 := Lib.hid hb1
                    have RS2 : Hid (rdTo l out K (i + 1) = B1) := by show _ = _; rw [RS.out, d2]; simp
                    clear g
                    go_wp2_with (go_at_call 97; ((with_reducible refine (CI.out _).mono ?_); rintro e w2 ⟨rfl, rfl⟩; rw [hb1.out]))
                    go_round
                    case rel => exact ⟨i + 1, B1, by omega, by go_num, by simp, RS2.out.symm⟩
                    case measure => simp [intOf]; omega
                  · have d1 : (p == K) = false := beq_eq_false_iff_ne.2 g
                    have d2 : (p != K) = true := by simp [g]
                    have RS2 : Hid (rdTo l out K (i + 1) = true) := by show _ = _; rw [RS.out, d2]; simp
                    clear g
                    go_wp2
                    go_round
                    case rel => exact ⟨i + 1, true, by omega, by go_num, rfl, RS2.out.symm⟩
                    case measure => simp [intOf]; omega
              · have hie : i = l.length := by omega
                have hge : ¬ (i : Int) < (l.length : Int) := by omega
                have hrd : R = rdy l out (k : Int) := by rw [HRD.out, hie, rdTo_end, hK.out]
                have hK3 : Hid (K - 1 = ((k - 1 : Nat) : Int)) := by have := hK.out; show _ = _; omega
                have HM : Hid (K.toNat = k ∧ 1 ≤ k) := ⟨by have := hK.out; omega, hk1⟩
                cases R with
                | false =>
                  have HV2 := Lib.hid (isPick_no HV.out hrd.symm)
                  clear hlti hie hrd
                  go_wp2
                  go_round
                  case rel => exact ⟨k - 1, v, by omega, by rw [hK3.out], rfl, by rw [show k - 1 + 1 = k by omega]; exact HV2.out⟩
                  case measure =>
                    rw [hK3.out]
                    have := HM.out
                    simp only [intOf]
                    omega
                | true =>
                  have HV2 : Hid (IsPick k N l out K) := by rw [← hK.out]; exact isPick_yes hk hrd.symm
                  clear hlti hie hrd
                  go_wp2
                  go_round
                  case rel => exact ⟨k - 1, K, by omega, by rw [hK3.out], rfl, by rw [show k - 1 + 1 = k by omega]; exact HV2.out⟩
                  case measure =>
                    rw [hK3.out]
                    have := HM.out
                    simp only [intOf]
                    omega
          · have hk0 : k = 0 := by omega
            subst hk0
            have hpv : v = pick N l out := pick_uniq HV.out (pick_is N l out)
            have hvb := isPick_top HV.out
            by_cases hv0 : v = 0
            · have d0 : (v == 0) = true := by simp [hv0]
              have HS : Hid ((ord N l).length < N) := by
                have e := ord_stop (n := N) (E := l) (j := j) (by rw [hout.out]; exact HJ.out) (by rw [hout.out, ← hpv]; exact hv0)
                show _ < _
                rw [e, hout.out]; exact hlt.out
              clear hv0 hpv hvb hk1
              go_wp2
              go_ret2
              rw [if_pos HS.out] at HR
              rw [HR.out]
              exact ⟨_, _, rfl, fun i hi => absurd hi (Nat.not_lt_zero i), HB.out⟩
            · have d0 : (v == 0) = false := beq_eq_false_iff_ne.2 hv0
              have HGo : Hid (ordG N l (j + 1) = out ++ [v]) := by
                have := ordG_go (n := N) (E := l) (j := j) (by rw [hout.out, ← hpv]; exact hv0)
                rw [hout.out, ← hpv] at this
                exact this
              have HJ2 : Hid (j + 1 ≤ N) := by have := hlt.out; have := HJ.out; show _ ≤ _; omega
              have hv1 : 0 ≤ v := hvb.2
              have hv2 : v < 65 := by omega
              have HJL : Hid (out.length ≤ 64) := by show _ ≤ _; omega
              clear hv0 hpv hvb hk1
              go_wp2_with (at_builtin; go_must (refine Own.list_one rfl (.tmp 57) (.tmp 59) 29 rfl w.heap.size 3 i0 _ 8 Try.underlying29 hi hz0 hz1 hz2 rfl _ _ _ rfl _ _ _ rfl (HO.out.alloc _) (Own.cell_new _ _ _) rfl ?h1 ?h2 ?h3 ?_; (case h1 => have := HJL.out; unfold maxLen; omega); (case h2 => have := HJL.out; omega); (case h3 => have := HB.out.size; simp; omega); intro v3' w3 hown3 hgrow3; have HB3 := Lib.hid ((HB.out.alloc HB.out.size _).grown hgrow3 (by have := HB.out.size; simp; omega) (Own.own_block HO.out (Nat.le_refl _))); have HO3 := Lib.hid hown3; clear hown3 hgrow3))
              go_roundg (G0 - 1)
              case measure => have := hj.out; have := HJ2.out; omega
              case rel => exact ⟨j + 1, (by have := hj.out; have := HJ2.out; show _ = _; omega), (by show _ = _; rw [HGo.out, List.length_append, HJ.out]; rfl), by rw [HGo.out, List.length_append, List.map_append]; exact HO3, HB3⟩
      · have hge : ¬ (out.length : Int) < (N : Int) := by omega
        have HS : Hid (¬ (ord N l).length < N ∧ ord N l = out) := by
          have e := ord_full (n := N) (E := l) (j := j) (by rw [hout.out]; exact HJ.out) (by have := HJ.out; omega)
          rw [hout.out] at e
          exact ⟨by rw [e]; exact hlt, e⟩
        replace hlt := Lib.hid hlt
        clear hjN
        go_wp2
        go_ret2
        rw [if_neg HS.out.1] at HR
        rw [HR.out, HS.out.2]
        exact ⟨_, _, rfl, HI.out, HB.out⟩
  · rw [decide_eq_false hg] at CM
    have HR : Hid (ordRes n l = ([], 1)) := by show _ = _; unfold ordRes; rw [if_neg hg]
    clear hg
    go_enter Try.func84, Try.ntmps84
    go_wp2_with (go_at_call 96; ((with_reducible refine CM.out.mono ?_); rintro e w1 ⟨rfl, hB1⟩; have HB1 := Lib.hid hB1; clear hB1))
    go_ret2
    rw [HR.out]
    exact ⟨_, _, rfl, fun i hi => absurd hi (Nat.not_lt_zero i), HB1.out⟩
end Gra
end Go.Proofs.Ytiabnjmblcogmaa
end
