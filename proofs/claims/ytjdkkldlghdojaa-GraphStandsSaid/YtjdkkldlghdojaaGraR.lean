/- The reference's small words: in, may; the order that both tell. -/
import Derived.Test.YtjdkkldlghdojaaGraO2
import Derived.Test.YtjdkkldlghdojaaGraW2
import Derived.Deep.QuietTactic
namespace Go.Proofs.Ytjdkkldlghdojaa
open Go.RowKit
namespace Gra
open In (Ints IsInts)
def inTo (l : List Int) (x : Int) (k : Nat) : Bool := (l.take k).contains x
theorem contains_no (l : List Int) (x : Int) (h : ∀ j, j < l.length → l.getD j 0 ≠ x) : l.contains x = false := by
  cases hc : l.contains x with
  | false => rfl
  | true =>
    have hm : x ∈ l := by simpa using hc
    obtain ⟨i, hi, e⟩ := List.getElem_of_mem hm
    exact absurd (by rw [List.getD_eq_getElem?_getD, List.getElem?_eq_getElem hi, Option.getD_some]; exact e) (h i hi)
theorem contains_yes (l : List Int) (x : Int) (j : Nat) (hj : j < l.length) (h : l.getD j 0 = x) : l.contains x = true := by
  have : x ∈ l := by rw [← h, List.getD_eq_getElem?_getD, List.getElem?_eq_getElem hj]; exact List.getElem_mem _
  simpa using this
theorem in_any (a : Option Addr) (cap : Nat) (l : List Int) (hl : l.length ≤ 4096) (x : Int) (w : World) (ha : Ints .i64 w a l) :
    Calls Try.prog 22 #[.slice a l.length cap, .int .i64 x] w fun e w' => e = .returned (.bool (l.contains x)) ∧ w = w' := by
  have HA := Lib.hid ha
  clear ha
  obtain ⟨RS, hRS⟩ : ∃ A : Bool, Hid (l.contains x = A) := ⟨_, rfl⟩
  rw [hRS.out]
  go_enter Try.func22, Try.ntmps22
  go_wp2
  go_loop [5] (fun i => ∃ k : Nat, k ≤ l.length ∧ i = .int .i64 k ∧ Hid (∀ j, j < k → l.getD j 0 ≠ x)) (fun i => l.length - (intOf i).toNat)
  case atStart => exact ⟨0, by omega, rfl, fun j hj => by omega⟩
  case round =>
    obtain ⟨k, hk, rfl, HK⟩ := hrel
    by_cases hlt : k < l.length
    · obtain ⟨b, off, rfl, hbl, hcc⟩ := HA.out k hlt
      have hlt1 : (k : Int) < (l.length : Int) := by omega
      have HY : Hid (l.getD k 0 = x → l.contains x = true) := contains_yes l x k hlt
      have HN : Hid (l.getD k 0 ≠ x → ∀ j, j < k + 1 → l.getD j 0 ≠ x) := fun h j hj => by
        by_cases e : j = k
        · subst e; exact h
        · exact HK.out j (by omega)
      generalize l.getD k 0 = T at *
      by_cases g : T = x
      · have d1 : (T == x) = true := by simp [g]
        have HR := Lib.hid (HY.out g)
        clear g
        go_wp2
        go_ret
        exact ⟨by rw [show RS = _ from hRS.out.symm.trans HR.out]; rfl, rfl⟩
      · have d1 : (T == x) = false := beq_eq_false_iff_ne.2 g
        have HR := Lib.hid (HN.out g)
        clear g
        go_wp2
        go_round
        case rel => exact ⟨k + 1, by omega, by go_num, HR⟩
        case measure => simp [intOf]; omega
    · have hge : ¬ (k : Int) < (l.length : Int) := by omega
      have HR := Lib.hid (contains_no l x (fun j hj => HK.out j (by omega)))
      clear hlt
      go_wp2
      go_ret
      exact ⟨by rw [show RS = _ from hRS.out.symm.trans HR.out]; rfl, rfl⟩
instance (n : Int) (l : List (Int × Int)) : Decidable (Good n l) := by unfold Good; exact inferInstance
theorem inW_dec {x n : Int} : (inW x n = false) ↔ (x < 1 ∨ n < x) := by
  constructor
  · intro h; have := inW_no h; omega
  · intro h
    cases e : inW x n with
    | false => rfl
    | true => have := inW_yes e; omega
set_option maxRecDepth 100000 in
set_option maxHeartbeats 2000000 in
theorem may_core (n : Int) (a : Option Addr) (cap : Nat) (l : List (Int × Int)) (hn0 : 0 ≤ n) (hn : n ≤ 64) (hl : l.length ≤ 256) (w : World) (ha : Prs w a l) :
    Calls Try.prog 21 #[.int .i64 n, .slice a l.length cap] w fun e w' => e = .returned (.bool (decide (Good n l))) ∧ Below w.heap.size w w' := by
  have HA := Lib.hid ha
  have d1 : decide (n < 0) = false := decide_eq_false (by omega)
  have d2 : decide (64 < n) = false := decide_eq_false (by omega)
  have d3 : decide ((256 : Int) < (l.length : Int)) = false := decide_eq_false (by omega)
  have HN : Hid (0 ≤ n ∧ n ≤ 64 ∧ l.length ≤ 256) := ⟨hn0, hn, hl⟩
  clear ha
  go_enter Try.func21, Try.ntmps21
  go_wp2
  go_loopw [5] (fun v5 wr => ∃ k : Nat, k ≤ l.length ∧ v5 = .int .i64 k ∧ Hid (∀ j, j < k → inW (l.getD j (0, 0)).1 n = true ∧ inW (l.getD j (0, 0)).2 n = true) ∧ Hid (Below w.heap.size w wr)) (fun v5 _ => l.length - (intOf v5).toNat)
  case atStart => exact ⟨0, by omega, rfl, fun j hj => by omega, Below.refl _ _⟩
  case round =>
    obtain ⟨k, hk, rfl, HV, HB⟩ := hrel
    by_cases hlt : k < l.length
    · obtain ⟨b, off, ea, hb, c0, c1⟩ := (Prs.below HA.out HB.out) k hlt
      rw [ea]
      replace ea := Lib.hid ea
      have hlt1 : (k : Int) < (l.length : Int) := by omega
      have hk0 : (0 : Int) ≤ (k : Int) := by omega
      have HNO : Hid (¬ (inW (l.getD k (0, 0)).1 n = true ∧ inW (l.getD k (0, 0)).2 n = true) → decide (Good n l) = false) := fun h => decide_eq_false fun hg => h (hg.2.2.2 k hlt)
      have HYE : Hid ((inW (l.getD k (0, 0)).1 n = true ∧ inW (l.getD k (0, 0)).2 n = true) → ∀ j, j < k + 1 → inW (l.getD j (0, 0)).1 n = true ∧ inW (l.getD j (0, 0)).2 n = true) := fun h j hj => by
        by_cases e : j = k
        · subst e; exact h
        · exact HV.out j (by omega)
      obtain ⟨p, hp⟩ : ∃ A, Hid ((l.getD k (0, 0)).1 = A) := ⟨_, rfl⟩
      obtain ⟨q, hq⟩ : ∃ A, Hid ((l.getD k (0, 0)).2 = A) := ⟨_, rfl⟩
      rw [hp.out] at c0 HNO HYE
      rw [hq.out] at c1 HNO HYE
      by_cases g1 : p < 1
      · have e1 : decide (p < 1) = true := decide_eq_true g1
        have HNF := Lib.hid (HNO.out (fun h => by have := inW_yes h.1; omega))
        go_wp2
        go_ret
        exact ⟨by rw [HNF.out]; rfl, HB.out⟩
      · have e1 : decide (p < 1) = false := decide_eq_false g1
        by_cases g2 : n < p
        · have e2 : decide (n < p) = true := decide_eq_true g2
          have HNF := Lib.hid (HNO.out (fun h => by have := inW_yes h.1; omega))
          clear g1 g2
          go_wp2
          go_ret
          exact ⟨by rw [HNF.out]; rfl, HB.out⟩
        · have e2 : decide (n < p) = false := decide_eq_false g2
          by_cases g3 : q < 1
          · have e3 : decide (q < 1) = true := decide_eq_true g3
            have HNF := Lib.hid (HNO.out (fun h => by have := inW_yes h.2; omega))
            clear g1 g2 g3
            go_wp2
            go_ret
            exact ⟨by rw [HNF.out]; rfl, HB.out⟩
          · have e3 : decide (q < 1) = false := decide_eq_false g3
            by_cases g4 : n < q
            · have e4 : decide (n < q) = true := decide_eq_true g4
              have HNF := Lib.hid (HNO.out (fun h => by have := inW_yes h.2; omega))
              clear g1 g2 g3 g4
              go_wp2
              go_ret
              exact ⟨by rw [HNF.out]; rfl, HB.out⟩
            · have e4 : decide (n < q) = false := decide_eq_false g4
              have HYF := Lib.hid (HYE.out (by
                constructor
                · cases e : inW p n with
                  | true => rfl
                  | false => rw [inW_dec] at e; omega
                · cases e : inW q n with
                  | true => rfl
                  | false => rw [inW_dec] at e; omega))
              clear g1 g2 g3 g4
              go_wp2
              go_roundw
              case rel => exact ⟨k + 1, by omega, by go_num, HYF, HB⟩
              case measure => simp [intOf]; omega
    · have hge : ¬ (k : Int) < (l.length : Int) := by omega
      have HNF : Hid (decide (Good n l) = true) := decide_eq_true ⟨HN.out.1, HN.out.2.1, HN.out.2.2, fun j hj => HV.out j (by omega)⟩
      clear hlt
      go_wp2
      go_ret
      exact ⟨by rw [HNF.out]; rfl, HB.out⟩
set_option maxRecDepth 100000 in
theorem may_any (n : Int) (a : Option Addr) (cap : Nat) (l : List (Int × Int)) (w : World) (ha : Prs w a l) :
    Calls Try.prog 21 #[.int .i64 n, .slice a l.length cap] w fun e w' => e = .returned (.bool (decide (Good n l))) ∧ Below w.heap.size w w' := by
  by_cases h1 : n < 0
  · have d1 : decide (n < 0) = true := decide_eq_true h1
    have HE : Hid (decide (Good n l) = false) := decide_eq_false fun h => by have := h.1; omega
    clear ha h1
    go_enter Try.func21, Try.ntmps21
    go_wp2
    go_ret
    exact ⟨by rw [HE.out]; rfl, Below.refl _ _⟩
  · by_cases h2 : 64 < n
    · have d1 : decide (n < 0) = false := decide_eq_false h1
      have d2 : decide (64 < n) = true := decide_eq_true h2
      have HE : Hid (decide (Good n l) = false) := decide_eq_false fun h => by have := h.2.1; omega
      clear ha h1
      go_enter Try.func21, Try.ntmps21
      go_wp2
      go_ret
      exact ⟨by rw [HE.out]; rfl, Below.refl _ _⟩
    · by_cases h3 : (256 : Int) < (l.length : Int)
      · have d1 : decide (n < 0) = false := decide_eq_false h1
        have d2 : decide (64 < n) = false := decide_eq_false h2
        have d3 : decide ((256 : Int) < (l.length : Int)) = true := decide_eq_true h3
        have HE : Hid (decide (Good n l) = false) := decide_eq_false fun h => by have := h.2.2.1; omega
        clear ha h1 h2
        go_enter Try.func21, Try.ntmps21
        go_wp2
        go_ret
        exact ⟨by rw [HE.out]; rfl, Below.refl _ _⟩
      · exact may_core n a cap l (by omega) (by omega) (by omega) w ha
theorem Good.pairs {n : Int} {l : List (Int × Int)} (h : Good n l) : ∀ e ∈ l, (1 ≤ e.1 ∧ e.1 ≤ ((n.toNat : Nat) : Int)) ∧ (1 ≤ e.2 ∧ e.2 ≤ ((n.toNat : Nat) : Int)) := by
  intro e he
  obtain ⟨i, hi, rfl⟩ := List.getElem_of_mem he
  have := h.2.2.2 i hi
  rw [List.getD_eq_getElem?_getD, List.getElem?_eq_getElem hi, Option.getD_some] at this
  have h1 := inW_yes this.1
  have h2 := inW_yes this.2
  have := h.1
  omega
/-- What Order answers: the order, and why there is none. -/
def ordRes (n : Int) (l : List (Int × Int)) : List Int × Int :=
  if Good n l then (if (ord n.toNat l).length < n.toNat then ([], 9) else (ord n.toNat l, 0)) else ([], 1)
def ListOut (r : List Int × Int) (w : World) (e : Ending) (w' : World) : Prop :=
  ∃ a cap, e = .returned (.tuple #[.slice a r.1.length cap, .int .i64 r.2]) ∧ Ints .i64 w' a r.1 ∧ Below w.heap.size w w'
def OrderedOut (n : Int) (l : List (Int × Int)) (w : World) (e : Ending) (w' : World) : Prop :=
  Below w.heap.size w w' ∧ ((¬ Good n l ∧ e = .returned (.tuple #[.pointer none, .slice none 0 0, .int .i64 1]))
    ∨ (Good n l ∧ (ord n.toNat l).length < n.toNat ∧ e = .returned (.tuple #[.pointer none, .slice none 0 0, .int .i64 9]))
    ∨ (Good n l ∧ ¬ (ord n.toNat l).length < n.toNat ∧ ∃ v O C, e = .returned (.tuple #[.pointer (some ⟨w.heap.size, 0, none⟩), v, .int .i64 0]) ∧ w'.ownsRow w.heap.size 3 1 v (ord n.toNat l).length ((ord n.toNat l).map (Value.int .i64)) ∧ Web w' w.heap.size w.heap.size n (RF l) O C))
theorem own_base {w : World} {base base' : Nat} {e : TypeId} {size n : Nat} {v : Value} {xs : List Value} (h : w.ownsRow base e size v n xs) (hb : base' ≤ base) : w.ownsRow base' e size v n xs := by
  refine ⟨h.1, ?_⟩
  rcases h.2 with h0 | ⟨g', cap, cur, hv, h1, r⟩
  · exact .inl h0
  · exact .inr ⟨g', cap, cur, hv, Nat.le_trans hb h1, r⟩
theorem grw_below {W w' : World} {g B : Nat} (h : W.grownBy w' (some g)) (hB : B ≤ g) (hBW : B ≤ W.heap.size) : Below B W w' :=
  ⟨h.os, h.tape, h.output, h.size, fun k hk => h.block k (by omega) (fun e => by cases e; omega)⟩
theorem OF_cnt (l : List (Int × Int)) (x : Nat) : OF l x = cnt l [] (x : Int) := by
  unfold OF; rw [cnt_nil]; rfl
set_option maxRecDepth 100000 in
set_option maxHeartbeats 2000000 in
theorem ordered_any (n : Int) (a : Option Addr) (cap : Nat) (l : List (Int × Int)) (w : World) (ha : Prs w a l) :
    Calls Try.prog 19 #[.int .i64 n, .slice a l.length cap] w (OrderedOut n l w) := by
  have CM := Lib.hid (made_any n a cap l w ha)
  clear ha
  by_cases hg : Good n l
  · have CM2 : Hid (Calls Try.prog 17 #[.int .i64 n, .slice a l.length cap] w fun e w' => e = .returned (.pointer (some ⟨w.heap.size, 0, none⟩)) ∧ Hid (Below w.heap.size w w' ∧ ∃ C, Web w' w.heap.size w.heap.size n (RF l) (OF l) C)) := CM.out.mono fun e w' ⟨h1, h2⟩ => by
      rcases h2 with ⟨_, e1, h3⟩ | ⟨h3, _⟩
      · exact ⟨e1, h1, h3⟩
      · exact absurd hg h3
    have HG := Lib.hid hg
    obtain ⟨N, hN⟩ : ∃ N : Nat, n = (N : Int) := ⟨n.toNat, by have := hg.1; omega⟩
    subst hN
    have CO : Hid (∀ (w' : World) (C : Nat → Value), Web w' w.heap.size w.heap.size (N : Int) (RF l) (OF l) C → Calls Try.prog 24 #[.pointer (some ⟨w.heap.size, 0, none⟩)] w' (OrderOut w' w.heap.size N l C)) := fun w' C h => order_any w.heap.size N l C w' (by have := HG.out.2.1; omega) HG.out.2.2.1 (by have := HG.out.pairs; simpa using this) h.ordC (Web.start h (fun x _ => OF_cnt l x))
    clear hg CM
    have hT : ((N : Int)).toNat = N := by simp
    have hM1 : ((ord N l).length : Int) < 65 := by have := (ordG_ok N l N).len; have := HG.out.2.1; unfold ord; omega
    have hM2 : (N : Int) < 65 := by have := HG.out.2.1; omega
    replace hT := Lib.hid hT
    by_cases hlt : (ord N l).length < N
    · have hlt1 : ((ord N l).length : Int) < (N : Int) := by omega
      replace hlt := Lib.hid hlt
      go_enter Try.func19, Try.ntmps19
      go_wp2_with (go_at_call 17; ((with_reducible refine CM2.out.mono ?_); rintro e w1 ⟨rfl, HM⟩))
      obtain ⟨hb1, C, hweb⟩ := HM.out
      have HW := Lib.hid hweb
      have HB1 := Lib.hid hb1
      clear hb1 hweb HM
      go_wp2_with (go_at_call 24; ((with_reducible refine (CO.out _ C HW.out).mono ?_); rintro e w2 ⟨v, O, rfl, hown, hord⟩; obtain ⟨av, cv, rfl⟩ := own_slice hown; have HO := Lib.hid hown; have HD := Lib.hid hord; clear hown hord))
      go_ret3
      have HB2 : Below w.heap.size w w2 := HB1.out.trans (grw_below HD.out.grow (Nat.le_refl _) HB1.out.size)
      exact ⟨HB2, .inr (.inl ⟨HG.out, by rw [hT.out]; exact hlt.out, rfl⟩)⟩
    · have hlt1 : ¬ ((ord N l).length : Int) < (N : Int) := by omega
      replace hlt := Lib.hid hlt
      go_enter Try.func19, Try.ntmps19
      go_wp2_with (go_at_call 17; ((with_reducible refine CM2.out.mono ?_); rintro e w1 ⟨rfl, HM⟩))
      obtain ⟨hb1, C, hweb⟩ := HM.out
      have HW := Lib.hid hweb
      have HB1 := Lib.hid hb1
      clear hb1 hweb HM
      go_wp2_with (go_at_call 24; ((with_reducible refine (CO.out _ C HW.out).mono ?_); rintro e w2 ⟨v, O, rfl, hown, hord⟩; obtain ⟨av, cv, rfl⟩ := own_slice hown; have HO := Lib.hid hown; have HD := Lib.hid hord; clear hown hord))
      go_ret3
      have HB2 : Below w.heap.size w w2 := HB1.out.trans (grw_below HD.out.grow (Nat.le_refl _) HB1.out.size)
      exact ⟨HB2, .inr (.inr ⟨HG.out, by rw [hT.out]; exact hlt.out, _, _, _, rfl, by rw [hT.out]; exact own_base HO.out HB1.out.size, Web.back HW.out HD.out⟩)⟩
  · have CM2 : Hid (Calls Try.prog 17 #[.int .i64 n, .slice a l.length cap] w fun e w' => e = .returned (.pointer none) ∧ Hid (Below w.heap.size w w')) := CM.out.mono fun e w' ⟨h1, h2⟩ => by
      rcases h2 with ⟨h3, _⟩ | ⟨_, h3⟩
      · exact absurd h3 hg
      · exact ⟨h3, h1⟩
    have HG := Lib.hid hg
    clear hg CM
    go_enter Try.func19, Try.ntmps19
    go_wp2_with (go_at_call 17; ((with_reducible refine CM2.out.mono ?_); rintro e w1 ⟨rfl, HM⟩))
    go_ret3
    exact ⟨HM.out, .inl ⟨HG.out, rfl⟩⟩
set_option maxRecDepth 100000 in
theorem Order_any (n : Int) (a : Option Addr) (cap : Nat) (l : List (Int × Int)) (w : World) (ha : Prs w a l) :
    Calls Try.prog 10 #[.int .i64 n, .slice a l.length cap] w (ListOut (ordRes n l) w) := by
  have CM := Lib.hid (ordered_any n a cap l w ha)
  have CM2 : Hid (Calls Try.prog 19 #[.int .i64 n, .slice a l.length cap] w fun e w' => ∃ p b c, e = .returned (.tuple #[.pointer p, .slice b (ordRes n l).1.length c, .int .i64 (ordRes n l).2]) ∧ Hid (Ints .i64 w' b (ordRes n l).1 ∧ Below w.heap.size w w')) := CM.out.mono fun e w' ⟨h1, h2⟩ => by
    rcases h2 with ⟨h3, e1⟩ | ⟨h3, h4, e1⟩ | ⟨h3, h4, v, O, C, e1, h5, _⟩
    · rw [show ordRes n l = ([], 1) by unfold ordRes; rw [if_neg h3]]
      exact ⟨_, _, _, e1, fun i hi => absurd hi (Nat.not_lt_zero i), h1⟩
    · rw [show ordRes n l = ([], 9) by unfold ordRes; rw [if_pos h3, if_pos h4]]
      exact ⟨_, _, _, e1, fun i hi => absurd hi (Nat.not_lt_zero i), h1⟩
    · rw [show ordRes n l = (ord n.toNat l, 0) by unfold ordRes; rw [if_pos h3, if_neg h4]]
      rcases h5.2 with ⟨ev, h0⟩ | ⟨g', c', cur, hv, _⟩
      · have hl : ord n.toNat l = [] := List.length_eq_zero_iff.1 h0
        rw [ev] at e1
        rw [hl]
        exact ⟨_, _, _, e1, fun i hi => absurd hi (Nat.not_lt_zero i), h1⟩
      · rw [hv] at e1 h5
        exact ⟨_, _, _, e1, (RowAt.of_own h5).ints .i64 _ rfl, h1⟩
  clear CM ha
  obtain ⟨r, hr⟩ : ∃ r, Hid (ordRes n l = r) := ⟨_, rfl⟩
  rw [hr.out] at CM2 ⊢
  go_enter Try.func10, Try.ntmps10
  go_wp2_with (go_at_call 19; ((with_reducible refine CM2.out.mono ?_); rintro e w1 ⟨p, b, c, rfl, HM⟩))
  go_ret2
  exact ⟨_, _, rfl, HM.out.1, HM.out.2⟩
end Gra
end Go.Proofs.Ytjdkkldlghdojaa
