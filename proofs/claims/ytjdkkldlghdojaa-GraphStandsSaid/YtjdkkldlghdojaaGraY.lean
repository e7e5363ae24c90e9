/- How many ways lead: plain words; sums that do not go round. -/
import Derived.Test.YtjdkkldlghdojaaGraB3
namespace Go.Proofs.Ytjdkkldlghdojaa
open Go.RowKit
namespace Gra
open In (Ints IsInts)
def MX : Int := 9223372036854775807
/-- The sum of the ways of the first j needs. -/
def smW (T : Int → Int) (ys : List Int) : Nat → Int
  | 0 => 0
  | j + 1 => smW T ys j + T (ys.getD j 0)
/-- One node's ways. -/
def wy1 (tz : Int) (E : List (Int × Int)) (T : Int → Int) (x : Int) : Int → Int := fun i => if i = x then (if x = tz then 1 else smW T (ndsF E x) (ndsF E x).length) else T i
/-- The ways, when the first k nodes of an order are told. -/
def wyT (tz : Int) (E : List (Int × Int)) (xs : List Int) : Nat → Int → Int
  | 0 => fun i => if i = tz then 1 else 0
  | k + 1 => wy1 tz E (wyT tz E xs k) (xs.getD k 0)
theorem smW_nn {T : Int → Int} (h : ∀ i, 0 ≤ T i) (ys : List Int) (j : Nat) : 0 ≤ smW T ys j := by
  induction j with
  | zero => exact Int.le_refl 0
  | succ j ih => rw [smW]; have := h (ys.getD j 0); omega
theorem smW_mono {T : Int → Int} (h : ∀ i, 0 ≤ T i) (ys : List Int) {i j : Nat} (hij : i ≤ j) : smW T ys i ≤ smW T ys j := by
  induction j with
  | zero => have : i = 0 := by omega
            subst this; exact Int.le_refl _
  | succ j ih =>
    by_cases e : i = j + 1
    · subst e; exact Int.le_refl _
    · rw [smW]; have := h (ys.getD j 0); have := ih (by omega); omega
theorem smW_part {T : Int → Int} (h : ∀ i, 0 ≤ T i) (ys : List Int) {i j : Nat} (hij : i < j) : T (ys.getD i 0) ≤ smW T ys j := by
  have h1 := smW_mono h ys (show i + 1 ≤ j by omega)
  rw [smW] at h1
  have := smW_nn h ys i
  omega
theorem smW_congr {T T' : Int → Int} (ys : List Int) (j : Nat) (h : ∀ i, i < j → T (ys.getD i 0) = T' (ys.getD i 0)) : smW T ys j = smW T' ys j := by
  induction j with
  | zero => rfl
  | succ j ih => rw [smW, smW, ih fun i hi => h i (by omega), h j (by omega)]
theorem wyT_nn (tz : Int) (E : List (Int × Int)) (xs : List Int) (k : Nat) : ∀ i, 0 ≤ wyT tz E xs k i := by
  induction k with
  | zero => intro i; unfold wyT; split <;> omega
  | succ k ih =>
    intro i
    show 0 ≤ wy1 tz E (wyT tz E xs k) (xs.getD k 0) i
    unfold wy1
    split
    · split
      · omega
      · exact smW_nn ih _ _
    · exact ih i
theorem wyT_to (tz : Int) (E : List (Int × Int)) (xs : List Int) (k : Nat) : wyT tz E xs k tz = 1 := by
  induction k with
  | zero => unfold wyT; rw [if_pos rfl]
  | succ k ih =>
    show wy1 tz E (wyT tz E xs k) (xs.getD k 0) tz = 1
    unfold wy1
    split
    · rename_i h; rw [if_pos h.symm]
    · exact ih
/-- What Ways answers. -/
def waysV (n : Nat) (E : List (Int × Int)) (f tz : Int) : Int := wyT tz E (ord n E) (ord n E).length f
def waysRes (n : Int) (l : List (Int × Int)) (f tz : Int) : Int × Int :=
  if Good n l ∧ inW f n = true ∧ inW tz n = true then (if (ord n.toNat l).length < n.toNat then (0, 9) else if waysV n.toNat l f tz ≤ MX then (waysV n.toNat l f tz, 0) else (0, 5)) else (0, 1)
/-- Numbers that stand for ways: right where not over. -/
structure Tells (T : Int → Int) (W : Nat → Int) (O : Nat → Bool) (i : Nat) : Prop where
  over : O i = true ↔ MX < T (i : Int)
  val : O i = false → W i = T (i : Int)
  nn : 0 ≤ W i
  le : W i ≤ MX
def sumL (l : List Int) : Int := l.sum
theorem sum_take (l : List Int) (k : Nat) (h : k < l.length) : (l.take (k + 1)).sum = (l.take k).sum + l.getD k 0 := by
  rw [take_snocI l k h, List.sum_append]; simp
theorem sum_nn {l : List Int} (h : ∀ x ∈ l, 0 ≤ x) : 0 ≤ l.sum := by
  induction l with
  | nil => simp
  | cons a l ih =>
    rw [List.sum_cons]
    have := h a List.mem_cons_self
    have := ih fun x hx => h x (List.mem_cons_of_mem _ hx)
    omega
theorem sum_take_le {l : List Int} (h : ∀ x ∈ l, 0 ≤ x) (k : Nat) : (l.take k).sum ≤ l.sum := by
  have e : l.sum = (l.take k).sum + (l.drop k).sum := by rw [← List.sum_append, List.take_append_drop]
  have := sum_nn (l := l.drop k) fun x hx => h x (List.mem_of_mem_drop hx)
  omega
set_option maxHeartbeats 1000000 in
theorem add_nn (a b : Int) (ha : 0 ≤ a) (hb : 0 ≤ b) (ha2 : a ≤ MX) (hb2 : b ≤ MX) (w : World) :
    Calls Try.prog 25 #[.int .i64 a, .int .i64 b] w fun e w' => e = .returned (.tuple #[.int .i64 (if a + b ≤ MX then a + b else 0), .int .i64 (if a + b ≤ MX then 0 else 5)]) ∧ w = w' := by
  obtain ⟨s, hs⟩ : ∃ s : Int, wrap64 (a + b) = s := ⟨_, rfl⟩
  have da : decide (0 ≤ a) = true := decide_eq_true ha
  have db : decide (0 ≤ b) = true := decide_eq_true hb
  unfold MX at *
  by_cases h : a + b ≤ 9223372036854775807
  · rw [if_pos h, if_pos h]
    have hs2 : s = a + b := by rw [← hs]; unfold wrap64; omega
    have ds : decide (0 ≤ s) = true := decide_eq_true (by omega)
    rw [← hs2]
    have hws : wrap64 s = s := by rw [hs2]; exact hs.trans hs2
    clear h hs2 ha hb ha2 hb2
    go_enter Try.func25, Try.ntmps25
    go_wp2
    go_ret2
    exact ⟨by first | rfl | exact congrArg (fun x => Ending.returned (.tuple #[.int .i64 x, .int .i64 0])) hs, rfl⟩
  · rw [if_neg h, if_neg h]
    have hs2 : s < 0 := by rw [← hs]; unfold wrap64; omega
    have ds : decide (0 ≤ s) = false := decide_eq_false (by omega)
    clear h hs2 ha hb ha2 hb2
    go_enter Try.func25, Try.ntmps25
    go_wp2
    go_ret2
    exact ⟨rfl, rfl⟩
set_option maxHeartbeats 1000000 in
theorem sum_any (a : Option Addr) (cap : Nat) (l : List Int) (hl : l.length ≤ 4096) (w : World) (ha : Ints .i64 w a l) (h0 : ∀ x ∈ l, 0 ≤ x) (h1 : ∀ x ∈ l, x ≤ MX) :
    Calls Try.prog 20 #[.slice a l.length cap] w fun e w' => e = .returned (.tuple #[.int .i64 (if l.sum ≤ MX then l.sum else 0), .int .i64 (if l.sum ≤ MX then 0 else 5)]) ∧ w = w' := by
  have HA := Lib.hid ha
  have H0 := Lib.hid h0
  have H1 := Lib.hid h1
  clear ha h0 h1
  obtain ⟨RV, hRV⟩ : ∃ RV, Hid ((if l.sum ≤ MX then l.sum else 0) = RV) := ⟨_, rfl⟩
  obtain ⟨RE, hRE⟩ : ∃ RE, Hid ((if l.sum ≤ MX then (0 : Int) else 5) = RE) := ⟨_, rfl⟩
  rw [hRV.out, hRE.out]
  go_enter Try.func20, Try.ntmps20
  go_wp2
  go_loop [4, 11] (fun n i => ∃ (k : Nat) (s : Int), k ≤ l.length ∧ i = .int .i64 k ∧ n = .int .i64 s ∧ Hid (s = (l.take k).sum ∧ s ≤ MX)) (fun _ i => l.length - (intOf i).toNat)
  case atStart => exact ⟨0, 0, by omega, rfl, rfl, ⟨rfl, by decide⟩⟩
  case round =>
    obtain ⟨k, s, hk, rfl, rfl, HP⟩ := hrel
    by_cases hlt : k < l.length
    · obtain ⟨b, off, rfl, hb, hc⟩ := HA.out k hlt
      have hm : l.getD k 0 ∈ l := by rw [List.getD_eq_getElem?_getD, List.getElem?_eq_getElem hlt]; exact List.getElem_mem hlt
      have hx0 := H0.out _ hm
      have hx1 := H1.out _ hm
      have hs0 : 0 ≤ s := by rw [HP.out.1]; exact sum_nn fun x hx => H0.out x (List.mem_of_mem_take hx)
      have hst := sum_take l k hlt
      have hle := sum_take_le H0.out (k + 1)
      rw [hst, ← HP.out.1] at hle
      rw [← HP.out.1] at hst
      have hlt1 : (k : Int) < (l.length : Int) := by omega
      generalize l.getD k 0 = x at *
      have AD : Hid (∀ w, _) := fun w => add_nn s x hs0 hx0 HP.out.2 hx1 w
      clear hm
      by_cases hok : s + x ≤ MX
      · rw [if_pos hok, if_pos hok] at AD
        have HP2 : Hid (s + x = (l.take (k + 1)).sum ∧ s + x ≤ MX) := ⟨hst.symm, hok⟩
        obtain ⟨s2, hs2⟩ : ∃ s2, Hid (s + x = s2) := ⟨_, rfl⟩
        rw [hs2.out] at AD HP2
        clear hok hle hst hx0 hx1 hs0
        go_wp2_with (go_at_call 25; ((with_reducible refine (AD.out _).mono ?_); rintro e w1 ⟨rfl, rfl⟩))
        go_round
        case rel => exact ⟨k + 1, s2, by omega, by go_num, rfl, HP2⟩
        case measure => simp [intOf]; omega
      · rw [if_neg hok, if_neg hok] at AD
        have hno : ¬ l.sum ≤ MX := by omega
        rw [if_neg hno] at hRV hRE
        clear hok hle hst hx0 hx1 hs0 hno
        go_wp2_with (go_at_call 25; ((with_reducible refine (AD.out _).mono ?_); rintro e w1 ⟨rfl, rfl⟩))
        go_ret2
        exact ⟨by rw [← hRV.out, ← hRE.out]; rfl, rfl⟩
    · have hke : k = l.length := by omega
      have hp := HP.out
      rw [hke, List.take_length] at hp
      have hno : l.sum ≤ MX := by rw [← hp.1]; exact hp.2
      rw [if_pos hno] at hRV hRE
      have HSS := Lib.hid hp.1
      have hge : ¬ (k : Int) < (l.length : Int) := by omega
      clear hlt hke hno hp
      go_wp2
      go_ret2
      exact ⟨by rw [← hRV.out, ← hRE.out, ← HSS.out]; rfl, rfl⟩
end Gra
end Go.Proofs.Ytjdkkldlghdojaa
