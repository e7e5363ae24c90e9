/- The plain law behind long division by two digits. -/
import Derived.Test.YtbfcgaijplhcoaaChecked
namespace Go.Proofs.Ytbfcgaijplhcoaa
namespace Div
/-- What holds of a digit that is guessed: it is no less than the true one. -/
def Inv (b y1 y0 u d q r : Nat) : Prop := q * y1 + r = u ∧ (u * b + d) / (y1 * b + y0) ≤ q ∧ q ≤ b + 1
theorem true_lt {b y u d : Nat} (hu : u < y) (hd : d < b) : (u * b + d) / y < b := by
  rw [Nat.div_lt_iff_lt_mul (by omega), Nat.mul_comm b y]
  have := Nat.mul_le_mul_right b (show u + 1 ≤ y from hu)
  rw [Nat.add_mul] at this
  omega
theorem inv_start {b y1 y0 u d : Nat} (hy1 : 0 < y1) (hu : u < y1 * b + y0) (hn : b ≤ 2 * y1) (h0 : y0 < b) (hd : d < b) : Inv b y1 y0 u d (u / y1) (u % y1) := by
  have e := Nat.div_add_mod u y1
  refine ⟨by rw [Nat.mul_comm]; exact e, ?_, ?_⟩
  · have hlt := true_lt hu hd
    by_cases hb : b ≤ u / y1
    · omega
    · rw [Nat.div_le_iff_le_mul_add_pred (by omega)]
      have h1 : u + 1 ≤ (u / y1 + 1) * y1 := by
        have := Nat.lt_mul_div_succ u hy1
        rw [Nat.mul_comm] at this
        exact this
      have h2 := Nat.mul_le_mul_right b h1
      have h3 : (u / y1 + 1) * y1 * b = (y1 * b) * (u / y1) + y1 * b := by rw [Nat.add_mul, Nat.add_mul, Nat.one_mul, Nat.mul_assoc, Nat.mul_comm (u / y1)]
      have h4 : (y1 * b + y0) * (u / y1) = (y1 * b) * (u / y1) + y0 * (u / y1) := Nat.add_mul _ _ _
      have h5 : (u + 1) * b = u * b + b := by rw [Nat.add_mul, Nat.one_mul]
      omega
  · have : u / y1 < b + 2 := by
      rw [Nat.div_lt_iff_lt_mul hy1, Nat.add_mul, Nat.mul_comm b y1]
      omega
    omega
theorem inv_next {b y1 y0 u d q r : Nat} (h : Inv b y1 y0 u d q r) (hu : u < y1 * b + y0) (hd : d < b) (ht : b ≤ q ∨ b * r + d < q * y0) : 1 ≤ q ∧ Inv b y1 y0 u d (q - 1) (r + y1) := by
  obtain ⟨h1, h2, h3⟩ := h
  have hlt : (u * b + d) / (y1 * b + y0) < q := by
    rcases ht with ht | ht
    · exact Nat.lt_of_lt_of_le (true_lt hu hd) ht
    · rw [Nat.div_lt_iff_lt_mul (by omega)]
      have e : q * (y1 * b + y0) = q * y1 * b + q * y0 := by rw [Nat.mul_add, Nat.mul_assoc]
      have e2 : u * b = q * y1 * b + r * b := by rw [← h1, Nat.add_mul]
      rw [Nat.mul_comm b r] at ht
      omega
  generalize ht : (u * b + d) / (y1 * b + y0) = t at *
  have hq : 1 ≤ q := by omega
  refine ⟨hq, ?_, by rw [ht]; omega, by omega⟩
  obtain ⟨p, rfl⟩ : ∃ p, q = p + 1 := ⟨q - 1, by omega⟩
  rw [Nat.add_sub_cancel]
  rw [Nat.add_mul, Nat.one_mul] at h1
  omega
theorem inv_end {b y1 y0 u d q r : Nat} (h : Inv b y1 y0 u d q r) (hu : u < y1 * b + y0) (ht : q * y0 ≤ b * r + d) : q = (u * b + d) / (y1 * b + y0) := by
  obtain ⟨h1, h2, h3⟩ := h
  have : q ≤ (u * b + d) / (y1 * b + y0) := by
    rw [Nat.le_div_iff_mul_le (by omega)]
    have e : q * (y1 * b + y0) = q * y1 * b + q * y0 := by rw [Nat.mul_add, Nat.mul_assoc]
    have e2 : u * b = q * y1 * b + r * b := by rw [← h1, Nat.add_mul]
    rw [Nat.mul_comm b r] at ht
    omega
  omega
theorem inv_break {b y0 d q r : Nat} (h0 : y0 < b) (hq : q ≤ b) (hr : b ≤ r) : q * y0 ≤ b * r + d := by
  have a1 := Nat.mul_le_mul hq (Nat.le_of_lt h0)
  have a2 := Nat.mul_le_mul_left b hr
  omega
/-- Two digits, one behind the other. -/
theorem two_digits {b y u d1 d0 : Nat} (hy : 0 < y) :
    (u * b * b + d1 * b + d0) / y = (u * b + d1) / y * b + (((u * b + d1) % y) * b + d0) / y ∧ (u * b * b + d1 * b + d0) % y = (((u * b + d1) % y) * b + d0) % y := by
  have e := Nat.div_add_mod (u * b + d1) y
  have e1 : u * b * b + d1 * b + d0 = y * ((u * b + d1) / y * b) + (((u * b + d1) % y) * b + d0) := by
    have : u * b * b + d1 * b = (y * ((u * b + d1) / y) + (u * b + d1) % y) * b := by rw [e, Nat.add_mul]
    rw [this, Nat.add_mul, Nat.mul_assoc]
    omega
  generalize (u * b + d1) % y * b + d0 = z at *
  rw [e1, Nat.mul_add_div hy, Nat.mul_add_mod]
  exact ⟨rfl, rfl⟩
/-- What is shifted is divided alike. -/
theorem shifted (n y p : Nat) (hp : 0 < p) : n * p / (y * p) = n / y ∧ n * p % (y * p) / p = n % y := by
  rw [Nat.mul_div_mul_right _ _ hp, Nat.mul_mod_mul_right, Nat.mul_div_cancel _ hp]
  exact ⟨rfl, rfl⟩
end Div
end Go.Proofs.Ytbfcgaijplhcoaa
