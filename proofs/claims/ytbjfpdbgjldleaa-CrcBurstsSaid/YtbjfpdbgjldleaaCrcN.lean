/- Sums of texts put together: the plain law and the walk of CrcLinear. -/
import Derived.Test.YtbjfpdbgjldleaaCrcL
import Derived.Test.YtbjfpdbgjldleaaCrcX
import Derived.RegionTactic
namespace Go.Proofs.Ytbjfpdbgjldleaa
open Go.RowKit
namespace Crc
theorem byt_xor (a b : BitVec 32) (x y : UInt8) : byt (a ^^^ b) (x ^^^ y) = byt a x ^^^ byt b y := by
  have e : BitVec.ofNat 32 (x ^^^ y).toNat = BitVec.ofNat 32 x.toNat ^^^ BitVec.ofNat 32 y.toNat := by
    rw [UInt8.toNat_xor, BitVec.ofNat_xor]
  rw [byt, byt, byt, e, xor4, stps_xor]
theorem run_xor (l m : List UInt8) (h : l.length = m.length) (a b : BitVec 32) : run (a ^^^ b) (xorL l m) = run a l ^^^ run b m := by
  induction l generalizing m a b with
  | nil => cases m with
    | nil => rfl
    | cons y m => cases h
  | cons x l ih => cases m with
    | nil => cases h
    | cons y m =>
      show run (byt (a ^^^ b) (x ^^^ y)) (xorL l m) = run (byt a x) l ^^^ run (byt b y) m
      rw [byt_xor]
      exact ih m (by simpa using h) _ _
theorem sum_xor3 (x y z : List UInt8) (h1 : x.length = y.length) (h2 : y.length = z.length) : sum x ^^^ sum y ^^^ sum z = sum (xorL (xorL x y) z) := by
  have e : ∀ l, sum l = BitVec.allOnes 32 ^^^ run (BitVec.allOnes 32) l := fun l => by
    rw [sum, more, BitVec.allOnes_xor]
    have : ~~~(0#32) = BitVec.allOnes 32 := rfl
    rw [this]
  rw [e, e, e, e]
  have hl : (xorL x y).length = z.length := by simp [xorL]; omega
  have := run_xor (xorL x y) z hl (BitVec.allOnes 32 ^^^ BitVec.allOnes 32) (BitVec.allOnes 32)
  rw [run_xor x y h1, BitVec.xor_self, BitVec.zero_xor] at this
  rw [this]
  generalize run (BitVec.allOnes 32) x = a
  generalize run (BitVec.allOnes 32) y = b
  generalize run (BitVec.allOnes 32) z = c
  rw [xor4 (BitVec.allOnes 32) a, BitVec.xor_self, BitVec.zero_xor, ← BitVec.xor_assoc, BitVec.xor_comm (a ^^^ b), BitVec.xor_assoc]
theorem extract_toList (s : ByteArray) (n : Nat) : (s.extract 0 n).data.toList = s.data.toList.take n := by
  rw [ByteArray.data_extract]; simp
theorem sum_arr (l : List UInt8) (hl : l.length ≤ maxLen) (w : World) :
    Calls Try.prog 9 #[.string ⟨l.toArray⟩] w fun e w' => e = .returned (.int .u32 (U (sum l))) ∧ Below w.heap.size w w' :=
  sum_any ⟨l.toArray⟩ (by simpa [ByteArray.size] using hl) w
theorem xor_arr (l : List UInt8) (b : ByteArray) (hl : l.length ≤ 4096) (hb : b.size ≤ maxLen) (w : World) :
    Calls Try.prog 15 #[.string ⟨l.toArray⟩, .string b] w fun e w' => e = .returned (.string ⟨(xorL l b.data.toList).toArray⟩) ∧ Below w.heap.size w w' :=
  xor_any ⟨l.toArray⟩ b (by simp [ByteArray.size, maxLen]; omega) hb w (by simp [ByteArray.size]; omega)
set_option maxHeartbeats 1000000 in
theorem crcLinear_walk (a : ByteArray) (ha : a.size ≤ maxLen) (b : ByteArray) (hb : b.size ≤ maxLen) (c : ByteArray) (hc : c.size ≤ maxLen) (w : World) :
    Calls Try.prog 5 #[.string a, .string b, .string c] w fun e w' => e = .returned (.bool true) ∧ Below w.heap.size w w' := by
  unfold maxLen at ha hb hc
  by_cases h1 : 1024 < a.size
  · go_enter Try.func5, Try.ntmps5
    go_wp2_with (go_at_call 8; ((with_reducible refine (awake_any _).mono ?_); rintro e w1 ⟨rfl, hb1⟩))
    go_ret
    exact ⟨rfl, hb1⟩
  by_cases h2 : 1024 < b.size
  · go_enter Try.func5, Try.ntmps5
    go_wp2_with (go_at_call 8; ((with_reducible refine (awake_any _).mono ?_); rintro e w1 ⟨rfl, hb1⟩))
    go_ret
    exact ⟨rfl, hb1⟩
  by_cases h3 : 1024 < c.size
  · go_enter Try.func5, Try.ntmps5
    go_wp2_with (go_at_call 8; ((with_reducible refine (awake_any _).mono ?_); rintro e w1 ⟨rfl, hb1⟩))
    go_ret
    exact ⟨rfl, hb1⟩
  obtain ⟨n, hn⟩ : ∃ n : Nat, Hid (n = min a.size (min b.size c.size)) := ⟨_, rfl⟩
  have ha2 : n ≤ a.size := by have := hn.out; omega
  have hb2 : n ≤ b.size := by have := hn.out; omega
  have hc2 : n ≤ c.size := by have := hn.out; omega
  have ea := Lib.hid (extract_toList a n)
  go_enter Try.func5, Try.ntmps5
  go_wp2_with fail
  all_goals
    first
    | (have e : (a.size : Int) = n := by (have := hn.out; omega)
       rw [e]; clear e)
    | (have e : (b.size : Int) = n := by (have := hn.out; omega)
       rw [e]; clear e)
    | (have e : (c.size : Int) = n := by (have := hn.out; omega)
       rw [e]; clear e)
  all_goals
    go_region
  all_goals
    have sX : (a.extract 0 n).size = n := by simp; omega
    have sY : (b.extract 0 n).size = n := by simp; omega
    have sZ : (c.extract 0 n).size = n := by simp; omega
    have hn4 : n ≤ 1024 := by omega
    clear ea hn ha hb hc ha2 hb2 hc2 h1 h2 h3
    generalize a.extract 0 n = X at sX ⊢
    generalize b.extract 0 n = Y at sY ⊢
    generalize c.extract 0 n = Z at sZ ⊢
    have lX : X.size ≤ maxLen := by unfold maxLen; omega
    have lY : Y.size ≤ maxLen := by unfold maxLen; omega
    have lZ : Z.size ≤ maxLen := by unfold maxLen; omega
    have l1 : (xorL X.data.toList Y.data.toList).length ≤ 4096 := by rw [xorL_length]; omega
    have l2 : (xorL (xorL X.data.toList Y.data.toList) Z.data.toList).length ≤ maxLen := by simp [xorL, maxLen]; omega
    have heq : (U (sum X.data.toList ^^^ sum Y.data.toList ^^^ sum Z.data.toList) == U (sum (xorL (xorL X.data.toList Y.data.toList) Z.data.toList))) = true := by
      rw [sum_xor3 _ _ _ (by simp; omega) (by simp; omega)]; simp
    have X4 : X.size ≤ 140737488355327 := by omega
    have HX := Lib.hid (And.intro lX (And.intro lY (And.intro lZ (And.intro l1 (And.intro l2 X4)))))
    clear sX sY sZ hn4 lX lY lZ l1 l2 X4
    go_wp2_with (first
      | (go_at_call 9; ((with_reducible refine (sum_any X HX.out.1 _).mono ?_); rintro e w1 ⟨rfl, hb1⟩))
      | (go_at_call 9; ((with_reducible refine (sum_any Y HX.out.2.1 _).mono ?_); rintro e w2 ⟨rfl, hb2⟩))
      | (go_at_call 9; ((with_reducible refine (sum_any Z HX.out.2.2.1 _).mono ?_); rintro e w3 ⟨rfl, hb3⟩))
      | (go_at_call 15; ((with_reducible refine (xor_any X Y HX.out.1 HX.out.2.1 _ HX.out.2.2.2.2.2).mono ?_); rintro e w4 ⟨rfl, hb4⟩))
      | (go_at_call 15; ((with_reducible refine (xor_arr _ Z HX.out.2.2.2.1 HX.out.2.2.1 _).mono ?_); rintro e w5 ⟨rfl, hb5⟩))
      | (go_at_call 9; ((with_reducible refine (sum_arr _ HX.out.2.2.2.2.1 _).mono ?_); rintro e w6 ⟨rfl, hb6⟩))
      | (go_at_call 8; ((with_reducible refine (awake_any _).mono ?_); rintro e w7 ⟨rfl, hb7⟩)))
    go_ret
    exact ⟨rfl, below2 (below2 (below2 (below2 (below2 (below2 (below2 ((Below.refl _ _).drew) hb1) hb2) hb3) hb4) hb5) hb6) hb7⟩
end Crc
end Go.Proofs.Ytbjfpdbgjldleaa
