/- Bytes read as numbers: the program's reader. -/
import Derived.Test.YtmaddebfoefckaaDoorPenU
import Derived.Deep.OwnRows
import Derived.Deep.DeepMust
namespace Go.Proofs.YtmaddebfoefckaaDoor
open Go.RowKit
namespace Pen
/-- A reader's cells. -/
def rc (rest : ByteArray) (bad : Bool) (i : Nat) : Value := if i = 0 then .string rest else if i = 1 then .bool bad else .bool true
def RdAt (w : World) (g : Nat) (rest : ByteArray) (bad : Bool) : Prop := w.rowIs g 55 3 (rc rest bad)
theorem grw_trans {a b c : World} {g : Nat} (h1 : a.grownBy b (some g)) (h2 : b.grownBy c (some g)) : a.grownBy c (some g) :=
  ⟨h2.os.trans h1.os, h2.tape.trans h1.tape, h2.output.trans h1.output, Nat.le_trans h1.size h2.size, fun k hk hne => (h2.block k (Nat.lt_of_lt_of_le hk h1.size) hne).trans (h1.block k hk hne)⟩
theorem grw_refl (w : World) (g : Nat) : w.grownBy w (some g) := ⟨rfl, rfl, rfl, Nat.le_refl _, fun _ _ _ => rfl⟩
theorem grw_set (w : World) (g i : Nat) (u : Value) : w.grownBy (w.setCell ⟨g, i, none⟩ u) (some g) :=
  ⟨rfl, rfl, rfl, by simp, fun k _ hne => Below.heap_setCell _ _ _ _ (fun e => hne (by rw [e]))⟩
theorem RdAt.cells {w : World} {g : Nat} {rest : ByteArray} {bad : Bool} (h : RdAt w g rest bad) : w.cell? ⟨g, 0, none⟩ = some (.string rest) ∧ w.cell? ⟨g, 1, none⟩ = some (.bool bad) ∧ w.cell? ⟨g, 2, none⟩ = some (.bool true) :=
  ⟨h.cell (by decide), h.cell (by decide), h.cell (by decide)⟩
theorem RdAt.setBad {w : World} {g : Nat} {rest : ByteArray} {bad : Bool} (h : RdAt w g rest bad) : RdAt (w.setCell ⟨g, 1, none⟩ (.bool true)) g rest true :=
  (World.rowIs.set h 1 _).congr fun i hi => by unfold rc; by_cases e : i = 1 <;> simp [e]
theorem RdAt.setRest {w : World} {g : Nat} {rest : ByteArray} {bad : Bool} (h : RdAt w g rest bad) (r : ByteArray) : RdAt (w.setCell ⟨g, 0, none⟩ (.string r)) g r bad :=
  (World.rowIs.set h 0 _).congr fun i hi => by unfold rc; by_cases e : i = 0 <;> simp [e]
theorem new_any (s : ByteArray) (w : World) :
    Calls Tryd.prog 20 #[.string s] w fun e w' => e = .returned (.pointer (some ⟨w.heap.size, 0, none⟩)) ∧ RdAt w' w.heap.size s false ∧ Below w.heap.size w w' := by
  go_enter Tryd.func20, Tryd.ntmps20
  go_wp2
  go_ret
  refine ⟨rfl, ?_, below_al (Below.refl _ _) _⟩
  refine ⟨_, heap_alloc_new w _, rfl, fun i hi => ?_⟩
  match i, hi with
  | 0, _ => rfl
  | 1, _ => rfl
  | 2, _ => rfl
theorem fails_any (g : Nat) (rest : ByteArray) (bad : Bool) (w : World) (h : RdAt w g rest bad) :
    Calls Tryd.prog 35 #[.pointer (some ⟨g, 0, none⟩)] w fun e w' => e = .returned (.tuple #[]) ∧ RdAt w' g rest true ∧ w.grownBy w' (some g) := by
  obtain ⟨c0, c1, c2⟩ := h.cells
  have f1 := World.rowIs.frozen h 1
  have HS := Lib.hid h.setBad
  clear h
  go_enter Tryd.func35, Tryd.ntmps35
  go_wp2
  go_end0
  exact ⟨rfl, HS.out, grw_set _ _ _ _⟩
theorem bad_any (g : Nat) (rest : ByteArray) (bad : Bool) (w : World) (h : RdAt w g rest bad) :
    Calls Tryd.prog 36 #[.pointer (some ⟨g, 0, none⟩)] w fun e w' => e = .returned (.bool bad) ∧ w = w' := by
  obtain ⟨c0, c1, c2⟩ := h.cells
  clear h
  cases bad with
  | true =>
    go_enter Tryd.func36, Tryd.ntmps36
    go_wp2
    go_ret
    exact ⟨rfl, rfl⟩
  | false =>
    go_enter Tryd.func36, Tryd.ntmps36
    go_wp2
    go_ret
    exact ⟨rfl, rfl⟩
theorem and127b (b : UInt8) : bits .and .u8 (b.toNat : Int) 127 = ((b.toNat % 128 : Nat) : Int) := by
  have key : ∀ m : Fin 256, bits .and .u8 ((m.val : Nat) : Int) 127 = ((m.val % 128 : Nat) : Int) := by decide +kernel
  exact key ⟨b.toNat, b.toNat_lt⟩
theorem or_add (n m t : Nat) (hn : n < 2 ^ t) (h : n + m * 2 ^ t < 2 ^ 64) : bits .or .u64 (n : Int) ((m * 2 ^ t : Nat) : Int) = ((n + m * 2 ^ t : Nat) : Int) := by
  have h1 : n < 2 ^ 64 := by omega
  have h2 : m * 2 ^ t < 2 ^ 64 := by omega
  show IntKind.u64.wrap ((BitVec.ofInt 64 (n : Int) ||| BitVec.ofInt 64 ((m * 2 ^ t : Nat) : Int)).toNat : Int) = _
  rw [BitVec.toNat_or, show (BitVec.ofInt 64 (n : Int)).toNat = n by rw [BitVec.ofInt_natCast, BitVec.toNat_ofNat]; exact Nat.mod_eq_of_lt h1,
    show (BitVec.ofInt 64 ((m * 2 ^ t : Nat) : Int)).toNat = m * 2 ^ t by rw [BitVec.ofInt_natCast, BitVec.toNat_ofNat]; exact Nat.mod_eq_of_lt h2]
  have e : n ||| m * 2 ^ t = n + m * 2 ^ t := by
    rw [Nat.or_comm, Nat.mul_comm, ← Nat.two_pow_add_eq_or_of_lt hn m, Nat.add_comm]
  rw [e, IntKind.wrap_u64]
  omega
/-- What a word leaves. -/
def wordS (l : List UInt8) : Int × Bool × List UInt8 × Bool := match rd l with
  | none => (0, false, l, true)
  | some (n, l') => ((n : Int), true, l', false)
theorem rdF_step (f k n : Nat) (b : UInt8) (l : List UInt8) : rdF (f + 1) k n (b :: l) = if (b = 0 ∧ 0 < k) ∨ (k = 9 ∧ 1 < b.toNat) then none else if b.toNat < 128 then some (n + b.toNat % 128 * 2 ^ (7 * k), l) else rdF f (k + 1) (n + b.toNat % 128 * 2 ^ (7 * k)) l := rfl
theorem drop_at (s : ByteArray) (k : Nat) (h : k < s.size) : s.data.toList.drop k = s[k] :: s.data.toList.drop (k + 1) := by
  rw [List.drop_eq_getElem_cons (by simpa using h)]; rfl
theorem extract_bs (s : ByteArray) (k : Nat) : s.extract k s.size = bs (s.data.toList.drop k) := by
  apply ByteArray.ext
  apply Array.toList_inj.1
  simp [bs, ByteArray.data_extract]
  rw [List.take_of_length_le (by simp)]
theorem bs_self (s : ByteArray) : bs s.data.toList = s := by
  apply ByteArray.ext; simp [bs]
theorem acc_bound {n b k : Nat} (hn : n < 2 ^ (7 * k)) (hb : b ≤ 127) (hk : k ≤ 9) (h9 : k = 9 → b ≤ 1) : n + b * 2 ^ (7 * k) < 2 ^ 64 ∧ n + b * 2 ^ (7 * k) < 2 ^ (7 * (k + 1)) := by
  have h2 : n + b * 2 ^ (7 * k) < 2 ^ (7 * (k + 1)) := by
    rw [show 7 * (k + 1) = 7 * k + 7 by omega, Nat.pow_add]
    have : b * 2 ^ (7 * k) ≤ 127 * 2 ^ (7 * k) := Nat.mul_le_mul_right _ hb
    omega
  refine ⟨?_, h2⟩
  by_cases e : k = 9
  · have hb1 := h9 e
    subst e
    have : b * 2 ^ (7 * 9) ≤ 1 * 2 ^ (7 * 9) := Nat.mul_le_mul_right _ hb1
    omega
  · have h3 : 2 ^ (7 * (k + 1)) ≤ 2 ^ 63 := Nat.pow_le_pow_right (by omega) (by omega)
    omega
set_option maxRecDepth 100000 in
set_option maxHeartbeats 4000000 in
theorem word_good (g : Nat) (s : ByteArray) (hs : s.size ≤ 1000000000) (w : World) (h : RdAt w g s false) :
    Calls Tryd.prog 34 #[.pointer (some ⟨g, 0, none⟩)] w fun e w' => e = .returned (.tuple #[.int .u64 (wordS s.data.toList).1, .bool (wordS s.data.toList).2.1]) ∧ Hid (RdAt w' g (bs (wordS s.data.toList).2.2.1) (wordS s.data.toList).2.2.2) ∧ Hid (w.grownBy w' (some g)) := by
  have H := Lib.hid h
  have hs1 : (s.size : Int) ≤ 1000000000 := by omega
  obtain ⟨c0, c1, c2⟩ := h.cells
  have f0 := World.rowIs.frozen h 0
  have CB := Lib.hid (bad_any g s false w h)
  have CF := Lib.hid (fails_any g s false w h)
  have HSR := Lib.hid (fun r => h.setRest r)
  obtain ⟨R, hR⟩ : ∃ R, Hid (wordS s.data.toList = R) := ⟨_, rfl⟩
  rw [hR.out]
  clear h
  obtain ⟨K, hK⟩ : ∃ K : Nat, Hid (min 10 s.size = K) := ⟨_, rfl⟩
  have hK1 : K ≤ 10 := by have := hK.out; omega
  have hK2 : (K : Int) < 11 := by omega
  have hmin : (if (s.size : Int) < 10 then (s.size : Int) else 10) = (K : Int) := by have := hK.out; split <;> omega
  go_enter Tryd.func34, Tryd.ntmps34
  go_wp2_with (go_at_call 36; (with_reducible refine CB.out.mono ?_); rintro e w1 ⟨rfl, rfl⟩)
  clear hmin
  go_loop [4, 16] (fun v4 v16 => ∃ (k n : Nat), k ≤ K ∧ v16 = .int .i64 (k : Int) ∧ v4 = .int .u64 (n : Int) ∧ Hid (n < 2 ^ (7 * k) ∧ rdF (10 - k) k n (s.data.toList.drop k) = rd s.data.toList)) (fun _ v16 => K - (intOf v16).toNat)
  case atStart => exact ⟨0, 0, by omega, rfl, rfl, by decide, by rw [List.drop_zero]; rfl⟩
  case round =>
    obtain ⟨k, n, hk, rfl, rfl, HN⟩ := hrel
    by_cases hlt : k < K
    · have hks : k < s.size := by have := hK.out; omega
      have hk10 : k < 10 := by omega
      have hlt1 : (k : Int) < (K : Int) := by omega
      have hks1 : (k : Int) < (s.size : Int) := by omega
      have hk0 : (0 : Int) ≤ (k : Int) := by omega
      have HST : Hid (rd s.data.toList = if (s[k] = 0 ∧ 0 < k) ∨ (k = 9 ∧ 1 < s[k].toNat) then none else if s[k].toNat < 128 then some (n + s[k].toNat % 128 * 2 ^ (7 * k), s.data.toList.drop (k + 1)) else rdF (9 - k) (k + 1) (n + s[k].toNat % 128 * 2 ^ (7 * k)) (s.data.toList.drop (k + 1))) := by
        have := HN.out.2
        rw [drop_at s k hks, show 10 - k = (9 - k) + 1 by omega, rdF_step] at this
        exact this.symm
      have hbn := (s[k]).toNat_lt
      have HZ0 : Hid (s[k] = 0 ↔ s[k].toNat = 0) := ⟨fun h => by rw [h]; rfl, fun h => by
        apply UInt8.toNat_inj.1; rw [h]; rfl⟩
      have hA := and127b s[k]
      obtain ⟨B, hB⟩ : ∃ B : Nat, s[k].toNat = B := ⟨_, rfl⟩
      rw [hB] at HST HZ0 hbn hA
      obtain ⟨A, hAe⟩ : ∃ A : Int, Hid (((B % 128 : Nat) : Int) = A) := ⟨_, rfl⟩
      obtain ⟨t, ht⟩ : ∃ t : Nat, Hid (7 * k = t) := ⟨_, rfl⟩
      have ht2 : 7 * (k : Int) = (t : Int) := by have := ht.out; omega
      have ht3 : t ≤ 63 := by have := ht.out; omega
      have ht4 : (t : Int) ≤ 64 := by omega
      obtain ⟨Z, hZ⟩ : ∃ Z : Int, (B : Int) = Z := ⟨_, rfl⟩
      have HBZ : Hid ((B : Int) = Z ∧ B < 256) := ⟨hZ, by omega⟩
      rw [hAe.out, hZ] at hA
      have a0 : 0 ≤ A := by have := hAe.out; omega
      have a1 : A ≤ 127 := by have := hAe.out; omega
      by_cases hfail : (B = 0 ∧ 0 < k) ∨ (k = 9 ∧ 1 < B)
      · have HFR : Hid (R = (0, false, s.data.toList, true)) := by
          show R = _
          rw [← hR.out]
          unfold wordS
          rw [HST.out, if_pos (by rcases hfail with h | h; exact .inl ⟨HZ0.out.2 h.1, h.2⟩; exact .inr h)]
        by_cases hz : B = 0 ∧ 0 < k
        · have z0 : Z = 0 := by have := HBZ.out.1; omega
          have dk0 : (0 : Int) < (k : Int) := by omega
          have dk0' : 0 < k := hz.2
          subst z0
          clear hfail hz hbn HST
          go_wp2_with (go_at_call 35; (with_reducible refine CF.out.mono ?_); rintro e w2 ⟨rfl, hrd, hgr⟩; have HRD := Lib.hid hrd; have HGR := Lib.hid hgr; clear hrd hgr)
          go_ret2
          have e := HFR.out
          rw [e]
          exact ⟨rfl, by show RdAt _ _ _ _; rw [bs_self]; exact HRD.out, HGR.out⟩
        · have hk9 : k = 9 ∧ 1 < B := by rcases hfail with h | h; exact absurd h hz; exact h
          have hk9' := hk9.1
          have dz0 : (Z == 0) = false := beq_eq_false_iff_ne.2 (by have := HBZ.out.1; omega)
          have dz1 : decide (1 < Z) = true := decide_eq_true (by have := HBZ.out.1; omega)
          have HK9 := Lib.hid hk9'
          have dk9 : ((k : Int) == 9) = true := by rw [hk9']; rfl
          clear hfail hz hbn HST hk9 hk9' ht2 ht3 ht4
          by_cases h128 : Z < 128
          · have dlast : decide (Z < 128) = true := decide_eq_true h128
            clear h128
            go_wp2_with (go_at_call 35; (with_reducible refine CF.out.mono ?_); rintro e w2 ⟨rfl, hrd, hgr⟩; have HRD := Lib.hid hrd; have HGR := Lib.hid hgr; clear hrd hgr)
            go_ret2
            have e := HFR.out
            rw [e]
            exact ⟨rfl, by show RdAt _ _ _ _; rw [bs_self]; exact HRD.out, HGR.out⟩
          · have dlast : decide (Z < 128) = false := decide_eq_false h128
            clear h128
            go_wp2_with (go_at_call 35; (with_reducible refine CF.out.mono ?_); rintro e w2 ⟨rfl, hrd, hgr⟩; have HRD := Lib.hid hrd; have HGR := Lib.hid hgr; clear hrd hgr)
            go_ret2
            have e := HFR.out
            rw [e]
            exact ⟨rfl, by show RdAt _ _ _ _; rw [bs_self]; exact HRD.out, HGR.out⟩
      · have hbound : n + B % 128 * 2 ^ (7 * k) < 2 ^ 64 ∧ n + B % 128 * 2 ^ (7 * k) < 2 ^ (7 * (k + 1)) := acc_bound HN.out.1 (by omega) (by omega) (fun e => by
          have : ¬ 1 < B := fun h => hfail (.inr ⟨e, h⟩)
          omega)
        have HBD := Lib.hid hbound.2
        have hor := or_add n (B % 128) (7 * k) HN.out.1 hbound.1
        have hwr : IntKind.u64.wrap (A * 2 ^ t) = ((B % 128 * 2 ^ (7 * k) : Nat) : Int) := by
          rw [IntKind.wrap_u64, ← hAe.out, ← ht.out, show (((B % 128 : Nat) : Int) * 2 ^ (7 * k)) = ((B % 128 * 2 ^ (7 * k) : Nat) : Int) by rw [Int.natCast_mul, Int.natCast_pow]; rfl]
          have := hbound.1
          omega
        obtain ⟨S, hS⟩ : ∃ S : Int, Hid (((B % 128 * 2 ^ (7 * k) : Nat) : Int) = S) := ⟨_, rfl⟩
        obtain ⟨N2, hN2⟩ : ∃ N2 : Nat, Hid (n + B % 128 * 2 ^ (7 * k) = N2) := ⟨_, rfl⟩
        rw [hS.out, hN2.out] at hor
        rw [hS.out] at hwr
        rw [hN2.out] at HBD HST
        have hN63 : (N2 : Int) < 18446744073709551616 := by have := hN2.out; have := hbound.1; omega
        replace hN63 := Lib.hid hN63
        clear hbound
        by_cases h128 : B < 128
        · have HRR : Hid (R = ((N2 : Int), true, s.data.toList.drop (k + 1), false)) := by
            show R = _
            rw [← hR.out]
            unfold wordS
            rw [HST.out, if_neg (fun h => hfail (by rcases h with h | h; exact .inl ⟨HZ0.out.1 h.1, h.2⟩; exact .inr h)), if_pos h128]
          have dlast : decide (Z < 128) = true := decide_eq_true (by have := HBZ.out.1; omega)
          have hex := Lib.hid (extract_bs s (k + 1))
          by_cases hz : B = 0
          · have z0 : Z = 0 := by have := HBZ.out.1; omega
            have hk00 : k = 0 := by
              by_cases e : k = 0
              · exact e
              · exact absurd (.inl ⟨hz, by omega⟩) hfail
            subst hk00
            have hSA : S = A := by rw [← hS.out, ← hAe.out]; simp
            rw [hSA] at hor
            subst z0
            clear hfail hz hbn HST h128 hSA
            go_wp2
            go_ret2
            have e := HRR.out
            rw [e]
            exact ⟨rfl, by show RdAt _ _ _ _; rw [← hex.out]; exact HSR.out _, grw_set _ _ _ _⟩
          · have dz0 : (Z == 0) = false := beq_eq_false_iff_ne.2 (by have := HBZ.out.1; omega)
            by_cases hk9 : k = 9
            · have dz1 : decide (1 < Z) = false := decide_eq_false (fun h => hfail (.inr ⟨hk9, by have := HBZ.out.1; omega⟩))
              have dk9 : ((k : Int) == 9) = true := by rw [hk9]; rfl
              replace hk9 := Lib.hid hk9
              clear hfail hz hbn HST h128
              go_wp2
              go_ret2
              have e := HRR.out
              rw [e]
              exact ⟨rfl, by show RdAt _ _ _ _; rw [← hex.out]; exact HSR.out _, grw_set _ _ _ _⟩
            · have dk9 : ((k : Int) == 9) = false := beq_eq_false_iff_ne.2 (by omega)
              clear hfail hz hbn HST h128 hk9
              go_wp2
              go_ret2
              have e := HRR.out
              rw [e]
              exact ⟨rfl, by show RdAt _ _ _ _; rw [← hex.out]; exact HSR.out _, grw_set _ _ _ _⟩
        · have dlast : decide (Z < 128) = false := decide_eq_false (by have := HBZ.out.1; omega)
          have k9 : ¬ k = 9 := fun e => hfail (.inr ⟨e, by omega⟩)
          have dk9 : ((k : Int) == 9) = false := beq_eq_false_iff_ne.2 (by omega)
          have HNX : Hid (rdF (10 - (k + 1)) (k + 1) N2 (s.data.toList.drop (k + 1)) = rd s.data.toList) := by
            show _ = _
            rw [HST.out, if_neg (fun h => hfail (by rcases h with h | h; exact .inl ⟨HZ0.out.1 h.1, h.2⟩; exact .inr h)), if_neg h128]
            rw [show 10 - (k + 1) = 9 - k by omega]
          clear hfail h128 hbn HST
          go_wp2
          go_round
          case rel => exact ⟨k + 1, N2, by omega, by go_num, rfl, HBD, HNX⟩
          case measure => simp [intOf]; omega
    · have hkK : k = K := by omega
      have hge : ¬ (k : Int) < (K : Int) := by omega
      have HFR : Hid (R = (0, false, s.data.toList, true)) := by
        show R = _
        rw [← hR.out]
        unfold wordS
        have h1 := HN.out.2
        have h2 : rdF (10 - k) k n (s.data.toList.drop k) = none := by
          by_cases e : k = 10
          · subst e
            cases s.data.toList.drop 10 <;> rfl
          · have : s.data.toList.drop k = [] := List.drop_eq_nil_of_le (by have := hK.out; simp; omega)
            rw [this]
            cases (10 - k) <;> rfl
        rw [← h1, h2]
      clear hlt hkK
      go_wp2_with (go_at_call 35; (with_reducible refine CF.out.mono ?_); rintro e w2 ⟨rfl, hrd, hgr⟩; have HRD := Lib.hid hrd; have HGR := Lib.hid hgr; clear hrd hgr)
      go_ret2
      have e := HFR.out
      rw [e]
      exact ⟨rfl, by show RdAt _ _ _ _; rw [bs_self]; exact HRD.out, HGR.out⟩
end Pen
end Go.Proofs.YtmaddebfoefckaaDoor
