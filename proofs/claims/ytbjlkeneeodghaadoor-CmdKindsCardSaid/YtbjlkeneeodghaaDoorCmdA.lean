/- Whether a command is one: the program's answer. -/
import Derived.Test.YtbjlkeneeodghaaDoorCmdZ
set_option linter.unusedSimpArgs false
set_option linter.unusedVariables false
namespace Go.Proofs.YtbjlkeneeodghaaDoor
open Go.RowKit Go.Great
namespace Cmd
open Pen (bs)
open In (Strs)
open Rec (below2 below_al below_dN Stk Stks stkVals)
/-- The stacks may stand there. -/
def Lok (c : CmdIn) : Prop := c.gives.length ≤ 8 ∧ c.wants.length ≤ 8 ∧ (c.kind ≠ 14 → c.gives.length + c.wants.length = 0)
instance (c : CmdIn) : Decidable (Lok c) := by unfold Lok; infer_instance
/-- A number that the kind does not have. -/
def badNum (c : CmdIn) (i : Nat) : Bool := decide (c.num i ≠ 0) && !isIn (fn c.kind) (nm i)
def bads (c : CmdIn) (k : Nat) : Bool := (List.range k).any (badNum c)
theorem bads_succ (c : CmdIn) (k : Nat) : bads c (k + 1) = (bads c k || badNum c k) := by simp [bads, List.range_succ]
theorem bads_of {c : CmdIn} {k : Nat} (hk : k < 19) (h : badNum c k = true) : bads c 19 = true := by
  unfold bads
  rw [List.any_eq_true]
  exact ⟨k, by simpa using hk, h⟩
/-- What Check answers. -/
def chkV (c : CmdIn) : Int := if fn c.kind = [] ∨ ¬ Lok c then 1 else if bads c 19 = true then 1 else 0
theorem contains_any (a : Option Addr) (c : Nat) (l : List ByteArray) (n : Nat) (hn : l.length = n) (hl : n ≤ 100) (s : ByteArray) (w : World) (ha : Strs w a l) :
    Calls Tryd.prog 44 #[.slice a n c, .string s] w fun e w' => e = .returned (.bool (isIn l s)) ∧ w' = w := by
  subst hn
  cases l with
  | nil => exact Tryd.slices_Contains_string_empty a c s w
  | cons x l =>
    obtain ⟨b, off, rfl, _⟩ := ha 0 (by simp)
    have := Tryd.slices_Contains_string b off (x :: l).length c (x :: l) s w (Nat.le_refl _) (by omega) fun j hj => by
      obtain ⟨b2, off2, e, _, h⟩ := ha j hj
      cases e
      exact h
    rw [List.take_length] at this
    have e : Lib.containsS (x :: l) s = isIn (x :: l) s := by
      apply Bool.eq_iff_iff.2
      rw [Lib.containsS_iff, isIn_iff]
    rw [e] at this
    exact this
/-- The text of all names. -/
def numbersB : List UInt8 := (List.intersperse [32] names).flatten
theorem numbers_fields : Lib.fields numbersB = names := by decide +kernel
theorem numbers_ascii : ∀ b ∈ numbersB, b.toNat < 128 := by decide +kernel
theorem numbers_len : numbersB.length < 1000 := by decide +kernel
theorem nms_map : (names.map fun l => Value.string ⟨l.toArray⟩) = nms.map Value.string := by rfl
theorem numbers_any (W : World) (hW : Tab W) : Calls Tryd.prog 43 #[.string (bs numbersB)] W (Gives nms W) := by
  have h := Tryd.strings_Fields_laid (bs numbersB) W (by rw [Pen.bs_size]; have := numbers_len; omega) (fun j b hb => numbers_ascii b (List.mem_of_getElem? hb)) hW
  refine h.mono ?_
  rintro e w' ⟨rfl, rfl⟩
  have e1 : Lib.fields (bs numbersB).data.toList = names := numbers_fields
  rw [e1]
  refine ⟨_, _, rfl, ?_, below_al (Below.refl _ _) _, fun x hx => by cases hx; exact Nat.le_refl _⟩
  rw [nms_map]
  exact strs_new rfl nms _
set_option maxRecDepth 100000 in
set_option maxHeartbeats 4000000 in
theorem check_loop (c : CmdIn) (w : World) (ht : Tab w) (hF : fn c.kind ≠ []) (hL : Lok c) : Calls Tryd.prog 14 #[.agg c.val] w fun e w' => e = .returned (.int .i64 (if bads c 19 = true then 1 else 0)) ∧ Below w.heap.size w w' := by
  obtain ⟨R, hR⟩ : ∃ R : Int, (if bads c 19 = true then (1 : Int) else 0) = R := ⟨_, rfl⟩
  rw [hR]
  have HR1 : Hid (bads c 19 = true → R = 1) := fun h => by rw [← hR, if_pos h]
  have HR0 : Hid (bads c 19 = false → R = 0) := fun h => by rw [← hR, if_neg (by rw [h]; decide)]
  clear hR
  have HT := Lib.hid ht
  have HST := Lib.hid (stand_new (w := w) rfl c)
  have CF : Hid (∀ W, Tab W → Calls Tryd.prog 21 #[.int .i64 c.kind] W (Gives (fn c.kind) W)) := fun W h => fields_any c.kind W h
  have CN : Hid (∀ W, Tab W → Calls Tryd.prog 43 #[.string (bs numbersB)] W (Gives nms W)) := fun W h => numbers_any W h
  have CI : Hid (∀ g s W, Calls Tryd.prog 29 #[.pointer (some ⟨g, 0, none⟩), .string s] W fun e w' => e = .returned (.pointer (at0 g (place s))) ∧ W = w') := fun g s W => field_any g s W
  have CC : Hid (∀ (a : Option Addr) (c : Nat) (l : List ByteArray) (n : Nat), l.length = n → n ≤ 100 → ∀ (s : ByteArray) (w : World), Strs w a l → Calls Tryd.prog 44 #[.slice a n c, .string s] w fun e w' => e = .returned (.bool (isIn l s)) ∧ w' = w) := fun a c l n h1 h2 s w h => contains_any a c l n h1 h2 s w h
  have HBD : Hid (∀ k, bads c (k + 1) = (bads c k || badNum c k)) := fun k => bads_succ c k
  have HB0 : Hid (bads c 0 = false) := rfl
  have HBO : Hid (∀ k, k < 19 → badNum c k = true → bads c 19 = true) := fun k h1 h2 => bads_of h1 h2
  have HBN : Hid (∀ k, badNum c k = (decide (c.num k ≠ 0) && !isIn (fn c.kind) (nm k))) := fun k => rfl
  have HFL : Hid ((fn c.kind).length ≤ 100) := by
    show _ ≤ _
    unfold fn
    rw [List.length_map]
    have := fi_len c.kind
    omega
  obtain ⟨m, hm⟩ : ∃ m, (fn c.kind).length = m := ⟨_, rfl⟩
  have hm0 : ¬ (m : Int) = 0 := by
    intro h
    have h2 : (fn c.kind).length = 0 := by omega
    exact hF (List.eq_nil_of_length_eq_zero h2)
  have dm : ((m : Int) == 0) = false := beq_eq_false_iff_ne.2 hm0
  have hm1 : m ≤ 100 := by have := HFL.out; omega
  obtain ⟨l1, l2, l3⟩ := hL
  have g8 : (c.gives.length : Int) ≤ 8 := by omega
  have w8 : (c.wants.length : Int) ≤ 8 := by omega
  have dg8 : decide ((c.gives.length : Int) ≤ 8) = true := decide_eq_true g8
  have dw8 : decide ((c.wants.length : Int) ≤ 8) = true := decide_eq_true w8
  have HNL : Hid (nms.length = 19) := rfl
  have v0 : c.val[0]? = some (.int .i64 c.kind) := rfl
  have hsum : (c.kind == 14) = true ∨ ((c.kind == 14) = false ∧ (c.kind != 14) = true ∧ (c.gives.length : Int) + (c.wants.length : Int) = 0 ∧ c.gives.length = 0 ∧ c.wants.length = 0) := by
    by_cases h14 : c.kind = 14
    · exact Or.inl (beq_iff_eq.2 h14)
    · have := l3 h14
      exact Or.inr ⟨beq_eq_false_iff_ne.2 h14, bne_iff_ne.2 h14, by omega, by omega, by omega⟩
  clear l3
  rcases hsum with d14 | ⟨d14, d14', s0, n10, n20⟩
  all_goals
    go_enter Tryd.func14, Tryd.ntmps14
    go_wp2_with (first
      | (go_at_call 21; (with_reducible refine (CF.out _ (HT.out.below (below_al (Below.refl _ _) _))).mono ?_); rintro e w1 ⟨a1, k1, rfl, HF1, HB1, -⟩; rw [hm]; have HS1 := Lib.hid (HST.out.below HB1.out); obtain ⟨b0, b20, b21⟩ := HS1.out.three; have HT1 := Lib.hid (HT.out.below (below2 (below_al (Below.refl _ _) _) HB1.out)))
      | (go_at_call 43; (refine (CN.out _ HT1.out).mono ?_); rintro e w2 ⟨a2, k2, rfl, HF2, HB2, -⟩; rw [HNL.out]))
    have HB12 := Lib.hid (below2 (below_al (Below.refl w.heap.size w) _) (below2 HB1.out HB2.out))
    have HS2 := Lib.hid (HS1.out.below HB2.out)
    have HF12 := Lib.hid (Strs.below HF1.out HB2.out)
    go_loopw [40] (fun i wr => ∃ k : Nat, k ≤ 19 ∧ i = .int .i64 k ∧ Hid (bads c k = false) ∧ Hid (Below w2.heap.size w2 wr)) (fun i _ => 19 - (intOf i).toNat)
    case atStart => exact ⟨0, by omega, rfl, HB0, Below.refl _ _⟩
    case round =>
      obtain ⟨k, hk, rfl, HQ, hb⟩ := hrel
      by_cases hlt : k < 19
      · obtain ⟨b2, off2, rfl, hbl2, hc2⟩ := (Strs.below HF2.out hb.out) k (by rw [HNL.out]; exact hlt)
        rw [nms_get k hlt] at hc2
        have CIk : Hid (∀ g W, Calls Tryd.prog 29 #[.pointer (some ⟨g, 0, none⟩), .string (nm k)] W fun e w' => e = .returned (.pointer (some ⟨g, 1 + k, none⟩)) ∧ W = w') := fun g W => by have := CI.out g (nm k) W; rw [place_nm hlt] at this; exact this
        have CCk : Hid (∀ W, Strs W a1 (fn c.kind) → Calls Tryd.prog 44 #[.slice a1 m k1, .string (nm k)] W fun e w' => e = .returned (.bool (isIn (fn c.kind) (nm k))) ∧ w' = W) := fun W h => CC.out a1 k1 (fn c.kind) m hm hm1 (nm k) W h
        have HFr := Lib.hid (Strs.below HF12.out hb.out)
        have cx := (HS2.out.below hb.out).num k hlt
        have hlt1 : (k : Int) < 19 := by omega
        have d1 : decide ((k : Int) < 19) = true := decide_eq_true hlt1
        have hk0 : (0 : Int) ≤ k := by omega
        have n0 : ¬ (k : Int) < 0 := by omega
        have HD := HBD.out k
        rw [HQ.out, Bool.false_or, HBN.out k] at HD
        have HBk := HBO.out k hlt
        rw [HBN.out k] at HBk
        have HD' := Lib.hid HD
        have HBk' := Lib.hid HBk
        clear HD HBk
        generalize isIn (fn c.kind) (nm k) = I at *
        generalize nm k = X at *
        by_cases hz : c.num k = 0
        · have z1 : (c.num k != 0) = false := by rw [hz]; rfl
          have HQ2 : Hid (bads c (k + 1) = false) := by show _ = _; rw [HD'.out, decide_eq_false (fun h => h hz)]; rfl
          clear HD' HBk'
          generalize c.num k = Z at *
          go_wp2_with (first
            | (go_at_call 29; (with_reducible refine (CIk.out _ _).mono ?_); rintro e w3 ⟨rfl, rfl⟩)
            | (go_at_call 44; (with_reducible refine (CCk.out _ HFr.out).mono ?_); rintro e w4 ⟨rfl, rfl⟩))
          go_roundw
          case rel => exact ⟨k + 1, by omega, by go_num, HQ2, hb⟩
          case measure => simp [intOf]; omega
        · have z1 : (c.num k != 0) = true := by rw [bne_iff_ne]; exact hz
          cases I with
          | true =>
            have HQ2 : Hid (bads c (k + 1) = false) := by show _ = _; rw [HD'.out]; simp
            clear HD' HBk'
            generalize c.num k = Z at *
            go_wp2_with (first
              | (go_at_call 29; (with_reducible refine (CIk.out _ _).mono ?_); rintro e w3 ⟨rfl, rfl⟩)
              | (go_at_call 44; (with_reducible refine (CCk.out _ HFr.out).mono ?_); rintro e w4 ⟨rfl, rfl⟩))
            go_roundw
            case rel => exact ⟨k + 1, by omega, by go_num, HQ2, hb⟩
            case measure => simp [intOf]; omega
          | false =>
            have HR : Hid (bads c 19 = true) := HBk'.out (by rw [decide_eq_true hz]; rfl)
            clear HD' HBk'
            generalize c.num k = Z at *
            go_wp2_with (first
              | (go_at_call 29; (with_reducible refine (CIk.out _ _).mono ?_); rintro e w3 ⟨rfl, rfl⟩)
              | (go_at_call 44; (with_reducible refine (CCk.out _ HFr.out).mono ?_); rintro e w4 ⟨rfl, rfl⟩))
            go_ret
            exact ⟨by rw [HR1.out HR.out]; rfl, HB12.out.trans (hb.out.mono HB12.out.size)⟩
      · have hke : k = 19 := by omega
        rw [hke] at HQ
        have n1 : ¬ (k : Int) < 19 := by omega
        have d1 : decide ((k : Int) < 19) = false := decide_eq_false n1
        clear hke
        go_wp2
        go_ret
        exact ⟨by rw [HR0.out HQ.out]; rfl, HB12.out.trans (hb.out.mono HB12.out.size)⟩
end Cmd
end Go.Proofs.YtbjlkeneeodghaaDoor
