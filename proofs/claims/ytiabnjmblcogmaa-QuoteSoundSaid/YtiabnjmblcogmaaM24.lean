/- Texts put together: QuoQ5, QuoQ6. -/
import Derived.Test.YtiabnjmblcogmaaM23
set_option linter.all false
section
namespace Go.Proofs.Ytiabnjmblcogmaa
open Go.RowKit
namespace Quo
open Rec (Stk stkVals)
open Pen (below2 below_al below_dN)
/-- What is told of being over behind the first jobs. -/
def ovTo (b : List Bool) (L : List JobIn) (D : JobIn → Bool) : Nat → List Bool
  | 0 => b
  | i + 1 => (ovTo b L D i).set (L.getD i noj).blue (D (L.getD i noj))
def overD (o : List Stk) (now : Int) (j : JobIn) : Bool := decide (endJ o j ≤ now)
/-- An index at which a job is over. -/
def IdxRes (D : JobIn → Bool) (L : List JobIn) (m : Nat) (R : Nat → World → Prop) (e : Ending) (w' : World) : Prop := ∃ i, i < m ∧ e = .returned (.int .i64 (i : Int)) ∧ D (L.getD i noj) = true ∧ (∀ j, j < i → D (L.getD j noj) = false) ∧ R i w'
set_option maxRecDepth 100000 in
set_option maxHeartbeats 4000000 in
theorem indexD_any (base g m cap n : Nat) (hn : n ≤ 4096) (hm : m ≤ 4096) (L : List JobIn) (gx gn gv go gb bs : Nat) (o : List Stk) (now : Int) (b : List Bool) (w : World) (hJ : JR base g m cap n L w) (hb : ∀ i, i < m → (L.getD i noj).blue < n) (hO : OV gx gn gv go gb bs n o now b w) (hg : g ≠ gb) (hD : ∃ k, k < m ∧ overD o now (L.getD k noj) = true) :
    Calls Try.prog 21 #[.slice (some ⟨g, 0, none⟩) m cap, .func (.func 30) #[] #[.pointer (some ⟨gx, 0, none⟩), .pointer (some ⟨gn, 0, none⟩), .pointer (some ⟨gv, 0, none⟩)]] w (IdxRes (overD o now) L m fun i w' => Hid (OV gx gn gv go gb bs n o now (ovTo b L (overD o now) (i + 1)) w') ∧ Hid (w.grownBy w' (some gb))) := by
  have HJ := Lib.hid hJ
  have CP : Hid (∀ W k B, k < m → OV gx gn gv go gb bs n o now B W → Calls Try.prog 30 #[.agg #[.int .i64 ((L.getD k noj).blue : Int), .slice (L.getD k noj).wa (L.getD k noj).waits.length (L.getD k noj).wcap, .int .i64 (L.getD k noj).time], .pointer (some ⟨gx, 0, none⟩), .pointer (some ⟨gn, 0, none⟩), .pointer (some ⟨gv, 0, none⟩)] W fun e w' => e = .returned (.bool (overD o now (L.getD k noj))) ∧ Hid (OV gx gn gv go gb bs n o now (B.set (L.getD k noj).blue (overD o now (L.getD k noj))) w') ∧ Hid (W.grownBy w' (some gb))) := fun W k B hk h => p3_any gx gn gv go gb bs n hn o now B (L.getD k noj) (hb k hk) W h
  have HO0 := Lib.hid hO
  have HD := Lib.hid hD
  generalize overD o now = D at *
  have HOV : Hid (∀ i, ovTo b L D (i + 1) = (ovTo b L D i).set (L.getD i noj).blue (D (L.getD i noj))) := fun i => rfl
  have HOV0 : Hid (ovTo b L D 0 = b) := rfl
  generalize ovTo b L D = OT at *
  obtain ⟨RR, hRR⟩ : ∃ RR : Nat → World → Prop, Hid ((fun (i : Nat) (w' : World) => Hid (OV gx gn gv go gb bs n o now (OT (i + 1)) w') ∧ Hid (w.grownBy w' (some gb))) = RR) := ⟨_, rfl⟩
  have HRR : Hid (∀ i w', Hid (OV gx gn gv go gb bs n o now (OT (i + 1)) w') → Hid (w.grownBy w' (some gb)) → RR i w') := fun i w' h1 h2 => by rw [← hRR.out]; exact ⟨h1, h2⟩
  rw [hRR.out]
  clear hJ hb hO hD hRR
  go_enter Try.func21, Try.ntmps21
  go_wp2
  go_loopw [8] (fun i wr => ∃ k : Nat, k ≤ m ∧ i = .int .i64 k ∧ Hid (∀ j, j < k → D (L.getD j noj) = false) ∧ Hid (OV gx gn gv go gb bs n o now (OT k) wr) ∧ Hid (w.grownBy wr (some gb))) (fun i _ => m - (intOf i).toNat)
  case atStart => exact ⟨0, by omega, rfl, fun j hj => absurd hj (Nat.not_lt_zero j), by rw [HOV0.out]; exact HO0.out, ⟨rfl, rfl, rfl, Nat.le_refl _, fun _ _ _ => rfl⟩⟩
  case round =>
    obtain ⟨k, hk, rfl, HM, HO, HG⟩ := hrel
    by_cases hlt : k < m
    · obtain ⟨hgl, x0, x1, x2⟩ := HJ.out.cells hlt
      have z0 := cell_grown HG.out hgl (fun e => hg (Option.some.inj e).symm) x0
      have z1 := cell_grown HG.out hgl (fun e => hg (Option.some.inj e).symm) x1
      have z2 := cell_grown HG.out hgl (fun e => hg (Option.some.inj e).symm) x2
      have hlt1 : (k : Int) < (m : Int) := by omega
      have CC := Lib.hid (fun W h => CP.out W k (OT k) hlt h)
      rw [← HOV.out k] at CC
      have HNk : Hid (D (L.getD k noj) = false → ∀ j, j < k + 1 → D (L.getD j noj) = false) := fun h j hj => by
        by_cases hjk : j = k
        · rw [hjk]; exact h
        · exact HM.out j (by omega)
      have HEx : Hid (∀ w' B, D (L.getD k noj) = B → B = true → Hid (OV gx gn gv go gb bs n o now (OT (k + 1)) w') → Hid (w.grownBy w' (some gb)) → IdxRes D L m RR (.returned (.int .i64 (k : Int))) w') := fun w' B h1 h2 h3 h4 => ⟨k, hlt, rfl, by rw [h1]; exact h2, HM.out, HRR.out k w' h3 h4⟩
      clear x0 x1 x2
      generalize hDk : D (L.getD k noj) = B at *
      generalize L.getD k noj = T at *
      obtain ⟨bl, wa, wc, ws, t⟩ := T
      dsimp only at z0 z1 z2 CC
      cases B
      · replace HNk := Lib.hid (HNk.out rfl)
        clear HEx hDk
        go_wp2_with (go_at_call 30; ((with_reducible refine (CC.out _ HO.out).mono ?_); rintro e w1 ⟨rfl, HO1, HG1⟩; have HG2 := Lib.hid (grw_trans HG.out HG1.out)))
        go_roundw
        case rel => exact ⟨k + 1, by omega, by go_num, HNk.out, HO1.out, HG2.out⟩
        case measure => simp [intOf]; omega
      · clear HNk
        replace HEx := Lib.hid (fun w' => HEx.out w' true rfl rfl)
        clear hDk
        go_wp2_with (go_at_call 30; ((with_reducible refine (CC.out _ HO.out).mono ?_); rintro e w1 ⟨rfl, HO1, HG1⟩; have HG2 := Lib.hid (grw_trans HG.out HG1.out)))
        go_ret
        exact HEx.out _ HO1 HG2
    · exfalso
      obtain ⟨q, hq, hqd⟩ := HD.out
      rw [HM.out q (by omega)] at hqd
      cases hqd
theorem jobVals_set (Z : List JobIn) (k : Nat) (x : JobIn) (hk : k < Z.length) : jobVals (Z.set k x) = (((jobVals Z).set (k * 3) (.int .i64 (x.blue : Int))).set (k * 3 + 1) (.slice x.wa x.waits.length x.wcap)).set (k * 3 + 2) (.int .i64 x.time) := by
  induction Z generalizing k with
  | nil => simp at hk
  | cons a Z ih =>
    cases k with
    | zero => rfl
    | succ k =>
      have h2 := ih k (by simpa using hk)
      have e1 : jobVals ((a :: Z).set (k + 1) x) = Value.int .i64 (a.blue : Int) :: .slice a.wa a.waits.length a.wcap :: Value.int .i64 a.time :: jobVals (Z.set k x) := rfl
      have e2 : jobVals (a :: Z) = Value.int .i64 (a.blue : Int) :: .slice a.wa a.waits.length a.wcap :: Value.int .i64 a.time :: jobVals Z := rfl
      rw [e1, e2, h2, show (k + 1) * 3 = k * 3 + 1 + 1 + 1 by omega]
      rfl
/-- Those that are kept. -/
def kpJ (D : JobIn → Bool) (L : List JobIn) : List JobIn := L.filter fun j => !D j
theorem kpJ_snoc (D : JobIn → Bool) (L : List JobIn) (j : Nat) (hj : j < L.length) : kpJ D (L.take (j + 1)) = kpJ D (L.take j) ++ if D (L.getD j noj) = true then [] else [L.getD j noj] := by
  unfold kpJ
  have e : L.getD j noj = L[j] := by rw [List.getD_eq_getElem?_getD, List.getElem?_eq_getElem hj]; rfl
  rw [List.take_succ_eq_append_getElem hj, List.filter_append, e]
  congr 1
  cases h : D L[j] <;> simp [h]
theorem kpJ_none (D : JobIn → Bool) (L : List JobIn) (i : Nat) (hi : i ≤ L.length) (h : ∀ j, j < i → D (L.getD j noj) = false) : kpJ D (L.take i) = L.take i := by
  unfold kpJ
  rw [List.filter_eq_self]
  intro x hx
  obtain ⟨j, hj, e⟩ := List.getElem_of_mem hx
  rw [List.length_take] at hj
  have := h j (by omega)
  rw [List.getD_eq_getElem?_getD, List.getElem?_eq_getElem (by omega)] at this
  rw [List.getElem_take] at e
  rw [e] at this
  simp [show D x = false from this]
/-- But two blocks nothing has changed. -/
structure G2 (g gb : Nat) (w w' : World) : Prop where
  os : w'.os = w.os
  tape : w'.tape = w.tape
  output : w'.output = w.output
  size : w.heap.size ≤ w'.heap.size
  block : ∀ k, k < w.heap.size → k ≠ g → k ≠ gb → w'.heap[k]? = w.heap[k]?
theorem G2.refl (g gb : Nat) (w : World) : G2 g gb w w := ⟨rfl, rfl, rfl, Nat.le_refl _, fun _ _ _ _ => rfl⟩
theorem G2.one {g gb : Nat} {w a c : World} (h : G2 g gb w a) (h2 : a.grownBy c (some g)) : G2 g gb w c := ⟨h2.os.trans h.os, h2.tape.trans h.tape, h2.output.trans h.output, Nat.le_trans h.size h2.size, fun k hk h3 h4 => (h2.block k (Nat.lt_of_lt_of_le hk h.size) fun e => h3 (Option.some.inj e)).trans (h.block k hk h3 h4)⟩
theorem G2.two {g gb : Nat} {w a c : World} (h : G2 g gb w a) (h2 : a.grownBy c (some gb)) : G2 g gb w c := ⟨h2.os.trans h.os, h2.tape.trans h.tape, h2.output.trans h.output, Nat.le_trans h.size h2.size, fun k hk h3 h4 => (h2.block k (Nat.lt_of_lt_of_le hk h.size) fun e => h4 (Option.some.inj e)).trans (h.block k hk h3 h4)⟩
theorem G2.bel {g gb : Nat} {w a c : World} (h : G2 g gb w a) (h2 : Below a.heap.size a c) : G2 g gb w c := ⟨h2.os.trans h.os, h2.tape.trans h.tape, h2.output.trans h.output, Nat.le_trans h.size h2.size, fun k hk h3 h4 => (h2.block k (Nat.lt_of_lt_of_le hk h.size)).trans (h.block k hk h3 h4)⟩
end Quo
end Go.Proofs.Ytiabnjmblcogmaa
end
section
namespace Go.Proofs.Ytiabnjmblcogmaa
open Go.RowKit
namespace Quo
open Rec (Stk stkVals)
open Pen (below2 below_al below_dN)
set_option maxRecDepth 100000 in
set_option maxHeartbeats 8000000 in
theorem deleteD_any (base g m cap n : Nat) (hn : n ≤ 4096) (hm : m ≤ 4096) (L : List JobIn) (gx gn gv go gb bs : Nat) (o : List Stk) (now : Int) (b : List Bool) (w : World) (hJ : JR base g m cap n L w) (hb : ∀ i, i < m → (L.getD i noj).blue < n) (hO : OV gx gn gv go gb bs n o now b w) (hg : g ≠ gb) (hg0 : g ≠ gx) (hg1 : g ≠ gn) (hg2 : g ≠ gv) (hg3 : g ≠ go) (hD : ∃ k, k < m ∧ overD o now (L.getD k noj) = true) :
    Calls Try.prog 29 #[.slice (some ⟨g, 0, none⟩) m cap, .func (.func 30) #[] #[.pointer (some ⟨gx, 0, none⟩), .pointer (some ⟨gn, 0, none⟩), .pointer (some ⟨gv, 0, none⟩)]] w fun e w' => e = .returned (.slice (some ⟨g, 0, none⟩) (kpJ (overD o now) L).length cap) ∧ Hid (w'.ownsRow base 62 3 (.slice (some ⟨g, 0, none⟩) (kpJ (overD o now) L).length cap) (kpJ (overD o now) L).length (jobVals (kpJ (overD o now) L))) ∧ Hid (OV gx gn gv go gb bs n o now (ovTo b L (overD o now) m) w') ∧ Hid (G2 g gb w w') := by
  have HI := Lib.hid (indexD_any base g m cap n hn hm L gx gn gv go gb bs o now b w hJ hb hO hg hD)
  have HJ := Lib.hid hJ
  have hgl := (hJ.own.lt g rfl).2
  have CP : Hid (∀ W k B, k < m → OV gx gn gv go gb bs n o now B W → Calls Try.prog 30 #[.agg #[.int .i64 ((L.getD k noj).blue : Int), .slice (L.getD k noj).wa (L.getD k noj).waits.length (L.getD k noj).wcap, .int .i64 (L.getD k noj).time], .pointer (some ⟨gx, 0, none⟩), .pointer (some ⟨gn, 0, none⟩), .pointer (some ⟨gv, 0, none⟩)] W fun e w' => e = .returned (.bool (overD o now (L.getD k noj))) ∧ Hid (OV gx gn gv go gb bs n o now (B.set (L.getD k noj).blue (overD o now (L.getD k noj))) w') ∧ Hid (W.grownBy w' (some gb))) := fun W k B hk h => p3_any gx gn gv go gb bs n hn o now B (L.getD k noj) (hb k hk) W h
  obtain ⟨hc1, hc2⟩ := own_cap hJ.own
  unfold maxLen at hc2
  have HL : Hid (L.length = m) := hJ.len
  generalize overD o now = D at *
  have HOV : Hid (∀ i, ovTo b L D (i + 1) = (ovTo b L D i).set (L.getD i noj).blue (D (L.getD i noj))) := fun i => rfl
  generalize ovTo b L D = OT at *
  have HKS : Hid (∀ j, j < m → kpJ D (L.take (j + 1)) = kpJ D (L.take j) ++ if D (L.getD j noj) = true then [] else [L.getD j noj]) := fun j hj => kpJ_snoc D L j (by rw [HL.out]; exact hj)
  have HKN : Hid (∀ i, i ≤ m → (∀ j, j < i → D (L.getD j noj) = false) → kpJ D (L.take i) = L.take i) := fun i hi h => kpJ_none D L i (by rw [HL.out]; exact hi) h
  have HKm : Hid (kpJ D (L.take m) = kpJ D L) := by show _ = _; rw [List.take_of_length_le (by rw [HL.out]; exact Nat.le_refl _)]
  obtain ⟨KP, hKP⟩ : ∃ KP : Nat → List JobIn, Hid ((fun j => kpJ D (L.take j)) = KP) := ⟨_, rfl⟩
  have hKP2 : ∀ j, kpJ D (L.take j) = KP j := fun j => congrFun hKP.out j
  simp only [hKP2] at HKS HKN HKm
  rw [← HKm.out]
  clear hJ hb hO hD hKP2 hKP HKm
  go_enter Try.func29, Try.ntmps29
  go_wp2_with (go_at_call 21; ((with_reducible refine HI.out.mono ?_); rintro e w1 ⟨i, him, rfl, hDi, hDn, HO1, HG1⟩; have hi4 : i < 4096 := (by omega); have HDi := Lib.hid hDi; have HDn := Lib.hid hDn; clear hDi hDn; have di : ((i : Int) == -1) = false := beq_eq_false_iff_ne.2 (by omega)))
  clear HI
  go_loopw [5, 6] (fun v5 v6 wr => ∃ (j : Nat) (Z : List JobIn), j ≤ m ∧ v6 = .int .i64 (j : Int) ∧ v5 = .int .i64 ((KP j).length : Int) ∧ Hid (Z.length = m ∧ (KP j).length < j ∧ Z.take (KP j).length = KP j ∧ (∀ q, j ≤ q → Z.getD q noj = L.getD q noj)) ∧ Hid (wr.ownsRow base 62 3 (.slice (some ⟨g, 0, none⟩) m cap) m (jobVals Z)) ∧ Hid (OV gx gn gv go gb bs n o now (OT j) wr) ∧ Hid (G2 g gb w wr)) (fun _ v6 _ => m - (intOf v6).toNat)
  case atStart =>
    have e1 : KP (i + 1) = L.take i := by
      rw [HKS.out i him, if_pos HDi.out, List.append_nil]
      exact HKN.out i (by omega) HDn.out
    have e2 : (KP (i + 1)).length = i := by rw [e1, List.length_take, HL.out]; omega
    exact ⟨i + 1, L, by omega, by go_num, by rw [e2], ⟨HL.out, by omega, by rw [e2, e1], fun _ _ => rfl⟩, HJ.out.own.kept HG1.out (.inr fun e => hg (Option.some.inj e)), HO1.out, (G2.refl g gb w).two HG1.out⟩
  case round =>
    obtain ⟨j, Z, hj, rfl, rfl, HZ, HOr, HOV1, HG⟩ := hrel
    have HJZ : Hid (JR base g m cap n Z wr) := ⟨HOr.out, HZ.out.1⟩
    have hgr := (HOr.out.lt g rfl).2
    by_cases hlt : j < m
    · have hlt1 : (j : Int) < (m : Int) := by omega
      have hj0 : (0 : Int) ≤ (j : Int) := by omega
      obtain ⟨-, x0, x1, x2⟩ := HJZ.out.cells hlt
      rw [HZ.out.2.2.2 j (Nat.le_refl _)] at x0 x1 x2
      have HK := Lib.hid (HKS.out j hlt)
      have CC := Lib.hid (fun W h => CP.out W j (OT j) hlt h)
      rw [← HOV.out j] at CC
      obtain ⟨T, hT⟩ : ∃ T : JobIn, Hid (L.getD j noj = T) := ⟨_, rfl⟩
      rw [hT.out] at CC x0 x1 x2 HK
      have hb1 := below_al (Below.refl wr.heap.size wr) (.cells #[.int .i64 (T.blue : Int), .slice T.wa T.waits.length T.wcap, .int .i64 T.time] 62)
      have HOa := Lib.hid (HOV1.out.below hb1)
      have HOw := Lib.hid (Own.own_below HOr.out hb1)
      have HGa := Lib.hid (HG.out.bel hb1)
      have hgbr := HOV1.out.row.lt
      have hK1 := HZ.out.2.1
      cases hDT : D T with
      | true =>
        rw [hDT] at CC HK
        rw [if_pos rfl, List.append_nil] at HK
        have HZ2 : Hid (Z.length = m ∧ (KP (j + 1)).length < j + 1 ∧ Z.take (KP (j + 1)).length = KP (j + 1) ∧ (∀ q, j + 1 ≤ q → Z.getD q noj = L.getD q noj)) := by
          show _ ∧ _
          rw [HK.out]
          exact ⟨HZ.out.1, by omega, HZ.out.2.2.1, fun q hq => HZ.out.2.2.2 q (by omega)⟩
        obtain ⟨tb, ta, tc, tw, tt⟩ := T
        dsimp only at *
        go_wp2_with (go_at_call 30; ((with_reducible refine (CC.out _ HOa.out).mono ?_); rintro e w3 ⟨rfl, HO3, HG3⟩; have HOw3 := Lib.hid (HOw.out.kept HG3.out (.inr fun e => hg (Option.some.inj e))); have HG4 := Lib.hid (HGa.out.two HG3.out)))
        go_roundw
        case rel => exact ⟨j + 1, Z, by omega, by go_num, by rw [HK.out], HZ2, HOw3.out, HO3.out, HG4.out⟩
        case measure => simp [intOf]; omega
      | false =>
        rw [hDT] at CC HK
        rw [if_neg (by simp)] at HK
        obtain ⟨K, hK⟩ : ∃ K : Nat, Hid ((KP j).length = K) := ⟨_, rfl⟩
        have HZ2 : Hid ((Z.set K T).length = m ∧ (KP (j + 1)).length < j + 1 ∧ (Z.set K T).take (KP (j + 1)).length = KP (j + 1) ∧ (∀ q, j + 1 ≤ q → (Z.set K T).getD q noj = L.getD q noj)) := by
          have hKl := hK.out
          have hz := HZ.out
          have e3 : (KP j ++ [T]).length = K + 1 := by rw [List.length_append, hKl]; rfl
          show _ ∧ _
          rw [HK.out, e3]
          refine ⟨by rw [List.length_set]; exact hz.1, by omega, ?_, fun q hq => ?_⟩
          · have hz3 := hz.2.2.1
            rw [hKl] at hz3
            have h3 : K < (Z.set K T).length := by rw [List.length_set, hz.1]; omega
            rw [List.take_succ_eq_append_getElem h3, List.take_set, List.set_eq_of_length_le (by rw [List.length_take]; omega), hz3]
            simp
          · have h4 : (Z.set K T).getD q noj = Z.getD q noj := by
              simp only [List.getD_eq_getElem?_getD]
              rw [List.getElem?_set_ne (by omega)]
            rw [h4]
            exact hz.2.2.2 q (by omega)
        have hKm : K < m := by have := hK.out; omega
        have hK0 : (0 : Int) ≤ (K : Int) := by omega
        have hKi : (K : Int) < (m : Int) := by omega
        have hK20 : (K : Int) ≤ 4096 := by omega
        have HL2 : Hid ((KP (j + 1)).length = K + 1) := by show _ = _; rw [HK.out, List.length_append, hK.out]; rfl
        have HZl : Hid (Z.length = m) := HZ.out.1
        rw [hK.out]
        obtain ⟨tb, ta, tc, tw, tt⟩ := T
        dsimp only at *
        clear hK1
        have hc0 : Hid ((wr.alloc (.cells #[.int .i64 (tb : Int), .slice ta tw.length tc, .int .i64 tt] 62)).cell? ⟨wr.heap.size, 0, none⟩ = some (.int .i64 (tb : Int))) := by show _ = _; go_simp
        have hc1 : Hid ((wr.alloc (.cells #[.int .i64 (tb : Int), .slice ta tw.length tc, .int .i64 tt] 62)).cell? ⟨wr.heap.size, 1, none⟩ = some (.slice ta tw.length tc)) := by show _ = _; go_simp
        have hc2 : Hid ((wr.alloc (.cells #[.int .i64 (tb : Int), .slice ta tw.length tc, .int .i64 tt] 62)).cell? ⟨wr.heap.size, 2, none⟩ = some (.int .i64 tt)) := by show _ = _; go_simp
        have hcs : Hid (wr.heap.size < (wr.alloc (.cells #[.int .i64 (tb : Int), .slice ta tw.length tc, .int .i64 tt] 62)).heap.size) := by show _ < _; simp
        have hne : Hid ((some gb : Option Nat) ≠ some wr.heap.size) := fun e => by have := Option.some.inj e; omega
        go_upto_region 9 with (go_at_call 30; ((with_reducible refine (CC.out _ HOa.out).mono ?_); rintro e w3 ⟨rfl, HO3, HG3⟩; have HOw3 := Lib.hid (HOw.out.kept HG3.out (.inr fun e => hg (Option.some.inj e))); have HG4 := Lib.hid (HGa.out.two HG3.out)))
        have t0 := cell_grown HG3.out hcs.out hne.out hc0.out
        have t1 := cell_grown HG3.out hcs.out hne.out hc1.out
        have t2 := cell_grown HG3.out hcs.out hne.out hc2.out
        have tl := Nat.lt_of_lt_of_le hcs.out HG3.out.size
        have HJ3 : Hid (JR base g m cap n Z w3) := ⟨HOw3.out, HZl.out⟩
        obtain ⟨hg3l, y0, y1, y2⟩ := HJ3.out.cells hKm
        have f0 := HOw3.out.frozenAt (K * 3)
        have f1 := HOw3.out.frozenAt (K * 3 + 1)
        have f2 := HOw3.out.frozenAt (K * 3 + 2)
        have HOz : Hid ((((w3.setCell ⟨g, K * 3, none⟩ (.int .i64 (tb : Int))).setCell ⟨g, K * 3 + 1, none⟩ (.slice ta tw.length tc)).setCell ⟨g, K * 3 + 2, none⟩ (.int .i64 tt)).ownsRow base 62 3 (.slice (some ⟨g, 0, none⟩) m cap) m (jobVals (Z.set K ⟨tb, ta, tc, tw, tt⟩))) := by
          show World.ownsRow _ _ _ _ _ _ _
          rw [jobVals_set _ _ _ (by rw [HZl.out]; exact hKm)]
          exact (((HOw3.out.stored (K * 3) _).1.stored (K * 3 + 1) _).1.stored (K * 3 + 2) _).1
        have HGz := Lib.hid (grw_trans (grw_trans (grw_set w3 g (K * 3) (.int .i64 (tb : Int))) (grw_set _ g (K * 3 + 1) (.slice ta tw.length tc))) (grw_set _ g (K * 3 + 2) (.int .i64 tt)))
        have HOy := Lib.hid (HO3.out.grown HGz.out hg0 hg1 hg2 hg3 hg)
        have HGy := Lib.hid (HG4.out.one HGz.out)
        have hgw : ¬ g = wr.heap.size := by omega
        go_wp2
        go_roundw
        case rel => exact ⟨j + 1, Z.set K ⟨tb, ta, tc, tw, tt⟩, by omega, by go_num, by rw [HL2.out]; go_num, HZ2, HOz.out, HOy.out, HGy.out⟩
        case measure => simp [intOf]; omega
    · have hje : m = j := by omega
      subst hje
      have hz := HZ.out
      obtain ⟨K, hK⟩ : ∃ K : Nat, Hid ((KP m).length = K) := ⟨_, rfl⟩
      have hKn : K < m := by have := hK.out; omega
      rw [hK.out] at hz ⊢
      have hcl : ∀ ty, (Builtin.clear_ #[56] ty #[.slice (some ⟨g, K * 3, none⟩) (m - K) (cap - K)]).run Try.prog wr = .ok (.tuple #[]) (wr.setCells g (K * 3) (Builtin.zeroCells #[.int .i64 0, .slice none 0 0, .int .i64 0] (m - K)).toList) := fun ty => run_clearJ wr ty g (K * 3) (m - K) (cap - K) (by omega) (fun q hq => own_isSome HOr.out _ (by omega)) (fun q hq => HOr.out.frozenAt _)
      have HE : Hid ((wr.setCells g (K * 3) (Builtin.zeroCells #[.int .i64 0, .slice none 0 0, .int .i64 0] (m - K)).toList).ownsRow base 62 3 (.slice (some ⟨g, 0, none⟩) K cap) K (jobVals (KP m))) := by
        have := own_clear HOr.out K (by omega) (Builtin.zeroCells #[.int .i64 0, .slice none 0 0, .int .i64 0] (m - K)).toList
        rw [jobVals_take, hz.2.2.1] at this
        exact this
      have HGs := grw_sets g (Builtin.zeroCells #[.int .i64 0, .slice none 0 0, .int .i64 0] (m - K)).toList wr (K * 3)
      have HO9 := Lib.hid (HOV1.out.grown HGs hg0 hg1 hg2 hg3 hg)
      have HG9 := Lib.hid (HG.out.one HGs)
      have hK0 : (0 : Int) ≤ (K : Int) := by omega
      have hK1 : (K : Int) ≤ (m : Int) := by omega
      have hK2 : (K : Int) ≤ (cap : Int) := by omega
      have hK3 : ¬ cap = K := by omega
      have hK4 : K ≤ cap := by omega
      have hlt1 : ¬ (m : Int) < (m : Int) := by omega
      clear hz HGs
      go_wp2_with (simp only [hcl])
      go_ret
      exact ⟨by rw [hK.out]; rfl, by rw [hK.out]; exact HE, HO9, HG9⟩
end Quo
end Go.Proofs.Ytiabnjmblcogmaa
end
