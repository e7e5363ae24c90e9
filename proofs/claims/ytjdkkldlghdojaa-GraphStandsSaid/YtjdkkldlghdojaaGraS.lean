/- The statement on where nodes stand: the walk, its first part. -/
import Derived.Test.YtjdkkldlghdojaaGraM
namespace Go.Proofs.Ytjdkkldlghdojaa
open Go.RowKit
namespace Gra
open In (Ints IsInts IsPairs PrsK IsTwo)
/-- A need out of a pair of bytes. -/
def ndOf (N : Nat) (e : Int × Int) : Int × Int := (1 + e.1 % (N : Int), 1 + e.2 % (N : Int))
def ndsOf (N : Nat) (m : List (Int × Int)) : List (Int × Int) := m.map (ndOf N)
theorem ndsOf_snoc (N : Nat) (m : List (Int × Int)) (i : Nat) (h : i < m.length) : ndsOf N (m.take (i + 1)) = ndsOf N (m.take i) ++ [(1 + (m.getD i (0, 0)).1 % (N : Int), 1 + (m.getD i (0, 0)).2 % (N : Int))] := by
  unfold ndsOf; rw [take_snoc m i h, List.map_append]; rfl
theorem ndsOf_len (N : Nat) (m : List (Int × Int)) : (ndsOf N m).length = m.length := by unfold ndsOf; rw [List.length_map]
theorem ndsOf_in (N : Nat) (hN : 1 ≤ N) (m : List (Int × Int)) : ∀ e ∈ ndsOf N m, (1 ≤ e.1 ∧ e.1 ≤ (N : Int)) ∧ (1 ≤ e.2 ∧ e.2 ≤ (N : Int)) := by
  intro e he
  unfold ndsOf at he
  rw [List.mem_map] at he
  obtain ⟨a, _, rfl⟩ := he
  have h1 := Int.emod_nonneg a.1 (show (N : Int) ≠ 0 by omega)
  have h2 := Int.emod_lt_of_pos a.1 (show (0 : Int) < (N : Int) by omega)
  have h3 := Int.emod_nonneg a.2 (show (N : Int) ≠ 0 by omega)
  have h4 := Int.emod_lt_of_pos a.2 (show (0 : Int) < (N : Int) by omega)
  unfold ndOf
  simp only
  omega
/-- Where each node stands, when the first i are told. -/
def atTo (xs : List Int) : Nat → Nat → Int
  | 0, _ => 0
  | i + 1, y => if (y : Int) = xs.getD i 0 then ((i + 1 : Nat) : Int) else atTo xs i y
theorem atTo_zero {xs : List Int} {i X : Nat} (hi : i ≤ xs.length) (h : (X : Int) ∉ xs.take i) : atTo xs i X = 0 := by
  induction i with
  | zero => rfl
  | succ i ih =>
    rw [take_snocI xs i hi, List.mem_append, List.mem_singleton] at h
    rw [atTo, if_neg (fun e => h (.inr e)), ih (by omega) (fun e => h (.inl e))]
theorem atTo_at {xs : List Int} (hn : xs.Nodup) {i k X : Nat} (hk : k < i) (hi : i ≤ xs.length) (e : xs.getD k 0 = (X : Int)) : atTo xs i X = ((k + 1 : Nat) : Int) := by
  induction i with
  | zero => omega
  | succ i ih =>
    by_cases h : k = i
    · subst h; rw [atTo, if_pos e.symm]
    · rw [atTo, if_neg, ih (by omega) (by omega)]
      intro e2
      apply nodup_take hn (show i < xs.length by omega)
      rw [← e2, ← e]
      have hm := getD_memI (xs.take i) k (by rw [List.length_take]; omega)
      rwa [List.getD_eq_getElem?_getD, List.getElem?_take, if_pos (by omega), ← List.getD_eq_getElem?_getD] at hm
theorem at_less {xs : List Int} {N : Nat} {E : List (Int × Int)} {e : Int × Int} (hn : xs.Nodup) (hl : xs.length = N) (hA : ∀ k, k < N → ∀ e ∈ E, e.1 = xs.getD k 0 → e.2 ∈ xs.take k) (hF : ∀ x : Nat, 1 ≤ x → x ≤ N → (x : Int) ∈ xs) (he : e ∈ E)
    (hin : (1 ≤ e.1 ∧ e.1 ≤ (N : Int)) ∧ (1 ≤ e.2 ∧ e.2 ≤ (N : Int))) : atTo xs N e.2.toNat < atTo xs N e.1.toNat := by
  have hm := hF e.1.toNat (by omega) (by omega)
  rw [show ((e.1.toNat : Nat) : Int) = e.1 by omega] at hm
  obtain ⟨k, hk, e1⟩ := mem_at hm
  obtain ⟨j, hj, e2⟩ := take_mem (Nat.le_of_lt hk) (hA k (by omega) e he e1.symm)
  rw [atTo_at hn (i := N) (k := k) (X := e.1.toNat) (by omega) (by omega) (by rw [e1]; omega), atTo_at hn (i := N) (k := j) (X := e.2.toNat) (by omega) (by omega) (by rw [e2]; omega)]
  omega
theorem inW_of {x n : Int} (h1 : 1 ≤ x) (h2 : x ≤ n) : inW x n = true := by
  unfold inW
  rw [Bool.and_eq_true]
  exact ⟨decide_eq_true h1, decide_eq_true h2⟩
theorem good_in {N : Nat} {E : List (Int × Int)} (hN : N ≤ 12) (hE : E.length ≤ 40) (h : ∀ e ∈ E, (1 ≤ e.1 ∧ e.1 ≤ (N : Int)) ∧ (1 ≤ e.2 ∧ e.2 ≤ (N : Int))) : Good (N : Int) E :=
  ⟨by omega, by omega, by omega, fun j hj => by
    have hm : E.getD j (0, 0) ∈ E := by rw [List.getD_eq_getElem?_getD, List.getElem?_eq_getElem hj]; exact List.getElem_mem _
    have := h _ hm
    exact ⟨inW_of this.1.1 this.1.2, inW_of this.2.1 this.2.2⟩⟩
set_option maxRecDepth 100000 in
set_option maxHeartbeats 16000000 in
theorem stands_walk {w : World} (x : Int) (hx : (Lit.int .u8 x).wf = true) (v : Value) (m : List (Int × Int)) (hv : IsPairs .u8 w v m) :
    Calls Try.prog 6 #[.int .u8 x, v] w fun e w' => e = .returned (.bool true) ∧ Below w.heap.size w w' := by
  have hb := bounds_u8 hx
  have AW := Lib.hid awake_any
  obtain ⟨i0, hi, hz0, hz1, hz2⟩ := info_parts info23
  obtain ⟨a, cap, rfl, _, hp, hwf⟩ := hv
  have HP := Lib.hid hp
  have HWF := Lib.hid hwf
  clear hx hp hwf
  obtain ⟨N, hN⟩ : ∃ N : Nat, Hid (1 + x % 12 = (N : Int)) := ⟨(1 + x % 12).toNat, by show _ = _; omega⟩
  have HNN : Hid (1 ≤ N ∧ N ≤ 12) := ⟨by have := hN.out; omega, by have := hN.out; omega⟩
  have hN0 : (0 : Int) < (N : Int) := by have := HNN.out; omega
  have hN12 : (N : Int) < 13 := by have := HNN.out; omega
  have hN00 : ((N : Int) == 0) = false := beq_eq_false_iff_ne.2 (by omega)
  have e0 : 1 + x % 12 = (N : Int) := hN.out
  have x0 := hb.1
  have x1 := hb.2
  clear hb
  by_cases h40 : (40 : Int) < (m.length : Int)
  · have d0 : decide ((40 : Int) < (m.length : Int)) = true := decide_eq_true h40
    clear h40
    go_enter Try.func6, Try.ntmps6
    go_wp2_with (go_at_call 7; ((with_reducible refine (AW.out _).mono ?_); rintro e w1 ⟨rfl, hb1⟩; have HB1 := Lib.hid hb1; clear hb1))
    go_ret
    exact ⟨rfl, HB1.out⟩
  · have d0 : decide ((40 : Int) < (m.length : Int)) = false := decide_eq_false h40
    have hm40 : (m.length : Int) < 41 := by omega
    clear h40
    go_enter Try.func6, Try.ntmps6
    go_wp2
    clear e0 x0 x1 d0
    go_loopg [6, 7] m.length (fun gk v6 v7 wr => ∃ i : Nat, Hid (gk + i = m.length) ∧ v7 = .int .i64 (i : Int) ∧ Hid (wr.ownsRow w.heap.size 23 2 v6 i (pairVals (ndsOf N (m.take i)))) ∧ Hid (Below w.heap.size w wr))
    case atStart => exact ⟨0, (by show _ = _; omega), rfl, World.ownsRow_nil _ _ _ _, Below.refl _ _⟩
    case round =>
      obtain ⟨i, hi2, rfl, HO, HB⟩ := hrel
      by_cases hlt : i < m.length
      · obtain ⟨Gn, hGn⟩ : ∃ Gn, Hid (gk = Gn + 1) := ⟨gk - 1, by have := hi2.out; show _ = _; omega⟩
        obtain ⟨b, off, rfl, hbl, c0, c1⟩ := (HP.out.below HB.out) i hlt
        have hlt1 : (i : Int) < (m.length : Int) := by omega
        have hi00 : (0 : Int) ≤ (i : Int) := by omega
        have hw := HWF.out i hlt
        have b1 := bounds_u8 hw.1
        have b2 := bounds_u8 hw.2
        have HLS := Lib.hid (ndsOf_snoc N m i hlt)
        obtain ⟨p, hp⟩ : ∃ A, Hid ((m.getD i (0, 0)).1 = A) := ⟨_, rfl⟩
        obtain ⟨q, hq⟩ : ∃ A, Hid ((m.getD i (0, 0)).2 = A) := ⟨_, rfl⟩
        rw [hp.out] at c0 b1 HLS
        rw [hq.out] at c1 b2 HLS
        have p0 := b1.1
        have p1 := b1.2
        have q0 := b2.1
        have q1 := b2.2
        clear hw b1 b2 hlt
        have hNz : ¬ N = 0 := by have := HNN.out; omega
        have r1 := Int.emod_nonneg p (show (N : Int) ≠ 0 by omega)
        have r2 := Int.emod_lt_of_pos p hN0
        have r3 := Int.emod_nonneg q (show (N : Int) ≠ 0 by omega)
        have r4 := Int.emod_lt_of_pos q hN0
        obtain ⟨R1, ep⟩ : ∃ R1, p.tmod (N : Int) = R1 := ⟨_, rfl⟩
        obtain ⟨R2, eq⟩ : ∃ R2, q.tmod (N : Int) = R2 := ⟨_, rfl⟩
        have hR1 : p % (N : Int) = R1 := by rw [← ep, Int.tmod_eq_emod_of_nonneg p0]
        have hR2 : q % (N : Int) = R2 := by rw [← eq, Int.tmod_eq_emod_of_nonneg q0]
        rw [hR1] at r1 r2 HLS
        rw [hR2] at r3 r4 HLS
        have ewp : IntKind.i64.wrap p = p := by rw [wrapEq]; unfold wrap64; omega
        have ewq : IntKind.i64.wrap q = q := by rw [wrapEq]; unfold wrap64; omega
        have ew1 : IntKind.i64.wrap (1 + R1) = 1 + R1 := by rw [wrapEq]; unfold wrap64; omega
        have ew2 : IntKind.i64.wrap (1 + R2) = 1 + R2 := by rw [wrapEq]; unfold wrap64; omega
        obtain ⟨S1, hS1⟩ : ∃ S1, 1 + R1 = S1 := ⟨_, rfl⟩
        obtain ⟨S2, hS2⟩ : ∃ S2, 1 + R2 = S2 := ⟨_, rfl⟩
        rw [hS1, hS2] at HLS
        rw [hS1] at ew1
        rw [hS2] at ew2
        clear hR1 hR2 r1 r2 r3 r4 p0 p1 q0 q1
        have HIL : Hid (i ≤ 40) := by show _ ≤ _; omega
        go_wp2
        go_region_law ((refine step_append_lies _ (by rfl) _ _ _ (by rfl) w.heap.size 23 i0 _ 2 16 Try.underlying22 hi hz0 hz1 hz2 rfl (by omega) _ i _ (by simp [Act.eval]) ((HO.out.alloc _).drew) ⟨wr.heap.size, 0, none⟩ 1 1 [.int .i64 S1, .int .i64 S2] (by simp [Act.eval]) (by rfl) (World.news_of_block (cs := #[.int .i64 S1, .int .i64 S2]) (t := 23) (fr := (0, 0)) (heap_alloc_new wr _)) (by simp [Value.oneCell']) (by omega) (by have := HIL.out; unfold maxLen; omega) (by have := HIL.out; omega) (by have := HB.out.size; simp; omega) (wr.heap.size + 1) (by simp) ?_; intro gg cap9 w2 hown2 hgrow2 hat2 hlt2; have HO2 := Lib.hid hown2; have HB2 := Lib.hid (((below_al HB.out _).drew).grown hgrow2 (below_al HB.out _).size (Own.own_block HO.out (Nat.le_refl _))); clear hown2 hgrow2 hat2 hlt2))
        all_goals (go_wp2; go_roundg Gn)
        all_goals first
          | (have := hGn.out; omega)
          | (exact ⟨i + 1, (by have := hGn.out; have := hi2.out; show _ = _; omega), by go_num, by rw [HLS.out, pairVals_snoc]; exact HO2, HB2⟩)
      · have hie : i = m.length := by have := hi2.out; omega
        subst hie
        rw [List.take_length] at HO
        have hge : ¬ (m.length : Int) < (m.length : Int) := by omega
        obtain ⟨EL, hEL⟩ : ∃ EL, Hid (ndsOf N m = EL) := ⟨_, rfl⟩
        have HIN : Hid (∀ e ∈ EL, (1 ≤ e.1 ∧ e.1 ≤ (N : Int)) ∧ (1 ≤ e.2 ∧ e.2 ≤ (N : Int))) := by
          have h := ndsOf_in N HNN.out.1 m
          rw [hEL.out] at h
          exact h
        have hlen : EL.length = m.length := by rw [← hEL.out, ndsOf_len]
        rw [hEL.out, ← hlen] at HO
        obtain ⟨al, cl, ev, hPl⟩ := own_prs HO.out
        have HPL := Lib.hid hPl
        have HE40 : Hid (EL.length ≤ 40) := by show _ ≤ _; omega
        have hE41 : (EL.length : Int) < 41 := by omega
        rw [ev]
        have HGD : Hid (Good (N : Int) EL) := good_in HNN.out.2 HE40.out HIN.out
        have hge2 : ¬ (EL.length : Int) < (EL.length : Int) := by omega
        clear ev hPl hlt hlen hi2 HWF hge hge2
        by_cases hf : (ord N EL).length < N
        · have CO : Hid (∀ wx, Below wr.heap.size wr wx → Calls Try.prog 10 #[.int .i64 (N : Int), .slice al EL.length cl] wx fun e w' => ∃ b c, e = .returned (.tuple #[.slice b 0 c, .int .i64 9]) ∧ Hid (Below wx.heap.size wx w')) := fun wx hb => (Order_any (N : Int) al cl EL wx (HPL.out.below hb)).mono fun e w' h => by
            rw [show ordRes (N : Int) EL = ([], 9) by unfold ordRes; rw [if_pos HGD.out, Int.toNat_natCast, if_pos hf]] at h
            obtain ⟨b, c, e1, h1, h2⟩ := h
            exact ⟨b, c, e1, h2⟩
          have CD : Hid (∀ wx, Below wr.heap.size wr wx → Calls Try.prog 12 #[.int .i64 (N : Int), .slice al EL.length cl] wx fun e w' => ∃ b c, e = .returned (.tuple #[.slice b 0 c, .int .i64 9]) ∧ Hid (Below wx.heap.size wx w')) := fun wx hb => (Deep_core (N : Int) al cl EL wx (HPL.out.below hb)).mono fun e w' h => by
            rw [show deepRes (N : Int) EL = ([], 9) by unfold deepRes; rw [if_pos HGD.out, Int.toNat_natCast, if_pos hf]] at h
            obtain ⟨b, c, e1, h1, h2⟩ := h
            exact ⟨b, c, e1, h2⟩
          have CB : Hid (∀ (k : Nat) wx, 1 ≤ k → k ≤ N → Below wr.heap.size wr wx → Calls Try.prog 14 #[.int .i64 (N : Int), .slice al EL.length cl, .int .i64 (k : Int)] wx fun e w' => ∃ b c, e = .returned (.tuple #[.slice b (belTo EL (k : Int) N).length c, .int .i64 0]) ∧ Hid (Ints .i64 w' b (belTo EL (k : Int) N)) ∧ Hid (Below wx.heap.size wx w')) := fun k wx h1 h2 hb => (Below_core (N : Int) al cl EL (k : Int) wx (HPL.out.below hb)).mono fun e w' h => by
            rw [show belRes (N : Int) EL (k : Int) = (belTo EL (k : Int) N, 0) by unfold belRes; rw [if_pos ⟨HGD.out, by omega, by omega⟩, Int.toNat_natCast]] at h
            obtain ⟨b, c, e1, h1, h2⟩ := h
            exact ⟨b, c, e1, h1, h2⟩
          have CW : Hid (∀ (k : Nat) (y : Int) wx, 1 ≤ k → k ≤ N → Rch EL (k : Int) y → Below wr.heap.size wr wx → Calls Try.prog 8 #[.int .i64 (N : Int), .slice al EL.length cl, .int .i64 (k : Int), .int .i64 y] wx fun e w' => e = .returned (.tuple #[.int .i64 0, .int .i64 9]) ∧ Hid (Below wx.heap.size wx w')) := fun k y wx h1 h2 hr hb => (Ways_any (N : Int) al cl EL (k : Int) y wx (HPL.out.below hb)).mono fun e w' h => by
            have hy := rch_in HIN.out hr
            rw [show waysRes (N : Int) EL (k : Int) y = (0, 9) by unfold waysRes; rw [if_pos ⟨HGD.out, inW_of (by omega) (by omega), inW_of hy.1 hy.2⟩, Int.toNat_natCast, if_pos hf]] at h
            exact h
          have HRD : Hid (∃ x : Nat, 1 ≤ x ∧ x ≤ N ∧ Rch EL (x : Int) (x : Int)) := by
            show ∃ x : Nat, _
            apply Classical.byContradiction
            intro hc
            have := full_of HIN.out (fun x h1 h2 h3 => hc ⟨x, h1, h2, h3⟩)
            omega
          have HB00 : Hid (Below wr.heap.size wr wr) := Below.refl _ _
          clear hf
          obtain ⟨wB, rfl⟩ : ∃ wB : World, wB = wr := ⟨_, rfl⟩
          go_wp2_with (first
            | (go_at_call 10; (with_reducible refine (CO.out _ HB00.out).mono ?_); rintro e w1 ⟨ao, co, rfl, h1⟩; have HBo := Lib.hid (below2 HB00.out h1.out); clear h1)
            | (go_at_call 12; (with_reducible refine (CD.out _ HBo.out).mono ?_); rintro e wC ⟨ad, cd, rfl, h2⟩; have HBd := Lib.hid (below2 HBo.out h2.out); clear h2))
          go_loopw [12, 13] (fun v12 v13 wx => ∃ (k : Nat) (R : Bool), k ≤ N ∧ v13 = .int .i64 ((k + 1 : Nat) : Int) ∧ v12 = .bool R ∧ Hid (R = true ↔ ∃ x : Nat, 1 ≤ x ∧ x ≤ k ∧ Rch EL (x : Int) (x : Int)) ∧ Hid (Below wC.heap.size wC wx)) (fun _ v13 _ => N + 1 - (intOf v13).toNat)
          case atStart => exact ⟨0, false, by omega, rfl, rfl, ⟨fun h => (by cases h), fun ⟨x, h1, h2, _⟩ => (by omega)⟩, Below.refl _ _⟩
          case round =>
            obtain ⟨k, R, hk, rfl, rfl, HRk, HBk⟩ := hrel
            by_cases hltk : k < N
            · obtain ⟨K, hK⟩ : ∃ K : Nat, Hid (k + 1 = K) := ⟨_, rfl⟩
              have hK1 : (1 : Int) ≤ (K : Int) := by have := hK.out; omega
              have hKN : (K : Int) ≤ (N : Int) := by have := hK.out; omega
              have HKK : Hid (1 ≤ K ∧ K ≤ N ∧ k < N ∧ K = k + 1) := ⟨by omega, by omega, hltk, hK.out.symm⟩
              have HBw : Hid (Below wB.heap.size wB wr) := HBd.out.trans (HBk.out.mono HBd.out.size)
              have CBk := Lib.hid (CB.out K wr HKK.out.1 HKK.out.2.1 HBw.out)
              have HMK : Hid (∀ y, y ∈ belTo EL (K : Int) N → Rch EL (K : Int) y) := fun y hy => ((belTo_mem _ _ _ _).1 hy).2.2
              have HKM : Hid ((K : Int) ∈ belTo EL (K : Int) N ↔ Rch EL (K : Int) (K : Int)) := ⟨fun h => ((belTo_mem _ _ _ _).1 h).2.2, fun h => (belTo_mem _ _ _ _).2 ⟨hK1, hKN, h⟩⟩
              have HBL : Hid ((belTo EL (K : Int) N).length ≤ 12) := Nat.le_trans (belTo_len _ _ _) HNN.out.2
              rw [hK.out]
              generalize belTo EL (K : Int) N = bl at *
              have hbl13 : (bl.length : Int) < 13 := by have := HBL.out; omega
              clear hltk
              go_wp2_with (go_at_call 14; (with_reducible refine CBk.out.mono ?_); rintro e wD ⟨ab, cb, rfl, HIb, h3⟩; have HBD := Lib.hid (below2 HBk.out h3.out); clear h3)
              go_loopw [12, 16] (fun v12 v16 wy => ∃ (i : Nat) (R2 : Bool), i ≤ bl.length ∧ v16 = .int .i64 (i : Int) ∧ v12 = .bool R2 ∧ Hid (R2 = true ↔ R = true ∨ ∃ q, q < i ∧ bl.getD q 0 = (K : Int)) ∧ Hid (Below wD.heap.size wD wy)) (fun _ v16 _ => bl.length - (intOf v16).toNat)
              case atStart => exact ⟨0, R, by omega, rfl, rfl, ⟨fun h => .inl h, fun h => (by rcases h with h | ⟨q, h, _⟩; exact h; omega)⟩, Below.refl _ _⟩
              case round =>
                obtain ⟨i, R2, hi3, rfl, rfl, HR2, HBy⟩ := hrel
                by_cases hlti : i < bl.length
                · obtain ⟨b, off, ea, hbb, c0⟩ := (HIb.out.below HBy.out) i hlti
                  rw [ea]
                  replace ea := Lib.hid ea
                  have hlti1 : (i : Int) < (bl.length : Int) := by omega
                  have hi30 : (0 : Int) ≤ (i : Int) := by omega
                  have hm := HMK.out _ (getD_memI bl i hlti)
                  have HBx : Hid (Below wB.heap.size wB wr) := HBd.out.trans ((HBD.out.trans (HBy.out.mono HBD.out.size)).mono HBd.out.size)
                  have CWy := Lib.hid (CW.out K (bl.getD i 0) wr HKK.out.1 HKK.out.2.1 hm HBx.out)
                  have HLTI : Hid (i < bl.length) := hlti
                  have HY1 : Hid ((R2 = true ∨ bl.getD i 0 = (K : Int)) → (true = true ↔ R = true ∨ ∃ q, q < i + 1 ∧ bl.getD q 0 = (K : Int))) := fun h => ⟨fun _ => by
                    rcases h with h | h
                    · rcases HR2.out.1 h with h | ⟨q, hq, e⟩
                      · exact .inl h
                      · exact .inr ⟨q, by omega, e⟩
                    · exact .inr ⟨i, by omega, h⟩, fun _ => rfl⟩
                  have HY2 : Hid (R2 = false → ¬ bl.getD i 0 = (K : Int) → (false = true ↔ R = true ∨ ∃ q, q < i + 1 ∧ bl.getD q 0 = (K : Int))) := fun h h' => ⟨fun e => (by cases e), fun e => by
                    have h0 : ¬ (R2 = true) := by rw [h]; decide
                    exfalso
                    apply h0
                    rw [HR2.out]
                    rcases e with e | ⟨q, hq, e⟩
                    · exact .inl e
                    · by_cases e2 : q = i
                      · subst e2; exact absurd e h'
                      · exact .inr ⟨q, by omega, e⟩⟩
                  generalize bl.getD i 0 = Y at *
                  clear hm hlti hbb
                  cases R2 with
                  | true =>
                    have HY3 := Lib.hid (HY1.out (.inl rfl))
                    clear HY1 HY2
                    go_wp2_with (go_at_call 8; (with_reducible refine CWy.out.mono ?_); rintro e wE ⟨rfl, h4⟩; have HBE := Lib.hid (below2 HBy.out h4.out); clear h4)
                    go_roundw
                    case rel => exact ⟨i + 1, true, HLTI.out, by go_num, rfl, (show true = true ↔ _ from ⟨fun _ => HY3.out.1 trivial, fun _ => rfl⟩), HBE⟩
                    case measure => have := HLTI.out; simp [intOf]; omega
                  | false =>
                    by_cases g : Y = (K : Int)
                    · have dY : (Y == (K : Int)) = true := by simp [g]
                      have HY3 := Lib.hid (HY1.out (.inr g))
                      clear HY1 HY2 g
                      go_wp2_with (go_at_call 8; (with_reducible refine CWy.out.mono ?_); rintro e wE ⟨rfl, h4⟩; have HBE := Lib.hid (below2 HBy.out h4.out); clear h4)
                      go_roundw
                      case rel => exact ⟨i + 1, true, HLTI.out, by go_num, rfl, (show true = true ↔ _ from ⟨fun _ => HY3.out.1 trivial, fun _ => rfl⟩), HBE⟩
                      case measure => have := HLTI.out; simp [intOf]; omega
                    · have dY : (Y == (K : Int)) = false := beq_eq_false_iff_ne.2 g
                      have HY3 := Lib.hid (HY2.out rfl g)
                      clear HY1 HY2 g
                      go_wp2_with (go_at_call 8; (with_reducible refine CWy.out.mono ?_); rintro e wE ⟨rfl, h4⟩; have HBE := Lib.hid (below2 HBy.out h4.out); clear h4)
                      go_roundw
                      case rel => exact ⟨i + 1, false, HLTI.out, by go_num, rfl, HY3, HBE⟩
                      case measure => have := HLTI.out; simp [intOf]; omega
                · have hge3 : ¬ (i : Int) < (bl.length : Int) := by omega
                  have hie : i = bl.length := by omega
                  have HBz : Hid (Below wC.heap.size wC wr) := HBD.out.trans (HBy.out.mono HBD.out.size)
                  have HRK : Hid (R2 = true ↔ ∃ x : Nat, 1 ≤ x ∧ x ≤ K ∧ Rch EL (x : Int) (x : Int)) := by
                    show _ ↔ _
                    rw [HR2.out, HRk.out, hie]
                    constructor
                    · rintro (⟨x, h1, h2, h3⟩ | ⟨q, hq, e⟩)
                      · exact ⟨x, h1, by have := HKK.out; omega, h3⟩
                      · refine ⟨K, HKK.out.1, Nat.le_refl _, HKM.out.1 ?_⟩
                        rw [← e]; exact getD_memI bl q hq
                    · rintro ⟨x, h1, h2, h3⟩
                      by_cases e : x = K
                      · subst e
                        obtain ⟨q, hq, e⟩ := mem_at (HKM.out.2 h3)
                        exact .inr ⟨q, hq, e⟩
                      · exact .inl ⟨x, h1, by have := HKK.out; omega, h3⟩
                  clear hlti hie
                  go_wp2
                  go_roundw
                  case rel => exact ⟨K, R2, HKK.out.2.1, by go_num, rfl, HRK, HBz⟩
                  case measure => have := HKK.out; simp only [intOf]; omega
            · have hke : k = N := by omega
              subst hke
              have hgek : ¬ ((k + 1 : Nat) : Int) ≤ (k : Int) := by omega
              have hR : R = true := HRk.out.2 HRD.out
              subst hR
              have HBZ : Hid (Below w.heap.size w wr) := by
                have h0 := HB.out.size
                exact HB.out.trans ((HBd.out.trans (HBk.out.mono HBd.out.size)).mono h0)
              clear hltk
              go_wp2_with (go_at_call 7; ((with_reducible refine (AW.out _).mono ?_); rintro e w9 ⟨rfl, hb9⟩; have HB9 := Lib.hid (below2 HBZ.out hb9); clear hb9))
              go_ret
              exact ⟨rfl, HB9.out⟩
        · have hxl : (ord N EL).length = N := by have := (ordG_ok N EL N).len; unfold ord at hf ⊢; omega
          have hdl : (deepF N EL).length = N := by unfold deepF; rw [dpA_len, List.length_replicate]
          have CO : Hid (∀ wx, Below wr.heap.size wr wx → Calls Try.prog 10 #[.int .i64 (N : Int), .slice al EL.length cl] wx fun e w' => ∃ b c, e = .returned (.tuple #[.slice b N c, .int .i64 0]) ∧ Hid (Ints .i64 w' b (ord N EL)) ∧ Hid (Below wx.heap.size wx w')) := fun wx hb => (Order_any (N : Int) al cl EL wx (HPL.out.below hb)).mono fun e w' h => by
            rw [show ordRes (N : Int) EL = (ord N EL, 0) by unfold ordRes; rw [if_pos HGD.out, Int.toNat_natCast, if_neg hf]] at h
            obtain ⟨b, c, e1, h1, h2⟩ := h
            exact ⟨b, c, by rw [e1]; show Ending.returned (.tuple #[.slice b (ord N EL).length c, _]) = _; rw [hxl], h1, h2⟩
          have CD : Hid (∀ wx, Below wr.heap.size wr wx → Calls Try.prog 12 #[.int .i64 (N : Int), .slice al EL.length cl] wx fun e w' => ∃ b c, e = .returned (.tuple #[.slice b N c, .int .i64 0]) ∧ Hid (Ints .i64 w' b (deepF N EL)) ∧ Hid (Below wx.heap.size wx w')) := fun wx hb => (Deep_core (N : Int) al cl EL wx (HPL.out.below hb)).mono fun e w' h => by
            rw [show deepRes (N : Int) EL = (deepF N EL, 0) by unfold deepRes; rw [if_pos HGD.out, Int.toNat_natCast, if_neg hf]] at h
            obtain ⟨b, c, e1, h1, h2⟩ := h
            exact ⟨b, c, by rw [e1]; show Ending.returned (.tuple #[.slice b (deepF N EL).length c, _]) = _; rw [hdl], h1, h2⟩
          have CB : Hid (∀ (k : Nat) wx, 1 ≤ k → k ≤ N → Below wr.heap.size wr wx → Calls Try.prog 14 #[.int .i64 (N : Int), .slice al EL.length cl, .int .i64 (k : Int)] wx fun e w' => ∃ b c, e = .returned (.tuple #[.slice b (belTo EL (k : Int) N).length c, .int .i64 0]) ∧ Hid (Ints .i64 w' b (belTo EL (k : Int) N)) ∧ Hid (Below wx.heap.size wx w')) := fun k wx h1 h2 hb => (Below_core (N : Int) al cl EL (k : Int) wx (HPL.out.below hb)).mono fun e w' h => by
            rw [show belRes (N : Int) EL (k : Int) = (belTo EL (k : Int) N, 0) by unfold belRes; rw [if_pos ⟨HGD.out, by omega, by omega⟩, Int.toNat_natCast]] at h
            obtain ⟨b, c, e1, h1, h2⟩ := h
            exact ⟨b, c, e1, h1, h2⟩
          have CW : Hid (∀ (k : Nat) (y : Int) wx, 1 ≤ k → k ≤ N → Rch EL (k : Int) y → Below wr.heap.size wr wx → Calls Try.prog 8 #[.int .i64 (N : Int), .slice al EL.length cl, .int .i64 (k : Int), .int .i64 y] wx fun e w' => e = .returned (.tuple #[.int .i64 (waysV N EL (k : Int) y), .int .i64 0]) ∧ Hid (Below wx.heap.size wx w')) := fun k y wx h1 h2 hr hb => (Ways_any (N : Int) al cl EL (k : Int) y wx (HPL.out.below hb)).mono fun e w' h => by
            have hy := rch_in HIN.out hr
            rw [show waysRes (N : Int) EL (k : Int) y = (waysV N EL (k : Int) y, 0) by unfold waysRes; rw [if_pos ⟨HGD.out, inW_of (by omega) (by omega), inW_of hy.1 hy.2⟩, Int.toNat_natCast, if_neg hf, if_pos (ways_le HE40.out HNN.out.2 _)]] at h
            exact h
          have HNR : Hid (∀ x : Nat, 1 ≤ x → x ≤ N → ¬ Rch EL (x : Int) (x : Int)) := fun x h1 h2 => no_round hf h1 h2
          have HPO : Hid (∀ (k : Nat) (y : Int), 1 ≤ k → k ≤ N → Rch EL (k : Int) y → 1 ≤ waysV N EL (k : Int) y) := fun k y h1 h2 hr => ways_pos (ordG_ok N EL N).nodup (ordG_ahead N EL N) (full_mem (ordG_ok N EL N) (by unfold ord at hf; omega) k h1 h2) hr
          have HDP : Hid (∀ e ∈ EL, (deepF N EL).getD (e.2 - 1).toNat 0 < (deepF N EL).getD (e.1 - 1).toNat 0) := fun e he => deeper hf HIN.out he
          have HXR : Hid (∀ k, k < N → 1 ≤ (ord N EL).getD k 0 ∧ (ord N EL).getD k 0 ≤ (N : Int)) := fun k hk => ord_in (by rw [hxl]; exact hk)
          have HXA : Hid (∀ k, k < N → ∀ e ∈ EL, e.1 = (ord N EL).getD k 0 → e.2 ∈ (ord N EL).take k) := fun k hk => ordG_ahead N EL N k (by unfold ord at hxl; omega)
          have HXN : Hid (ord N EL).Nodup := (ordG_ok N EL N).nodup
          have HXF : Hid (∀ x : Nat, 1 ≤ x → x ≤ N → (x : Int) ∈ ord N EL) := fun x h1 h2 => full_mem (ordG_ok N EL N) (by unfold ord at hf; omega) x h1 h2
          have HXL : Hid ((ord N EL).length = N ∧ (deepF N EL).length = N) := ⟨hxl, hdl⟩
          have HB00 : Hid (Below wr.heap.size wr wr) := Below.refl _ _
          clear hf hxl hdl
          generalize ord N EL = xs at *
          generalize deepF N EL = ds at *
          obtain ⟨wB, rfl⟩ : ∃ wB : World, wB = wr := ⟨_, rfl⟩
          go_wp2_with (first
            | (go_at_call 10; (with_reducible refine (CO.out _ HB00.out).mono ?_); rintro e w1 ⟨ao, co, rfl, HIo, h1⟩; have HBo := Lib.hid (below2 HB00.out h1.out); clear h1)
            | (go_at_call 12; (with_reducible refine (CD.out _ HBo.out).mono ?_); rintro e wC ⟨ad, cd, rfl, HId, h2⟩; have HBd := Lib.hid (below2 HBo.out h2.out); replace HIo := Lib.hid (HIo.out.below h2.out); clear h2))
          go_loopw [12, 13] (fun v12 v13 wx => ∃ k : Nat, k ≤ N ∧ v13 = .int .i64 ((k + 1 : Nat) : Int) ∧ v12 = .bool false ∧ Hid (Below wC.heap.size wC wx)) (fun _ v13 _ => N + 1 - (intOf v13).toNat)
          case atStart => exact ⟨0, by omega, rfl, rfl, Below.refl _ _⟩
          case round =>
            obtain ⟨k, hk, rfl, rfl, HBk⟩ := hrel
            by_cases hltk : k < N
            · obtain ⟨K, hK⟩ : ∃ K : Nat, Hid (k + 1 = K) := ⟨_, rfl⟩
              have hK1 : (1 : Int) ≤ (K : Int) := by have := hK.out; omega
              have hKN : (K : Int) ≤ (N : Int) := by have := hK.out; omega
              have HKK : Hid (1 ≤ K ∧ K ≤ N ∧ k < N ∧ K = k + 1) := ⟨by omega, by omega, hltk, hK.out.symm⟩
              have HBw : Hid (Below wB.heap.size wB wr) := HBd.out.trans (HBk.out.mono HBd.out.size)
              have CBk := Lib.hid (CB.out K wr HKK.out.1 HKK.out.2.1 HBw.out)
              have HMK : Hid (∀ y, y ∈ belTo EL (K : Int) N → Rch EL (K : Int) y ∧ y ≠ (K : Int)) := fun y hy => by
                rw [belTo_mem] at hy
                refine ⟨hy.2.2, fun e => ?_⟩
                rw [e] at hy
                exact HNR.out K HKK.out.1 HKK.out.2.1 hy.2.2
              have HBL : Hid ((belTo EL (K : Int) N).length ≤ 12) := Nat.le_trans (belTo_len _ _ _) HNN.out.2
              rw [hK.out]
              generalize belTo EL (K : Int) N = bl at *
              have hbl13 : (bl.length : Int) < 13 := by have := HBL.out; omega
              clear hltk
              go_wp2_with (go_at_call 14; (with_reducible refine CBk.out.mono ?_); rintro e wD ⟨ab, cb, rfl, HIb, h3⟩; have HBD := Lib.hid (below2 HBk.out h3.out); clear h3)
              go_loopw [12, 16] (fun v12 v16 wy => ∃ i : Nat, i ≤ bl.length ∧ v16 = .int .i64 (i : Int) ∧ v12 = .bool false ∧ Hid (Below wD.heap.size wD wy)) (fun _ v16 _ => bl.length - (intOf v16).toNat)
              case atStart => exact ⟨0, by omega, rfl, rfl, Below.refl _ _⟩
              case round =>
                obtain ⟨i, hi3, rfl, rfl, HBy⟩ := hrel
                by_cases hlti : i < bl.length
                · obtain ⟨b, off, ea, hbb, c0⟩ := (HIb.out.below HBy.out) i hlti
                  rw [ea]
                  replace ea := Lib.hid ea
                  have hlti1 : (i : Int) < (bl.length : Int) := by omega
                  have hi30 : (0 : Int) ≤ (i : Int) := by omega
                  have hm := HMK.out _ (getD_memI bl i hlti)
                  have HBx : Hid (Below wB.heap.size wB wr) := HBd.out.trans ((HBD.out.trans (HBy.out.mono HBD.out.size)).mono HBd.out.size)
                  have CWy := Lib.hid (CW.out K (bl.getD i 0) wr HKK.out.1 HKK.out.2.1 hm.1 HBx.out)
                  have hw1 := HPO.out K (bl.getD i 0) HKK.out.1 HKK.out.2.1 hm.1
                  have HLTI : Hid (i < bl.length) := hlti
                  have hne := hm.2
                  generalize bl.getD i 0 = Y at *
                  have dY : (Y == (K : Int)) = false := beq_eq_false_iff_ne.2 hne
                  generalize waysV N EL (K : Int) Y = WV at *
                  have dW : decide (WV < 1) = false := decide_eq_false (by omega)
                  clear hm hw1 hne hlti hbb
                  go_wp2_with (go_at_call 8; (with_reducible refine CWy.out.mono ?_); rintro e wE ⟨rfl, h4⟩; have HBE := Lib.hid (below2 HBy.out h4.out); clear h4)
                  go_roundw
                  case rel => exact ⟨i + 1, HLTI.out, by go_num, rfl, HBE⟩
                  case measure => have := HLTI.out; simp [intOf]; omega
                · have hge3 : ¬ (i : Int) < (bl.length : Int) := by omega
                  have HBz : Hid (Below wC.heap.size wC wr) := HBD.out.trans (HBy.out.mono HBD.out.size)
                  clear hlti
                  go_wp2
                  go_roundw
                  case rel => exact ⟨K, HKK.out.2.1, by go_num, rfl, HBz⟩
                  case measure => have := HKK.out; simp only [intOf]; omega
            · have hke : k = N := by omega
              subst hke
              have hgek : ¬ ((k + 1 : Nat) : Int) ≤ (k : Int) := by omega
              clear hltk
              obtain ⟨M, hM⟩ : ∃ M : Nat, Hid (k + 1 = M) := ⟨_, rfl⟩
              have hMI : (k : Int) + 1 = (M : Int) := by have := hM.out; omega
              have hM14 : (M : Int) < 14 := by omega
              have hMk : (k : Int) < (M : Int) := by omega
              have hmk := fun w => run_mkI M (by omega) w
              have HRM := Lib.hid (World.rowIs_made wr (.int .i64 0) M 3)
              have HBM : Hid (Below wr.heap.size wr (wr.alloc (.cells (madeCells #[.int .i64 0] M) 3))) := (Below.refl _ _).alloc (Nat.le_refl _) _
              have HIo2 := Lib.hid (HIo.out.below HBk.out)
              have HId2 := Lib.hid (HId.out.below HBk.out)
              have HBw2 : Hid (Below wB.heap.size wB wr) := HBd.out.trans (HBk.out.mono HBd.out.size)
              have HPL2 := Lib.hid (HPL.out.below HBw2.out)
              clear HIo HId HPL CO CD CB CW
              obtain ⟨wF, rfl⟩ : ∃ wF : World, wF = wr := ⟨_, rfl⟩
              go_wp2
              clear hmk
              generalize wF.alloc (.cells (madeCells #[.int .i64 0] M) 3) = wm at *
              go_loopw [20] (fun v20 wx => ∃ i : Nat, i ≤ k ∧ v20 = .int .i64 (i : Int) ∧ Hid (wx.rowIs wF.heap.size 3 M (fun y => .int .i64 (atTo xs i y))) ∧ Hid (Below wF.heap.size wF wx)) (fun v20 _ => k - (intOf v20).toNat)
              case atStart => exact ⟨0, by omega, rfl, HRM, HBM⟩
              case round =>
                obtain ⟨i, hi4, rfl, HRw, HBf⟩ := hrel
                by_cases hlti : i < k
                · obtain ⟨b, off, ea, hbb, c0⟩ := (HIo2.out.below HBf.out) i (by rw [HXL.out.1]; exact hlti)
                  rw [ea]
                  replace ea := Lib.hid ea
                  have hlti1 : (i : Int) < (k : Int) := by omega
                  have hi40 : (0 : Int) ≤ (i : Int) := by omega
                  have hxr := HXR.out i hlti
                  have hnt := nodup_take HXN.out (k := i) (by have := HXL.out.1; omega)
                  have HAS : Hid (∀ y : Nat, atTo xs (i + 1) y = if (y : Int) = xs.getD i 0 then ((i + 1 : Nat) : Int) else atTo xs i y) := fun y => rfl
                  obtain ⟨X, hX⟩ : ∃ X : Nat, Hid (xs.getD i 0 = (X : Int)) := ⟨(xs.getD i 0).toNat, by show _ = _; omega⟩
                  rw [hX.out] at c0 hxr hnt HAS
                  have hz := atTo_zero (by have := HXL.out.1; omega) hnt
                  have cat := HRw.out.cell (i := X) (by omega)
                  have fat := HRw.out.frozen X
                  rw [hz] at cat
                  have hx1 : (0 : Int) ≤ (X : Int) := by omega
                  have hx2 : (X : Int) < (M : Int) := by omega
                  have dd1 : decide ((X : Int) < 1) = false := decide_eq_false (by omega)
                  have dd2 : decide ((k : Int) < (X : Int)) = false := decide_eq_false (by omega)
                  have HLTI : Hid (i < k) := hlti
                  have HRs : Hid (∀ v : Int, v = ((i + 1 : Nat) : Int) → (wr.setCell ⟨wF.heap.size, X, none⟩ (.int .i64 v)).rowIs wF.heap.size 3 M (fun y => .int .i64 (atTo xs (i + 1) y))) := fun v hv => (HRw.out.set X _).congr fun y _ => by
                    rw [HAS.out y, hv]
                    by_cases e : y = X
                    · rw [if_pos e, if_pos (by omega)]
                    · rw [if_neg e, if_neg (by omega)]
                  clear hz hxr hlti hbb hnt
                  go_wp2
                  go_roundw
                  case rel => exact ⟨i + 1, HLTI.out, by go_num, HRs.out _ (by omega), HBf.out.setCell (Nat.le_refl _) _⟩
                  case measure => have := HLTI.out; simp [intOf]; omega
                · have hie : i = k := by omega
                  subst hie
                  have hge4 : ¬ (i : Int) < (i : Int) := by omega
                  have HRf : Hid (wr.rowIs wF.heap.size 3 M (fun y => .int .i64 (atTo xs i y))) := HRw.out
                  clear hlti hge4
                  obtain ⟨wG, rfl⟩ : ∃ wG : World, wG = wr := ⟨_, rfl⟩
                  go_wp2
                  go_loopw [21] (fun v21 wx => ∃ j : Nat, j ≤ EL.length ∧ v21 = .int .i64 (j : Int) ∧ Hid (wx.rowIs wF.heap.size 3 M (fun y => .int .i64 (atTo xs i y))) ∧ Hid (Below wF.heap.size wF wx)) (fun v21 _ => EL.length - (intOf v21).toNat)
                  case atStart => exact ⟨0, by omega, rfl, HRf, HBf⟩
                  case round =>
                    obtain ⟨j, hj, rfl, HRj, HBj⟩ := hrel
                    by_cases hltj : j < EL.length
                    · obtain ⟨b, off, ea, hbb, c0, c1⟩ := (HPL2.out.below HBj.out) j hltj
                      rw [ea]
                      replace ea := Lib.hid ea
                      have hltj1 : (j : Int) < (EL.length : Int) := by omega
                      have hj0 : (0 : Int) ≤ (j : Int) := by omega
                      have hem : EL.getD j (0, 0) ∈ EL := by rw [List.getD_eq_getElem?_getD, List.getElem?_eq_getElem hltj]; exact List.getElem_mem _
                      have hin := HIN.out _ hem
                      have hdp := HDP.out _ hem
                      have HAT : Hid (atTo xs i (EL.getD j (0, 0)).2.toNat < atTo xs i (EL.getD j (0, 0)).1.toNat) := at_less HXN.out (by have := HXL.out.1; omega) (fun k hk => HXA.out k hk) (fun x h1 h2 => HXF.out x h1 h2) hem hin
                      have hat := HAT.out
                      obtain ⟨X, hX⟩ : ∃ X : Nat, Hid ((EL.getD j (0, 0)).1 = (X : Int)) := ⟨((EL.getD j (0, 0)).1).toNat, by show _ = _; omega⟩
                      obtain ⟨Y, hY⟩ : ∃ Y : Nat, Hid ((EL.getD j (0, 0)).2 = (Y : Int)) := ⟨((EL.getD j (0, 0)).2).toNat, by show _ = _; omega⟩
                      rw [hX.out, hY.out] at hin hdp hat
                      rw [hX.out] at c0
                      rw [hY.out] at c1
                      rw [Int.toNat_natCast, Int.toNat_natCast] at hat
                      obtain ⟨x1, hx1'⟩ : ∃ x1 : Nat, Hid (X = x1 + 1) := ⟨X - 1, by show _ = _; omega⟩
                      obtain ⟨y1, hy1'⟩ : ∃ y1 : Nat, Hid (Y = y1 + 1) := ⟨Y - 1, by show _ = _; omega⟩
                      have ex := hx1'.out
                      have ey := hy1'.out
                      have e1 : IntKind.i64.wrap ((X : Int) - 1) = (x1 : Int) := by rw [wrapEq]; unfold wrap64; omega
                      have e2 : (X : Int) - 1 = (x1 : Int) := by omega
                      have e3 : IntKind.i64.wrap ((Y : Int) - 1) = (y1 : Int) := by rw [wrapEq]; unfold wrap64; omega
                      have e4 : (Y : Int) - 1 = (y1 : Int) := by omega
                      rw [e2, e4, Int.toNat_natCast, Int.toNat_natCast] at hdp
                      obtain ⟨bd, od, ed, hbd, cd1⟩ := (HId2.out.below HBj.out) x1 (by rw [HXL.out.2]; omega)
                      obtain ⟨bd', od', ed', _, cd2⟩ := (HId2.out.below HBj.out) y1 (by rw [HXL.out.2]; omega)
                      rw [ed] at ed'
                      cases ed'
                      rw [ed]
                      replace ed := Lib.hid ed
                      have ca1 := HRj.out.cell (i := X) (by omega)
                      have ca2 := HRj.out.cell (i := Y) (by omega)
                      generalize ds.getD x1 0 = D1 at *
                      generalize ds.getD y1 0 = D2 at *
                      generalize atTo xs i X = A1 at *
                      generalize atTo xs i Y = A2 at *
                      have dA : decide (A1 ≤ A2) = false := decide_eq_false (by omega)
                      have dD : decide (D1 ≤ D2) = false := decide_eq_false (by omega)
                      have nX0 : (0 : Int) ≤ (X : Int) := by omega
                      have nX1 : (X : Int) < (M : Int) := by omega
                      have nY0 : (0 : Int) ≤ (Y : Int) := by omega
                      have nY1 : (Y : Int) < (M : Int) := by omega
                      have n1 : (0 : Int) ≤ (x1 : Int) := by omega
                      have n2 : (x1 : Int) < (i : Int) := by omega
                      have n3 : (0 : Int) ≤ (y1 : Int) := by omega
                      have n4 : (y1 : Int) < (i : Int) := by omega
                      have HLTJ : Hid (j < EL.length) := hltj
                      clear hat hdp hin hem hx1' hy1' ex ey hltj hbb hbd
                      go_wp2
                      go_quiet (fail)
                      go_wp2
                      go_roundw
                      case rel => exact ⟨j + 1, HLTJ.out, by go_num, HRj, below_dN HBj.out _⟩
                      case measure => have := HLTJ.out; simp [intOf]; omega
                    · have hgej : ¬ (j : Int) < (EL.length : Int) := by omega
                      have HBZ : Hid (Below w.heap.size w wr) := by
                        have h1 := HBw2.out.size
                        have h0 := HB.out.size
                        exact HB.out.trans ((HBw2.out.mono h0).trans (HBj.out.mono (by omega)))
                      clear hltj
                      go_wp2_with (go_at_call 7; ((with_reducible refine (AW.out _).mono ?_); rintro e w9 ⟨rfl, hb9⟩; have HB9 := Lib.hid (below2 HBZ.out hb9); clear hb9))
                      go_ret
                      exact ⟨rfl, HB9.out⟩
end Gra
end Go.Proofs.Ytjdkkldlghdojaa
