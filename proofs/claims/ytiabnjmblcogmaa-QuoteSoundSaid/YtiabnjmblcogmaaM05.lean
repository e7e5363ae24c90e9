/- Texts put together: GraO, GraO2, GraW2. -/
import Derived.Test.YtiabnjmblcogmaaM04
import Derived.BigQuiet
import Derived.Deep.DeepMust
set_option linter.all false
section
namespace Go.Proofs.Ytiabnjmblcogmaa
open Go.RowKit
namespace Gra
open In (Ints IsInts)
/-- A web's cells, the open needs told anew. -/
def CO (C : Nat → Value) (O : Int → Int) (j : Nat) : Value := if 66 ≤ j ∧ j ≤ 130 then .int .i64 (O ((j : Int) - 66)) else C j
structure OrdW (W : World) (g : Nat) (C : Nat → Value) (O : Int → Int) (wr : World) : Prop where
  row : wr.rowIs g 118 196 (CO C O)
  grow : W.grownBy wr (some g)
namespace OrdW
variable {W wr : World} {g : Nat} {C : Nat → Value} {O : Int → Int}
theorem lt (h : OrdW W g C O wr) : g < wr.heap.size := h.row.lt
theorem grown (h : OrdW W g C O wr) (hg : g < W.heap.size) {b : World} {row : Option Nat} (hb : wr.grownBy b row) (hr : ∀ k, row = some k → W.heap.size ≤ k) : OrdW W g C O b := by
  refine ⟨h.row.of_block (hb.block g h.lt (fun e => by have := hr g e.symm; omega)), ?_⟩
  exact ⟨hb.os.trans h.grow.os, hb.tape.trans h.grow.tape, hb.output.trans h.grow.output, Nat.le_trans h.grow.size hb.size, fun k hk hne => (hb.block k (Nat.lt_of_lt_of_le hk h.grow.size) (fun e => by have := hr k e.symm; omega)).trans (h.grow.block k hk hne)⟩
theorem alloc (h : OrdW W g C O wr) (o : Obj) : OrdW W g C O (wr.alloc o) :=
  ⟨h.row.alloc o, ⟨h.grow.os, h.grow.tape, h.grow.output, Nat.le_trans h.grow.size (by simp), fun k hk hne => (Below.heap_alloc _ _ _ (Nat.lt_of_lt_of_le hk h.grow.size)).trans (h.grow.block k hk hne)⟩⟩
theorem drew (h : OrdW W g C O wr) : OrdW W g C O wr.drew := ⟨h.row.drew, ⟨h.grow.os, h.grow.tape, h.grow.output, h.grow.size, h.grow.block⟩⟩
theorem drewN (h : OrdW W g C O wr) (q : Nat) : OrdW W g C O (wr.drewN q) := ⟨h.row, ⟨h.grow.os, h.grow.tape, h.grow.output, h.grow.size, h.grow.block⟩⟩
theorem setO (h : OrdW W g C O wr) (x : Nat) (hx : x ≤ 64) (v : Int) : OrdW W g C (fun y => if y = (x : Int) then v else O y) (wr.setCell ⟨g, 66 + x, none⟩ (.int .i64 v)) := by
  refine ⟨(h.row.set _ _).congr fun i hi => ?_, grw_trans h.grow (grw_set _ _ _ _)⟩
  unfold CO
  by_cases e : i = 66 + x
  · rw [if_pos e, if_pos (by omega)]
    show _ = Value.int .i64 (if _ then _ else _)
    rw [if_pos (by omega)]
  · rw [if_neg e]
    by_cases e2 : 66 ≤ i ∧ i ≤ 130
    · rw [if_pos e2, if_pos e2]
      show _ = Value.int .i64 (if _ then _ else _)
      rw [if_neg (by omega)]
    · rw [if_neg e2, if_neg e2]
theorem congr (h : OrdW W g C O wr) {O' : Int → Int} (e : ∀ x, O' x = O x) : OrdW W g C O' wr := by
  rw [show O' = O from funext e]; exact h
end OrdW
theorem Web.start {W : World} {B g : Nat} {n : Int} {R : Nat → List Int} {OW : Nat → Int} {C : Nat → Value} (h : Web W B g n R OW C) {O : Int → Int} (e : ∀ x : Nat, x ≤ 64 → OW x = O (x : Int)) : OrdW W g C O W := by
  refine ⟨h.row.congr fun i hi => ?_, grw_refl _ _⟩
  unfold CO
  split
  · rw [show (i : Int) - 66 = ((i - 66 : Nat) : Int) by omega, ← e (i - 66) (by omega), ← h.cO (i - 66) (by omega)]
    congr 1; omega
  · rfl
theorem Web.back {W wr : World} {B g : Nat} {n : Int} {R : Nat → List Int} {OW : Nat → Int} {C : Nat → Value} (h : Web W B g n R OW C) {O : Int → Int} (ho : OrdW W g C O wr) : Web wr B g n R (fun x => O (x : Int)) (CO C O) := by
  have hC : ∀ i, isRow i → CO C O i = C i := fun i hi => by unfold isRow at hi; unfold CO; rw [if_neg (by omega)]
  refine ⟨ho.row, h.lo, ?_, fun x hx => ?_, fun i hi => ?_, fun i hi => ?_, fun i j hi hj hij => ?_⟩
  · unfold CO; rw [if_neg (by omega)]; exact h.c0
  · unfold CO; rw [if_pos (by omega)]; congr 2; omega
  · rw [hC i hi]
    have h1 := h.own i hi
    refine ⟨h1.1, ?_⟩
    rcases h1.2 with h0 | ⟨g', cap, cur, hv, hb, hg, r⟩
    · exact .inl h0
    · refine .inr ⟨g', cap, cur, hv, hb, ?_, r⟩
      exact (ho.grow.block g' (Array.getElem?_eq_some_iff.1 hg).1 (fun e => h.ne i hi (by rw [hv]; exact e))).trans hg
  · rw [hC i hi]; exact h.ne i hi
  · rw [hC i hi, hC j hj]; exact h.ap i j hi hj hij
theorem RF_nds (E : List (Int × Int)) (x : Nat) (h : x ≤ 64) : RF E (1 + x) = ndsF E (x : Int) := by
  unfold RF; rw [if_pos (by omega), show ((1 + x : Nat) : Int) - 1 = (x : Int) by omega]
theorem RF_usr (E : List (Int × Int)) (x : Nat) : RF E (131 + x) = usrP E (x : Int) := by
  unfold RF; rw [if_neg (by omega), show ((131 + x : Nat) : Int) - 131 = (x : Int) by omega]; rfl
/-- The cells of a web that an order has begun on. -/
structure OrdC (W : World) (g : Nat) (n : Int) (E : List (Int × Int)) (C : Nat → Value) : Prop where
  lt : g < W.heap.size
  c0 : C 0 = .int .i64 n
  own : ∀ i, isRow i → W.ownsRow 0 3 1 (C i) (RF E i).length ((RF E i).map (Value.int .i64))
  ne : ∀ i, isRow i → (C i).ownBlock ≠ some g
theorem Web.ordC {W : World} {B g : Nat} {n : Int} {E : List (Int × Int)} {OW : Nat → Int} {C : Nat → Value} (h : Web W B g n (RF E) OW C) : OrdC W g n E C := by
  refine ⟨h.row.lt, h.c0, fun i hi => ?_, h.ne⟩
  have h1 := h.own i hi
  refine ⟨h1.1, ?_⟩
  rcases h1.2 with h0 | ⟨g', cap, cur, hv, hb, r⟩
  · exact .inl h0
  · exact .inr ⟨g', cap, cur, hv, Nat.zero_le _, r⟩
namespace OrdC
variable {W wr : World} {g : Nat} {n : Int} {E : List (Int × Int)} {C : Nat → Value} {O : Int → Int}
theorem cell0 (h : OrdC W g n E C) (ho : OrdW W g C O wr) : wr.cell? ⟨g, 0, none⟩ = some (.int .i64 n) := by
  rw [ho.row.cell (by decide), show CO C O 0 = C 0 from rfl, h.c0]
theorem cellO (_h : OrdC W g n E C) (ho : OrdW W g C O wr) (x : Nat) (hx : x ≤ 64) : wr.cell? ⟨g, 66 + x, none⟩ = some (.int .i64 (O (x : Int))) := by
  rw [ho.row.cell (by omega)]; unfold CO; rw [if_pos (by omega)]; congr 3; omega
theorem cellR (_h : OrdC W g n E C) (ho : OrdW W g C O wr) {i : Nat} (hi : isRow i) : wr.cell? ⟨g, i, none⟩ = some (C i) := by
  unfold isRow at hi
  rw [ho.row.cell (by omega)]; unfold CO; rw [if_neg (by omega)]
theorem ints (h : OrdC W g n E C) (ho : OrdW W g C O wr) {i : Nat} (hi : isRow i) : ∃ a cap, C i = .slice a (RF E i).length cap ∧ Ints .i64 wr a (RF E i) ∧ ∀ b off, a = some ⟨b, off, none⟩ → b < W.heap.size := by
  rcases (h.own i hi).2 with ⟨e, h0⟩ | ⟨g', cap, cur, hv, hb, hg, r1, r2, r3, r4⟩
  · exact ⟨none, 0, by rw [e, h0], fun j hj => by omega, fun b off e => by cases e⟩
  · have hlt := (Array.getElem?_eq_some_iff.1 hg).1
    refine ⟨some ⟨g', 0, none⟩, cap, hv, ?_, fun b off e => by cases e; exact hlt⟩
    have hown := h.own i hi
    rw [hv] at hown
    have hr : RowAt wr g' ((RF E i).map (Value.int .i64)) := (RowAt.of_own hown).of_block (ho.grow.block g' hlt (fun e => h.ne i hi (by rw [hv]; exact e)))
    exact hr.ints .i64 _ rfl
theorem ints2 (h : OrdC W g n E C) (ho : OrdW W g C O wr) {i : Nat} (hi : isRow i) {a : Option Addr} {m cap : Nat} (hc : C i = .slice a m cap) : Ints .i64 wr a (RF E i) := by
  obtain ⟨a', cap', e, h1, _⟩ := h.ints ho hi
  rw [hc] at e
  cases e
  exact h1
end OrdC
/-- What order answers. -/
def OrderOut (W : World) (g n : Nat) (E : List (Int × Int)) (C : Nat → Value) (e : Ending) (w' : World) : Prop :=
  ∃ v O, e = .returned v ∧ w'.ownsRow W.heap.size 3 1 v (ord n E).length ((ord n E).map (Value.int .i64)) ∧ OrdW W g C O w'
theorem own_slice {w : World} {base : Nat} {e : TypeId} {v : Value} {n : Nat} {xs : List Value} (h : w.ownsRow base e 1 v n xs) : ∃ a cap, v = .slice a n cap := by
  rcases h.2 with ⟨e, h0⟩ | ⟨g', cap, cur, hv, _⟩
  · exact ⟨none, 0, by rw [e, h0]⟩
  · exact ⟨_, cap, hv⟩
theorem own_keep {w w' : World} {base : Nat} {e : TypeId} {v : Value} {n : Nat} {xs : List Value} (h : w.ownsRow base e 1 v n xs) (k : ∀ g, v.ownBlock = some g → w'.heap[g]? = w.heap[g]?) : w'.ownsRow base e 1 v n xs := by
  refine ⟨h.1, ?_⟩
  rcases h.2 with h0 | ⟨g, cap, cur, rfl, h1, hg, h2⟩
  · exact .inl h0
  · exact .inr ⟨g, cap, cur, rfl, h1, (k g rfl).trans hg, h2⟩
theorem cell_new2 (w : World) (a : Addr) (u x : Value) (t : TypeId) : ((w.setCell a u).alloc (.cells #[x] t)).cell? ⟨w.heap.size, 0, none⟩ = some x := by
  have := Own.cell_new (w.setCell a u) x t
  rwa [show (w.setCell a u).heap.size = w.heap.size by simp [World.setCell]] at this
theorem apart_len {g n m cap cap' : Nat} {u : Value} (h : Own.Apart (.slice (some ⟨g, 0, none⟩) n cap) u) : Own.Apart (.slice (some ⟨g, 0, none⟩) m cap') u := h
theorem inv_congr {n : Nat} {out Q : List Int} {O O' : Int → Int} (h : Inv n out Q O) (e : ∀ x, O' x = O x) : Inv n out Q O' := by
  rw [show O' = O from funext e]; exact h
theorem usrP_mem {E : List (Int × Int)} {x : Int} {i : Nat} (hi : i < (usrP E x).length) : (usrP E x).getD i 0 ∈ usrP E x := by
  rw [List.getD_eq_getElem?_getD, List.getElem?_eq_getElem hi]; exact List.getElem_mem _
theorem usrP_in {E : List (Int × Int)} {x u : Int} (h : u ∈ usrP E x) : ∃ e ∈ E, e.1 = u := by
  unfold usrP at h
  rw [List.mem_map] at h
  obtain ⟨e, he, rfl⟩ := h
  exact ⟨e, (List.mem_filter.1 he).1, rfl⟩
end Gra
end Go.Proofs.Ytiabnjmblcogmaa
end
section
namespace Go.Proofs.Ytiabnjmblcogmaa
open Go.RowKit
namespace Gra
open In (Ints IsInts)
set_option maxRecDepth 100000 in
set_option maxHeartbeats 8000000 in
theorem order_any (g n : Nat) (E : List (Int × Int)) (C : Nat → Value) (W : World) (hn : n ≤ 64) (hE : E.length ≤ 256) (hr : ∀ e ∈ E, (1 ≤ e.1 ∧ e.1 ≤ (n : Int)) ∧ (1 ≤ e.2 ∧ e.2 ≤ (n : Int))) (hC : OrdC W g (n : Int) E C) (hW : OrdW W g C (cnt E []) W) :
    Calls Try.prog 95 #[.pointer (some ⟨g, 0, none⟩)] W (OrderOut W g n E C) := by
  have HC := Lib.hid hC
  have HR := Lib.hid hr
  have HW0 := Lib.hid hW
  have HN : Hid (n ≤ 64 ∧ E.length ≤ 256) := ⟨hn, hE⟩
  obtain ⟨i0, hi, hz0, hz1, hz2⟩ := info_parts info3
  have hgS := hC.lt
  clear hC hr hW
  go_enter Try.func95, Try.ntmps95
  go_wp2
  go_loopw [3, 5] (fun v3 v5 wr => ∃ k : Nat, k ≤ n ∧ v5 = .int .i64 ((k + 1 : Nat) : Int) ∧ Hid (wr.ownsRow W.heap.size 3 1 v3 (frees (cnt E []) k).length ((frees (cnt E []) k).map (Value.int .i64))) ∧ Hid (OrdW W g C (cnt E []) wr)) (fun _ v5 _ => n + 1 - (intOf v5).toNat)
  case atStart => exact ⟨0, by omega, rfl, World.ownsRow_nil _ _ _ _, HW0⟩
  case round =>
    obtain ⟨k, hk, rfl, HO, HWr⟩ := hrel
    have c0 := HC.out.cell0 HWr.out
    have hsz := HWr.out.grow.size
    by_cases hlt : k + 1 ≤ n
    · have hlt1 : ((k + 1 : Nat) : Int) ≤ (n : Int) := by omega
      have cO := HC.out.cellO HWr.out (k + 1) (by omega)
      have HF : Hid (frees (cnt E []) (k + 1) = if cnt E [] ((k + 1 : Nat) : Int) = 0 then frees (cnt E []) k ++ [((k + 1 : Nat) : Int)] else frees (cnt E []) k) := rfl
      have HFL : Hid ((frees (cnt E []) k).length ≤ 64) := Nat.le_trans (frees_len _ _) (by omega)
      obtain ⟨T, hT⟩ : ∃ T, Hid (cnt E [] ((k + 1 : Nat) : Int) = T) := ⟨_, rfl⟩
      obtain ⟨K, hK⟩ : ∃ K : Nat, Hid (k + 1 = K) := ⟨_, rfl⟩
      have b0 : (0 : Int) ≤ (K : Int) := by omega
      have b1 : (K : Int) < 65 := by have := hK.out; omega
      rw [hT.out, hK.out] at HF
      rw [hT.out, hK.out] at cO
      rw [hK.out] at hlt1 hlt ⊢
      by_cases h0 : T = 0
      · have d0 : (T == 0) = true := by simp [h0]
        rw [if_pos h0] at HF
        clear h0
        go_wp2_with (at_builtin; refine Own.list_one rfl (.tmp 24) (.tmp 26) 29 rfl W.heap.size 3 i0 _ 8 Try.underlying29 hi hz0 hz1 hz2 rfl _ _ _ rfl _ _ _ rfl (HO.out.alloc _) (Own.cell_new _ _ _) rfl ?h1 ?h2 ?h3 ?_; (case h1 => have := HFL.out; unfold maxLen; omega); (case h2 => have := HFL.out; omega); (case h3 => simp; omega); intro v3' w2 hown2 hgrow2; have HW2 := Lib.hid ((HWr.out.alloc _).grown hgS hgrow2 (Own.own_block HO.out (Nat.le_refl _))); have HO2 := Lib.hid hown2; clear hown2 hgrow2)
        go_roundw
        case rel => exact ⟨K, hlt, by go_num, by rw [HF.out, List.map_append, List.length_append]; exact HO2.out, HW2⟩
        case measure => simp [intOf]; omega
      · have d0 : (T == 0) = false := beq_eq_false_iff_ne.2 h0
        rw [if_neg h0] at HF
        clear h0
        go_wp2
        go_roundw
        case rel => exact ⟨K, hlt, by go_num, by rw [HF.out]; exact HO, HWr⟩
        case measure => simp [intOf]; omega
    · have hke : n = k := by omega
      subst hke
      have hge : ¬ ((n + 1 : Nat) : Int) ≤ (n : Int) := by omega
      have HI : Hid ((ordG n E 0).length = 0 ∧ Inv n (ordG n E 0) (frees (cnt E []) n) (cnt E (ordG n E 0))) := ⟨rfl, inv_first n E⟩
      clear hlt
      go_wp2
      generalize frees (cnt E []) n = Q0 at *
      clear c0 hsz
      go_loopg [3, 4] n (fun gk v3 v4 wr => ∃ (j : Nat) (Q : List Int), gk + j = n ∧ Hid ((ordG n E j).length = j ∧ Inv n (ordG n E j) Q (cnt E (ordG n E j))) ∧ Hid (wr.ownsRow W.heap.size 3 1 v3 Q.length (Q.map (Value.int .i64))) ∧ Hid (wr.ownsRow W.heap.size 3 1 v4 (ordG n E j).length ((ordG n E j).map (Value.int .i64))) ∧ Hid (Own.Apart v3 v4) ∧ Hid (OrdW W g C (cnt E (ordG n E j)) wr))
      case atStart => exact ⟨0, Q0, by omega, HI, HO, World.ownsRow_nil _ _ _ _, Own.Apart.symm (.inl rfl), HWr⟩
      case round =>
        obtain ⟨G0, rfl⟩ : ∃ G0 : Nat, G0 = gk := ⟨_, rfl⟩
        obtain ⟨j, Q, hj, HJ, HO3, HO4, HAp, HWo⟩ := hrel
        by_cases hq : 0 < Q.length
        · obtain ⟨g3, cap3, e3, hg3, hl3⟩ := HO3.out.form hq
          rw [e3] at HO3 HAp ⊢
          clear e3
          have hpk := HJ.out.2.pick hq
          have hrg := HJ.out.2.range _ hpk.2
          have hql := HJ.out.2.len
          have HGO : Hid (pick n E (ordG n E j) ≠ 0) := by show _ ≠ _; rw [hpk.1]; omega
          have HPP := Lib.hid (pick_pos HGO.out)
          have HST := Lib.hid (inv_start HJ.out.2 hpk.2)
          have HOG := Lib.hid (ordG_go HGO.out)
          have HOK := Lib.hid (ordG_ok n E j)
          rw [hpk.1] at HOG HPP
          have hqi : (0 : Int) < (Q.length : Int) := by omega
          have HM : Hid (mnTo Q (Q.length - 1) ∈ Q) := hpk.2
          have hpl := hpk.1
          obtain ⟨X, hX⟩ : ∃ X : Nat, Hid (mnTo Q (Q.length - 1) = (X : Int)) := ⟨(mnTo Q (Q.length - 1)).toNat, by show _ = _; omega⟩
          have CM : Hid (∀ (w : World), Ints .i64 w (some ⟨g3, 0, none⟩) Q → _) := fun w hw => min_any (some ⟨g3, 0, none⟩) cap3 Q hq (by omega) w hw
          rw [hX.out] at HST HOG HPP HM hrg
          have CM2 : Hid (∀ (w : World), Ints .i64 w (some ⟨g3, 0, none⟩) Q → Calls Try.prog 101 #[.slice (some ⟨g3, 0, none⟩) Q.length cap3] w fun e w' => e = .returned (.int .i64 (X : Int)) ∧ w = w') := fun w hw => by have := CM.out w hw; rwa [hX.out] at this
          have hx1 : (0 : Int) ≤ (X : Int) := by omega
          have hx2 : (X : Int) < 65 := by omega
          have hx3 : X ≤ 64 := by omega
          have hx4 : 1 ≤ X := by omega
          have HQL : Hid (Q.length ≤ 64 ∧ j ≤ 64 ∧ (ordG n E j).length = j) := ⟨by omega, by omega, HJ.out.1⟩
          have h3ne : wr.heap.size ≠ g3 := by omega
          have CD : Hid (∀ (w : World), w.ownsRow W.heap.size 3 1 (.slice (some ⟨g3, 0, none⟩) Q.length cap3) Q.length (Q.map (Value.int .i64)) → w.cell? ⟨wr.heap.size, 0, none⟩ = some (.int .i64 (X : Int)) → _) := fun w h1 h2 => delete_any W.heap.size g3 cap3 Q (by omega) (X : Int) wr.heap.size w h1 h2 h3ne HM.out
          clear CM hpk hrg hpl hql hq
          have hr2 : isRow (131 + X) := by unfold isRow; omega
          obtain ⟨ua, uc, hCu, _, hub⟩ := HC.out.ints HWo.out hr2
          have HUL : Hid ((RF E (131 + X)).length ≤ 256) := Nat.le_trans (RF_len _ _) HN.out.2
          have HUS : Hid (∀ i, i < (RF E (131 + X)).length → ((1 ≤ (RF E (131 + X)).getD i 0 ∧ (RF E (131 + X)).getD i 0 ≤ (n : Int)) ∧ (RF E (131 + X)).getD i 0 ∉ ordG n E j ++ [(X : Int)])) := by
            intro i hi
            rw [RF_usr] at hi ⊢
            have hm := usrP_mem hi
            obtain ⟨e, he, e1⟩ := usrP_in hm
            refine ⟨by have := (HR.out e he).1; rw [e1] at this; exact this, usr_out HOK.out HPP.out.2.2.1 HPP.out.2.2.2 hm⟩
          rw [← RF_usr] at HST
          have HIU : Hid (∀ wx O, OrdW W g C O wx → Ints .i64 wx ua (RF E (131 + X))) := fun wx O ho => HC.out.ints2 ho hr2 hCu
          have HCR : Hid (∀ wx O, OrdW W g C O wx → wx.cell? ⟨g, 131 + X, none⟩ = some (.slice ua (RF E (131 + X)).length uc)) := fun wx O ho => by rw [← hCu]; exact HC.out.cellR ho hr2
          replace hCu := Lib.hid hCu
          replace hub := Lib.hid hub
          have HOL : Hid ((ordG n E j ++ [(X : Int)]).length = (ordG n E j).length + 1) := by show _ = _; rw [List.length_append]; rfl
          generalize RF E (131 + X) = us at *
          clear HOK HPP HM
          go_wp2_with (first
            | (go_at_call 101; ((with_reducible refine (CM2.out _ ?_).mono ?_); (exact (RowAt.of_own HO3.out).ints .i64 _ rfl); rintro e w1 ⟨rfl, rfl⟩))
            | (go_at_call 102; ((with_reducible refine (CD.out _ ?_ ?_).mono ?_); (exact Own.own_below HO3.out ((Below.refl _ _).alloc (Nat.le_refl _) _)); (exact Own.cell_new _ _ _); rintro e w1 ⟨rfl, HD⟩; have hcn := HD.out.2.cell (Own.cell_new _ _ _) (fun e => h3ne (by cases e; rfl)); have HW1 := Lib.hid ((HWo.out.alloc _).grown hgS HD.out.2 (fun k e => by cases e; exact hg3)); have HO41 := Lib.hid (Own.Apart.kept HAp.out.symm (HO4.out.alloc _) HD.out.2); have HO31 := Lib.hid HD.out.1; have hsz1 := HD.out.2.size; clear HD))
            | (at_builtin; refine Own.lies_one rfl (.tmp 36) (.tmp 38) 29 rfl W.heap.size 3 i0 _ 8 Try.underlying29 hi hz0 hz1 hz2 rfl _ _ _ rfl _ _ _ rfl (HO41.out.alloc _) (Own.cell_new _ _ _) rfl ?h1 ?h2 ?h3 (w1.heap.size + 1) (by simp) ?_; (case h1 => have := HQL.out; unfold maxLen; omega); (case h2 => have := HQL.out; omega); (case h3 => have := HW1.out.grow.size; simp; omega); intro g4 cap4 w2 hown4 hgrow4 hat4 hlt4; have hcn2 := hgrow4.cell ((World.cell?_alloc_lt _ _ _ (block_lt_of_cell hcn)).trans hcn) (fun e => by have := (HO4.out.lt _ e.symm).2; simp at this); have HW2 := Lib.hid ((HW1.out.alloc _).grown hgS hgrow4 (Own.own_block HO41.out (Nat.le_refl _))); have HO32 := Lib.hid (Own.Apart.kept (apart_len (m := (kp (X : Int) Q).length) (cap' := cap3) HAp.out) (HO31.out.alloc _) hgrow4); have HAp2 := Lib.hid (Own.Apart.right (v := .slice (some ⟨g3, 0, none⟩) (kp (X : Int) Q).length cap3) (n := (ordG n E j).length + 1) (cap := cap4) (apart_len HAp.out) hat4 (fun k e => Nat.lt_succ_of_lt (HO31.out.lt _ e).2)); have HO42 := Lib.hid hown4; clear hown4 hgrow4 hat4))
          have cR := HCR.out _ _ HW2.out
          go_quiet (fail)
          go_wp2
          have hgt : g < W.heap.size := hgS
          obtain ⟨out2, hout2⟩ : ∃ o2, Hid (ordG n E j ++ [(X : Int)] = o2) := ⟨_, rfl⟩
          rw [hout2.out] at HST HUS HOL HOG
          have HO43 : Hid (w2.ownsRow W.heap.size 3 1 (.slice (some ⟨g4, 0, none⟩) ((ordG n E j).length + 1) cap4) out2.length (out2.map (Value.int .i64))) := by
            have := HO42.out
            rw [← HOL.out, ← hout2.out, List.map_append, List.length_append]; exact this
          have HIV := Lib.hid HST.out.1
          have HW3 : Hid (OrdW W g C (opO E out2 us 0) (w2.drewN nq)) := (HW2.out.drewN nq).congr HST.out.2
          generalize (ordG n E j).length + 1 = m4 at *
          clear HST HW2 HO42 HO41 HO31 HW1 hcn hcn2 cR CM2 CD
          go_loopg [3, 47] us.length (fun gk v3 v47 wx => ∃ (i : Nat) (Q3 : List Int), Hid (gk + i = us.length) ∧ v47 = .int .i64 i ∧ Hid (Inv n out2 Q3 (opO E out2 us i)) ∧ Hid (wx.ownsRow W.heap.size 3 1 v3 Q3.length (Q3.map (Value.int .i64))) ∧ Hid (wx.ownsRow W.heap.size 3 1 (.slice (some ⟨g4, 0, none⟩) m4 cap4) out2.length (out2.map (Value.int .i64))) ∧ Hid (Own.Apart v3 (.slice (some ⟨g4, 0, none⟩) m4 cap4)) ∧ Hid (OrdW W g C (opO E out2 us i) wx))
          case atStart => exact ⟨0, _, (by show _ = _; omega), rfl, HIV, HO32, HO43, HAp2, HW3⟩
          case round =>
            obtain ⟨i, Q3, hi3, rfl, HI3, HP3, HP4, HPA, HWx⟩ := hrel
            by_cases hlt : i < us.length
            · have hg3 := hi3.out
              obtain ⟨Gn, hGn⟩ : ∃ Gn, Hid (gk = Gn + 1) := ⟨gk - 1, by show _ = _; omega⟩
              clear hg3
              obtain ⟨b, off, rfl, hb, hc⟩ := HIU.out _ _ HWx.out i hlt
              have hub2 := hub.out b off rfl
              have hi256 : (i : Int) < 256 := by have := HUL.out; omega
              have hui := HUS.out i hlt
              have HS3 := Lib.hid (inv_step hlt HI3.out hui.1.1 hui.1.2 hui.2)
              have HOS := Lib.hid (opO_step E out2 us i hlt)
              have h1 := HS3.out.1
              obtain ⟨Y, hY⟩ : ∃ Y : Nat, Hid (us.getD i 0 = (Y : Int)) := ⟨(us.getD i 0).toNat, by show _ = _; omega⟩
              rw [hY.out] at HS3 HOS hui hc h1
              have hlt1 : (i : Int) < (us.length : Int) := by omega
              have hi0 : (0 : Int) ≤ (i : Int) := by omega
              have hY0 : (0 : Int) ≤ (Y : Int) := by omega
              have hY1 : (Y : Int) < 65 := by omega
              have hY2 : Y ≤ 64 := by omega
              have cO := HC.out.cellO HWx.out Y hY2
              have fO := HWx.out.row.frozen (66 + Y)
              have hTm : opO E out2 us i (Y : Int) ≤ 256 + 256 := by
                have a1 : cnt E out2 (Y : Int) ≤ 256 := by
                  unfold cnt opn
                  have := List.length_filter_le (fun e : Int × Int => e.1 == (Y : Int) && !(out2.contains e.2)) E
                  have := HN.out.2
                  omega
                have a2 : (us.drop i).count (Y : Int) ≤ 256 := Nat.le_trans List.count_le_length (by rw [List.length_drop]; have := HUL.out; omega)
                unfold opO; omega
              have HQ3 : Hid (Q3.length ≤ 64) := Nat.le_trans HI3.out.len HN.out.1
              have HWn := Lib.hid (HWx.out.setO Y hY2)
              obtain ⟨T, hT⟩ : ∃ T, Hid (opO E out2 us i (Y : Int) = T) := ⟨_, rfl⟩
              rw [hT.out] at cO HS3 h1 hTm
              obtain ⟨T2, wT, hT2⟩ : ∃ A : Int, wrap64 (T - 1) = A ∧ Hid (A = T - 1) := ⟨T - 1, by unfold wrap64; omega, rfl⟩
              have wT3 : IntKind.i64.wrap (T - 1) = T2 := by rw [wrapEq]; exact wT
              rw [← hT2.out] at HS3
              have HOS2 : Hid (∀ x, opO E out2 us (i + 1) x = if x = (Y : Int) then T2 else opO E out2 us i x) := fun x => by
                rw [HOS.out x]
                by_cases e : x = (Y : Int)
                · rw [if_pos e, if_pos e, e, hT.out, hT2.out]
                · rw [if_neg e, if_neg e]
              have HWm : Hid (OrdW W g C (opO E out2 us (i + 1)) (wr.setCell ⟨g, 66 + Y, none⟩ (.int .i64 T2))) := (HWn.out T2).congr HOS2.out
              have HP3s : Hid ((wr.setCell ⟨g, 66 + Y, none⟩ (.int .i64 T2)).ownsRow W.heap.size 3 1 _ Q3.length (Q3.map (Value.int .i64))) := ownsRow_setCell_below HP3.out hgt _
              have HP4s : Hid ((wr.setCell ⟨g, 66 + Y, none⟩ (.int .i64 T2)).ownsRow W.heap.size 3 1 (.slice (some ⟨g4, 0, none⟩) m4 cap4) out2.length (out2.map (Value.int .i64))) := ownsRow_setCell_below HP4.out hgt _
              have hsz3 := HWm.out.grow.size
              clear hTm hui hb
              by_cases h0 : T2 = 0
              · have d0 : (T2 == 0) = true := by simp [h0]
                rw [if_pos h0] at HS3
                have HI4 := Lib.hid HS3.out.2
                clear h0
                go_wp2
                go_region
                go_wp2_with (at_builtin; go_must (refine Own.lies_one rfl (.tmp 68) (.tmp 70) 29 rfl W.heap.size 3 i0 _ 8 Try.underlying29 hi hz0 hz1 hz2 rfl _ _ _ rfl _ _ _ rfl ((HP3s.out.alloc _).drew) (show ((wr.setCell ⟨g, 66 + Y, none⟩ (.int .i64 T2)).alloc (.cells #[.int .i64 (Y : Int)] 3)).cell? _ = _ from cell_new2 _ _ _ _ _) rfl ?h1 ?h2 ?h3 (wr.heap.size + 1) (by simp) ?_; (case h1 => have := HQ3.out; unfold maxLen; omega); (case h2 => have := HQ3.out; omega); (case h3 => simp at hsz3; simp; omega); intro g5 cap5 w5 hown5 hgrow5 hat5 hlt5; have HW5 := Lib.hid (((HWm.out.alloc _).drew).grown hgt hgrow5 (Own.own_block HP3.out (Nat.le_refl _))); have HP45 := Lib.hid (Own.Apart.kept HPA.out.symm ((HP4s.out.alloc _).drew) hgrow5); have HPA5 := Lib.hid (HPA.out.left (n := Q3.length + 1) (cap := cap5) hat5 (fun k e => Nat.lt_succ_of_lt (HP4.out.lt _ e).2)); have HP35 := Lib.hid hown5; clear hown5 hgrow5))
                go_roundg Gn
                case rel => exact ⟨i + 1, Q3 ++ [(Y : Int)], (by have := hi3.out; have := hGn.out; show _ = _; omega), by go_num, HI4, by rw [List.map_append, List.length_append]; exact HP35, HP45, HPA5, HW5⟩
                case measure => have := hGn.out; omega
              · have d0 : (T2 == 0) = false := beq_eq_false_iff_ne.2 h0
                rw [if_neg h0] at HS3
                have HI4 := Lib.hid HS3.out.2
                clear h0
                go_wp2
                go_region
                go_wp2
                go_roundg Gn
                case rel => exact ⟨i + 1, Q3, (by have := hi3.out; have := hGn.out; show _ = _; omega), by go_num, HI4, HP3s, HP4s, HPA, HWm.out.drew⟩
                case measure => have := hGn.out; omega
            · have hie : i = us.length := by have := hi3.out; omega
              have hge3 : ¬ (i : Int) < (us.length : Int) := by omega
              have HI4 : Hid (Inv n (ordG n E (j + 1)) Q3 (cnt E (ordG n E (j + 1)))) := by
                show Inv _ _ _ _
                rw [HOG.out]
                have := HI3.out
                rw [hie] at this
                exact inv_congr this (fun x => (opO_end E out2 us x).symm)
              have HW4 : Hid (OrdW W g C (cnt E (ordG n E (j + 1))) wr) := by
                rw [HOG.out]
                have := HWx.out
                rw [hie] at this
                exact this.congr (fun x => (opO_end E out2 us x).symm)
              have HJ1 : Hid ((ordG n E (j + 1)).length = j + 1 ∧ j + 1 ≤ n) := by
                have e1 : (ordG n E (j + 1)).length = j + 1 := by rw [HOG.out, ← hout2.out, List.length_append, HQL.out.2.2]; rfl
                exact ⟨e1, by have := (ordG_ok n E (j + 1)).len; omega⟩
              clear hlt hie
              go_wp2
              go_roundg (G0 - 1)
              case measure => have := HJ1.out; omega
              case rel => exact ⟨j + 1, Q3, by have := HJ1.out; omega, ⟨HJ1.out.1, HI4.out⟩, HP3, by rw [HOG.out]; exact HP4, HPA, HW4⟩
        · have hq0 : Q.length = 0 := by omega
          obtain ⟨a3, c3, e3⟩ := own_slice HO3.out
          rw [e3, hq0]
          have HPN := Lib.hid (ord_stop HJ.out.1 (HJ.out.2.none hq0))
          have hqi : ¬ (0 : Int) < (Q.length : Int) := by omega
          clear e3 hq hq0
          go_wp2
          go_ret
          exact ⟨_, _, rfl, by rw [HPN.out]; exact HO4.out, HWo.out⟩
end Gra
end Go.Proofs.Ytiabnjmblcogmaa
end
section
namespace Go.Proofs.Ytiabnjmblcogmaa
open Go.RowKit
namespace Gra
set_option maxRecDepth 100000 in
set_option maxHeartbeats 4000000 in
theorem made_yes (n : Int) (a : Option Addr) (cap : Nat) (l : List (Int × Int)) (hn0 : 0 ≤ n) (hn : n ≤ 64) (hl : l.length ≤ 256) (w : World) (ha : Prs w a l) :
    Calls Try.prog 94 #[.int .i64 n, .slice a l.length cap] w (MadeOut n l w) := by
  have HA := Lib.hid ha
  have d1 : decide (n < 0) = false := decide_eq_false (by omega)
  have d2 : decide (64 < n) = false := decide_eq_false (by omega)
  have d3 : decide ((256 : Int) < (l.length : Int)) = false := decide_eq_false (by omega)
  have HN : Hid (0 ≤ n ∧ n ≤ 64 ∧ l.length ≤ 256) := ⟨hn0, hn, hl⟩
  obtain ⟨i0, hi, hz0, hz1, hz2⟩ := info_parts info3
  have HW := Lib.hid (web_new n w)
  have HBW : Hid (Below w.heap.size w (w.alloc (.cells (zW n) 118))) := (Below.refl _ _).alloc (Nat.le_refl _) _
  clear ha
  have hB := zero48
  have hZ := zW_size n
  have hS := zW_set n
  have hNe : ¬ zW 0 = #[] := fun e => by have := congrArg Array.size e; rw [zW_size] at this; cases this
  generalize zW n = Z at *
  generalize zW 0 = Z0 at *
  go_enter Try.func94, Try.ntmps94
  go_wp2
  clear hB hZ hS hNe
  go_loopw [24] (fun v24 wr => ∃ (k : Nat) (C : Nat → Value), k ≤ l.length ∧ v24 = .int .i64 k ∧ Hid (∀ j, j < k → inW (l.getD j (0, 0)).1 n = true ∧ inW (l.getD j (0, 0)).2 n = true) ∧ Hid (Web wr w.heap.size w.heap.size n (RF (l.take k)) (OF (l.take k)) C) ∧ Hid (Below w.heap.size w wr)) (fun v24 _ => l.length - (intOf v24).toNat)
  case atStart => exact ⟨0, _, by omega, rfl, fun j hj => by omega, HW, HBW⟩
  case round =>
    obtain ⟨k, C, hk, rfl, HV, HWr, HB⟩ := hrel
    by_cases hlt : k < l.length
    · have hx := Prs.below HA.out HB.out
      obtain ⟨b, off, ea, hb, c0, c1⟩ := hx k hlt
      rw [ea]
      replace ea := Lib.hid ea
      clear hx
      have hlt1 : (k : Int) < (l.length : Int) := by omega
      have hk0 : (0 : Int) ≤ (k : Int) := by omega
      have HT := Lib.hid (take_snoc l k hlt)
      have HNO : Hid (¬ (inW (l.getD k (0, 0)).1 n = true ∧ inW (l.getD k (0, 0)).2 n = true) → ¬ Good n l) := fun h hg => h (hg.2.2.2 k hlt)
      have HYE : Hid ((inW (l.getD k (0, 0)).1 n = true ∧ inW (l.getD k (0, 0)).2 n = true) → ∀ j, j < k + 1 → inW (l.getD j (0, 0)).1 n = true ∧ inW (l.getD j (0, 0)).2 n = true) := fun h j hj => by
        by_cases e : j = k
        · subst e; exact h
        · exact HV.out j (by omega)
      obtain ⟨p, hp⟩ : ∃ A, Hid ((l.getD k (0, 0)).1 = A) := ⟨_, rfl⟩
      obtain ⟨q, hq⟩ : ∃ A, Hid ((l.getD k (0, 0)).2 = A) := ⟨_, rfl⟩
      rw [hp.out] at c0 HNO HYE HT
      rw [hq.out] at c1 HNO HYE HT
      have gl : w.heap.size < wr.heap.size := HWr.out.row.lt
      cases hp1 : inW p n
      · have HNO2 := Lib.hid (HNO.out (fun h => by rw [hp1] at h; cases h.1))
        have C1 : Hid (∀ W, W.cell? ⟨w.heap.size, 0, none⟩ = some (.int .i64 n) → Calls Try.prog 100 #[.pointer (some ⟨w.heap.size, 0, none⟩), .int .i64 p] W fun e w' => e = .returned (.bool false) ∧ W = w') := fun W h => by have := is_any w.heap.size n p W h; rwa [hp1] at this
        clear HT HYE
        go_wp2_with (go_at_call 100; ((with_reducible refine (C1.out _ (HWr.out.alloc _).cell0).mono ?_); rintro e w1 ⟨rfl, rfl⟩))
        go_ret
        exact ⟨below_al HB.out _, .inr ⟨HNO2.out, rfl⟩⟩
      · cases hq1 : inW q n
        · have HNO2 := Lib.hid (HNO.out (fun h => by rw [hq1] at h; cases h.2))
          have C1 : Hid (∀ W, W.cell? ⟨w.heap.size, 0, none⟩ = some (.int .i64 n) → Calls Try.prog 100 #[.pointer (some ⟨w.heap.size, 0, none⟩), .int .i64 p] W fun e w' => e = .returned (.bool true) ∧ W = w') := fun W h => by have := is_any w.heap.size n p W h; rwa [hp1] at this
          have C2 : Hid (∀ W, W.cell? ⟨w.heap.size, 0, none⟩ = some (.int .i64 n) → Calls Try.prog 100 #[.pointer (some ⟨w.heap.size, 0, none⟩), .int .i64 q] W fun e w' => e = .returned (.bool false) ∧ W = w') := fun W h => by have := is_any w.heap.size n q W h; rwa [hq1] at this
          clear HT HYE
          go_wp2_with (go_at_call 100; ((first | (with_reducible refine (C1.out _ (HWr.out.alloc _).cell0).mono ?_) | (with_reducible refine (C2.out _ (HWr.out.alloc _).cell0).mono ?_)); rintro e w1 ⟨rfl, rfl⟩))
          go_ret
          exact ⟨below_al HB.out _, .inr ⟨HNO2.out, rfl⟩⟩
        · have HY2 := Lib.hid (HYE.out ⟨hp1, hq1⟩)
          have bp := inW_yes hp1
          have bq := inW_yes hq1
          have hn64 := HN.out.2.1
          obtain ⟨X, hX⟩ : ∃ X : Nat, p = (X : Int) := ⟨p.toNat, by omega⟩
          obtain ⟨Y, hY⟩ : ∃ Y : Nat, q = (Y : Int) := ⟨q.toNat, by omega⟩
          subst hX
          subst hY
          have C1 : Hid (∀ W, W.cell? ⟨w.heap.size, 0, none⟩ = some (.int .i64 n) → Calls Try.prog 100 #[.pointer (some ⟨w.heap.size, 0, none⟩), .int .i64 (X : Int)] W fun e w' => e = .returned (.bool true) ∧ W = w') := fun W h => by have := is_any w.heap.size n (X : Int) W h; rwa [hp1] at this
          have C2 : Hid (∀ W, W.cell? ⟨w.heap.size, 0, none⟩ = some (.int .i64 n) → Calls Try.prog 100 #[.pointer (some ⟨w.heap.size, 0, none⟩), .int .i64 (Y : Int)] W fun e w' => e = .returned (.bool true) ∧ W = w') := fun W h => by have := is_any w.heap.size n (Y : Int) W h; rwa [hq1] at this
          have hX0 : (0 : Int) ≤ (X : Int) := by omega
          have hX1 : (X : Int) < 65 := by omega
          have hY0 : (0 : Int) ≤ (Y : Int) := by omega
          have hY1 : (Y : Int) < 65 := by omega
          clear hn64 bp bq
          go_wp2_with (go_at_call 100; ((first | (with_reducible refine (C1.out _ (HWr.out.alloc _).cell0).mono ?_) | (with_reducible refine (C2.out _ (HWr.out.alloc _).cell0).mono ?_)); rintro e w1 ⟨rfl, rfl⟩))
          have kk : (wr.alloc (.cells #[.int .i64 (X : Int), .int .i64 (Y : Int)] 28)).cell? ⟨wr.heap.size, 0, none⟩ = some (.int .i64 (X : Int)) ∧ (wr.alloc (.cells #[.int .i64 (X : Int), .int .i64 (Y : Int)] 28)).cell? ⟨wr.heap.size, 1, none⟩ = some (.int .i64 (Y : Int)) := ⟨by simp, by simp⟩
          have HW1 := Lib.hid (HWr.out.alloc (.cells #[.int .i64 (X : Int), .int .i64 (Y : Int)] 28))
          have HB1 := Lib.hid (below_al HB.out (.cells #[.int .i64 (X : Int), .int .i64 (Y : Int)] 28))
          have hg7W : wr.heap.size < (wr.alloc (.cells #[.int .i64 (X : Int), .int .i64 (Y : Int)] 28)).heap.size := by simp
          have hg7 : w.heap.size ≠ wr.heap.size := Nat.ne_of_lt gl
          have hr1 : isRow (1 + X) := by unfold isRow; omega
          have hr2 : isRow (131 + Y) := by unfold isRow; omega
          have hv7 : (C (1 + X)).ownBlock ≠ some wr.heap.size := fun e => by have := ((HWr.out.own (1 + X) hr1).lt _ e).2; omega
          have HU7 : Hid (isRow (131 + Y) → (C (131 + Y)).ownBlock ≠ some wr.heap.size) := fun hr2 e => by have := ((HWr.out.own (131 + Y) hr2).lt _ e).2; omega
          clear gl C1 C2 HWr HB
          generalize wr.heap.size = G7 at *
          generalize wr.alloc (.cells #[.int .i64 (X : Int), .int .i64 (Y : Int)] 28) = W1 at *
          obtain ⟨k0, k1⟩ := kk
          obtain ⟨V, hV⟩ : ∃ V, Hid (C (1 + X) = V) := ⟨_, rfl⟩
          have kg := HW1.out.cell (i := 1 + X) (by omega)
          have fg := HW1.out.row.frozen (1 + X)
          have HO := Lib.hid (HW1.out.own (1 + X) hr1)
          have hvg := HW1.out.ne (1 + X) hr1
          rw [hV.out] at HO hvg hv7 kg
          have hgW := HW1.out.row.lt
          have HRL : Hid (∀ i, (RF (l.take k) i).length ≤ 256) := fun i => Nat.le_trans (RF_len _ _) (by rw [List.length_take]; have := HN.out.2.2; omega)
          go_cut [] (fun wx => Hid (Mid w n (fun j => if j = 1 + X then RF (l.take k) j ++ [(Y : Int)] else RF (l.take k) j) (OF (l.take k)) (131 + Y) G7 X Y wx))
          case first =>
            go_region_law ((refine step_append_lies _ (by rfl) _ _ _ (by rfl) w.heap.size 3 i0 _ 1 8 Try.underlying29 hi hz0 hz1 hz2 rfl (by omega) V _ _ (by rfl) ((HO.out.alloc _).drew) ⟨W1.heap.size, 0, none⟩ 1 1 [.int .i64 (Y : Int)] (by rfl) (by rfl) (World.news_of_block (cs := #[.int .i64 (Y : Int)]) (t := 3) (fr := (0, 0)) (heap_alloc_new W1 _)) (by simp [Value.oneCell']) (by omega) (by have := HRL.out (1 + X); unfold maxLen; omega) (by have := HRL.out (1 + X); omega) (by have := HB1.out.size; simp; omega) (W1.heap.size + 1) (by simp) ?_; intro gg cap9 w2 hown2 hgrow2 hat2 hlt2; have f2 := push_frozen hgW fg hgrow2 hvg; have kx2 := push_cell hg7W k0 hgrow2 hv7; have ky2 := push_cell hg7W k1 hgrow2 hv7; have kv2 := push_cell hgW kg hgrow2 hvg))
            all_goals (go_wp2_with fail; go_meet; exact mid_step HW1.out hr1 hV.out (by omega) HU7.out HB1.out HO.out hgrow2 hown2 hat2 hg7W hg7 kx2 ky2)
          case rest =>
            obtain ⟨C2, HW2, HU2, HB2, hg72, kx2, ky2⟩ := hcut
            replace HW2 := Lib.hid HW2
            replace HB2 := Lib.hid HB2
            have hU2 := HU2 hr2
            clear HW1 HB1 HO hV kg fg hvg hv7 hgW k0 k1 hg7W HU2 HU7 V
            obtain ⟨R2, hR2⟩ : ∃ R2, Hid ((fun j => if j = 1 + X then RF (l.take k) j ++ [(Y : Int)] else RF (l.take k) j) = R2) := ⟨_, rfl⟩
            rw [hR2.out] at HW2
            obtain ⟨U, hU⟩ : ∃ V, Hid (C2 (131 + Y) = V) := ⟨_, rfl⟩
            have ku := HW2.out.cell (i := 131 + Y) (by omega)
            have fu := HW2.out.row.frozen (131 + Y)
            have HO2 := Lib.hid (HW2.out.own (131 + Y) hr2)
            have hug := HW2.out.ne (131 + Y) hr2
            rw [hU.out] at HO2 hug hU2 ku
            have hgW2 := HW2.out.row.lt
            have HRL2 : Hid ((R2 (131 + Y)).length ≤ 257) := by
              rw [← hR2.out]
              have := HRL.out (131 + Y)
              show (if 131 + Y = 1 + X then _ else _ : List Int).length ≤ 257
              split
              · rw [List.length_append]; simp; omega
              · omega
            go_wp2
            go_cut [] (fun wx => Hid (Mid w n (fun j => if j = 131 + Y then R2 j ++ [(X : Int)] else R2 j) (OF (l.take k)) 0 G7 X Y wx))
            case first =>
              go_region_law ((refine step_append_lies _ (by rfl) _ _ _ (by rfl) w.heap.size 3 i0 _ 1 8 Try.underlying29 hi hz0 hz1 hz2 rfl (by omega) U _ _ (by rfl) ((HO2.out.alloc _).drew) ⟨wc.heap.size, 0, none⟩ 1 1 [.int .i64 (X : Int)] (by rfl) (by rfl) (World.news_of_block (cs := #[.int .i64 (X : Int)]) (t := 3) (fr := (0, 0)) (heap_alloc_new wc _)) (by simp [Value.oneCell']) (by omega) (by have := HRL2.out; unfold maxLen; omega) (by have := HRL2.out; omega) (by have := HB2.out.size; simp; omega) (wc.heap.size + 1) (by simp) ?_; intro gg cap9 w2 hown2 hgrow2 hat2 hlt2; have f3 := push_frozen hgW2 fu hgrow2 hug; have kx3 := push_cell hg72 kx2 hgrow2 hU2; have ky3 := push_cell hg72 ky2 hgrow2 hU2; have kv3 := push_cell hgW2 ku hgrow2 hug))
              all_goals (go_wp2_with fail; go_meet; exact mid_step HW2.out hr2 hU.out (by omega) (fun h => by unfold isRow at h; omega) HB2.out HO2.out hgrow2 hown2 hat2 hg72 hg7 kx3 ky3)
            case rest =>
              obtain ⟨C3, HW3, _, HB3, hg73, kx3, ky3⟩ := hcut
              replace HW3 := Lib.hid HW3
              replace HB3 := Lib.hid HB3
              clear HW2 HB2 HO2 hU ku fu hug hU2 hgW2 kx2 ky2 hg72 ky3 U
              have ko := HW3.out.cell (i := 66 + X) (by omega)
              rw [HW3.out.cO X (by omega)] at ko
              have fo := HW3.out.row.frozen (66 + X)
              have hO1 : OF (l.take k) X ≤ 256 ∧ 0 ≤ OF (l.take k) X := by
                unfold OF
                have h1 := ndsF_len (l.take k) (X : Int)
                rw [List.length_take] at h1
                have := HN.out.2.2
                omega
              obtain ⟨T, hT⟩ : ∃ T : Int, Hid (OF (l.take k) X = T) := ⟨_, rfl⟩
              rw [hT.out] at ko hO1
              obtain ⟨T2, wT, hT2⟩ : ∃ A : Int, wrap64 (T + 1) = A ∧ Hid (A = OF (l.take k) X + 1) := ⟨T + 1, by unfold wrap64; omega, by rw [hT.out]; rfl⟩
              have wT3 : IntKind.i64.wrap (T + 1) = T2 := by rw [wrapEq]; exact wT
              clear hO1
              go_wp2
              go_region
              go_wp2
              go_roundw
              case rel =>
                have HW4 := (HW3.out.setO X (by omega) T2).drew
                refine ⟨k + 1, _, by omega, by go_num, HY2, HW4.congr (fun i hi => ?_) (fun x _ => ?_), (HB3.out.setCell (Nat.le_refl _) _).drew⟩
                · rw [HT.out, RF_step _ X Y (by omega) (by omega) i hi, ← hR2.out]
                · rw [HT.out, OF_step, hT2.out]
              case measure => simp [intOf]; omega
    · have hke : k = l.length := by omega
      have HE : Hid (MadeOut n l w (.returned (.pointer (some ⟨w.heap.size, 0, none⟩))) wr) := by
        refine ⟨HB.out, .inl ⟨⟨HN.out.1, HN.out.2.1, HN.out.2.2, ?_⟩, rfl, C, ?_⟩⟩
        · rw [← hke]; exact HV.out
        · have := HWr.out
          rwa [hke, List.take_length] at this
      have hge : ¬ (k : Int) < (l.length : Int) := by omega
      clear hlt hke
      go_wp2
      go_ret
      exact HE.out
set_option maxRecDepth 100000 in
set_option maxHeartbeats 1000000 in
theorem made_any (n : Int) (a : Option Addr) (cap : Nat) (l : List (Int × Int)) (w : World) (ha : Prs w a l) :
    Calls Try.prog 94 #[.int .i64 n, .slice a l.length cap] w (MadeOut n l w) := by
  by_cases h1 : n < 0
  · have d1 : decide (n < 0) = true := decide_eq_true h1
    have HE : Hid (MadeOut n l w (.returned (.pointer none)) w) := ⟨Below.refl _ _, .inr ⟨fun h => by have := h.1; omega, rfl⟩⟩
    clear ha h1
    go_enter Try.func94, Try.ntmps94
    go_wp2
    go_ret
    exact HE.out
  · by_cases h2 : 64 < n
    · have d1 : decide (n < 0) = false := decide_eq_false h1
      have d2 : decide (64 < n) = true := decide_eq_true h2
      have HE : Hid (MadeOut n l w (.returned (.pointer none)) w) := ⟨Below.refl _ _, .inr ⟨fun h => by have := h.2.1; omega, rfl⟩⟩
      clear ha h1
      go_enter Try.func94, Try.ntmps94
      go_wp2
      go_ret
      exact HE.out
    · by_cases h3 : (256 : Int) < (l.length : Int)
      · have d1 : decide (n < 0) = false := decide_eq_false h1
        have d2 : decide (64 < n) = false := decide_eq_false h2
        have d3 : decide ((256 : Int) < (l.length : Int)) = true := decide_eq_true h3
        have HE : Hid (MadeOut n l w (.returned (.pointer none)) w) := ⟨Below.refl _ _, .inr ⟨fun h => by have := h.2.2.1; omega, rfl⟩⟩
        clear ha h1 h2
        go_enter Try.func94, Try.ntmps94
        go_wp2
        go_ret
        exact HE.out
      · exact made_yes n a cap l (by omega) (by omega) (by omega) w ha
end Gra
end Go.Proofs.Ytiabnjmblcogmaa
end
