/- Texts put together: QuoY, QuoD, QuoQ, QuoQ2. -/
import Derived.Test.YtiabnjmblcogmaaM21
import Derived.Deep.LoopGhost
import Derived.Lib.SliceRun
set_option linter.all false
section
namespace Go.Proofs.Ytiabnjmblcogmaa
open Go.RowKit
namespace Quo
open Cat (CatIn BayIn chkC nob noy makerV Cam Box box_new box_b box_next box_flat)
open Rec (BlueIn Stk Stks stkVals)
open Pen (below2 below_al below_dN)
theorem made_zero (n : Nat) : (madeCells #[Value.int .i64 0, Value.int .i64 0] (n * 2)).toList = stkVals (List.replicate n (0, 0)) := by
  have h1 : (madeCells #[Value.int .i64 0, Value.int .i64 0] (n * 2)).toList = List.replicate (n * 2) (Value.int .i64 0) := by
    rw [List.eq_replicate_iff]
    refine ⟨by rw [Array.length_toList, size_madeCells], fun b hb => ?_⟩
    unfold madeCells at hb
    rw [Array.toList_map] at hb
    obtain ⟨i, -, rfl⟩ := List.mem_map.1 hb
    show (#[Value.int .i64 0, Value.int .i64 0] : Array Value)[i % 2]! = _
    rcases (show i % 2 = 0 ∨ i % 2 = 1 by omega) with h | h <;> rw [h] <;> rfl
  rw [h1]
  induction n with
  | zero => rfl
  | succ n ih =>
    have e : stkVals (List.replicate (n + 1) ((0 : Int), (0 : Int))) = Value.int .i64 0 :: Value.int .i64 0 :: stkVals (List.replicate n (0, 0)) := rfl
    rw [e, ← ih (by
      rw [List.eq_replicate_iff]
      refine ⟨by rw [Array.length_toList, size_madeCells], fun b hb => ?_⟩
      unfold madeCells at hb
      rw [Array.toList_map] at hb
      obtain ⟨i, -, rfl⟩ := List.mem_map.1 hb
      show (#[Value.int .i64 0, Value.int .i64 0] : Array Value)[i % 2]! = _
      rcases (show i % 2 = 0 ∨ i % 2 = 1 by omega) with h | h <;> rw [h] <;> rfl), show (n + 1) * 2 = n * 2 + 1 + 1 by omega, List.replicate_succ, List.replicate_succ]
theorem infoBool : (Try.prog.info? 4).map (fun i => (i.zero, i.size, i.bytes)) = some (some (.bool false), 1, 1) := by kernel_rfl
theorem run_mkS (m : Nat) (hm : m ≤ 4096) (w : World) : (Instr.makeSlice 32 (.int .i64 (m : Int)) (.int .i64 (m : Int))).run Try.prog w = .ok (.slice (some ⟨w.heap.size, 0, none⟩) m m) (w.alloc (.cells (madeCells #[.int .i64 0, .int .i64 0] (m * 2)) 46)) := by
  obtain ⟨i0, hi, hz0, hz1, hz2⟩ := info_of infoS
  have := run_makeSlice (P := Try.prog) (w := w) 32 46 i0 (.agg #[.int .i64 0, .int .i64 0]) Try.underlying32 hi hz0 .i64 .i64 m m (by omega) (by omega) (by rw [hz1]; omega) (by rw [hz2]; omega) (by omega)
  rw [this]
  simp [hz1, Value.cells]
theorem run_mkB (m : Nat) (hm : m ≤ 4096) (w : World) : (Instr.makeSlice 59 (.int .i64 (m : Int)) (.int .i64 (m : Int))).run Try.prog w = .ok (.slice (some ⟨w.heap.size, 0, none⟩) m m) (w.alloc (.cells (madeCells #[.bool false] m) 4)) := by
  obtain ⟨i0, hi, hz0, hz1, hz2⟩ := info_of infoBool
  have := run_makeSlice (P := Try.prog) (w := w) 59 4 i0 (.bool false) Try.underlying59 hi hz0 .i64 .i64 m m (by omega) (by omega) (by rw [hz1]; omega) (by rw [hz2]; omega) (by omega)
  rw [this]
  simp [hz1, Value.cells]
def fB (b : List Bool) (i : Nat) : Value := .bool (b.getD i false)
/-- Two rows of the call's own: spans, and yes or no; nothing else has changed. -/
structure PR (W0 : World) (n go gb : Nat) (o : List Stk) (b : List Bool) (W : World) : Prop where
  fr : Below W0.heap.size W0 W
  lo : W0.heap.size ≤ go
  lb : W0.heap.size ≤ gb
  ne : go ≠ gb
  ol : o.length = n
  bl : b.length = n
  own : W.ownsRow go 46 2 (.slice (some ⟨go, 0, none⟩) n n) n (stkVals o)
  row : W.rowIs gb 4 n (fB b)
section
variable {W0 W W' : World} {n go gb : Nat} {o : List Stk} {b : List Bool}
theorem PR.lto (h : PR W0 n go gb o b W) : go < W.heap.size := (h.own.lt go rfl).2
theorem PR.ltb (h : PR W0 n go gb o b W) : gb < W.heap.size := h.row.lt
theorem PR.below (h : PR W0 n go gb o b W) (hb : Below W.heap.size W W') : PR W0 n go gb o b W' := ⟨h.fr.trans (hb.mono h.fr.size), h.lo, h.lb, h.ne, h.ol, h.bl, Own.own_below h.own hb, h.row.of_block (hb.block _ h.ltb)⟩
theorem PR.cells (h : PR W0 n go gb o b W) {k : Nat} (hk : k < n) : W.cell? ⟨go, k * 2, none⟩ = some (.int .i64 (o.getD k (0, 0)).1) ∧ W.cell? ⟨go, k * 2 + 1, none⟩ = some (.int .i64 (o.getD k (0, 0)).2) ∧ W.cell? ⟨gb, k, none⟩ = some (.bool (b.getD k false)) ∧ W.frozen? ⟨go, k * 2, none⟩ = false ∧ W.frozen? ⟨go, k * 2 + 1, none⟩ = false ∧ W.frozen? ⟨gb, k, none⟩ = false := by
  have hl := h.ol
  have hg := flat_get3 (fun x : Stk => [Value.int .i64 x.1, Value.int .i64 x.2]) 2 (fun _ => rfl) o (0, 0) k
  refine ⟨?_, ?_, h.row.cell hk, h.own.frozenAt _, h.own.frozenAt _, h.row.frozen k⟩
  · rw [h.own.cellAt (k * 2) (by omega)]
    exact hg 0 (by omega) (by decide)
  · rw [h.own.cellAt (k * 2 + 1) (by omega)]
    exact hg 1 (by omega) (by decide)
theorem PR.setO (h : PR W0 n go gb o b W) {k : Nat} (hk : k < n) (x y : Int) : PR W0 n go gb (o.set k (x, y)) b ((W.setCell ⟨go, k * 2, none⟩ (.int .i64 x)).setCell ⟨go, k * 2 + 1, none⟩ (.int .i64 y)) := by
  have hl := h.ol
  refine ⟨(h.fr.setCell h.lo _).setCell h.lo _, h.lo, h.lb, h.ne, by rw [List.length_set]; exact hl, h.bl, ?_, (h.row.setOther (fun e => h.ne e.symm) _).setOther (fun e => h.ne e.symm) _⟩
  rw [stkVals_set _ _ _ (by omega)]
  exact ((h.own.stored (k * 2) (.int .i64 x)).1.stored (k * 2 + 1) (.int .i64 y)).1
theorem PR.setB (h : PR W0 n go gb o b W) {k : Nat} (hk : k < n) (x : Bool) : PR W0 n go gb o (b.set k x) (W.setCell ⟨gb, k, none⟩ (.bool x)) := by
  have hl := h.bl
  refine ⟨h.fr.setCell h.lb _, h.lo, h.lb, h.ne, h.ol, by rw [List.length_set]; exact hl, ?_, (h.row.set k _).congr fun i hi => ?_⟩
  · exact h.own.kept (grw_set W gb k _) (.inr fun e => h.ne (Option.some.inj e))
  · unfold fB
    rw [getD_set _ _ _ _ _ (by omega)]
    split <;> rfl
theorem pr_new (W0 : World) (n : Nat) (hn : n ≤ 4096) : PR W0 n W0.heap.size (W0.heap.size + 1) (List.replicate n (0, 0)) (List.replicate n false) ((W0.alloc (.cells (madeCells #[.int .i64 0, .int .i64 0] (n * 2)) 46)).alloc (.cells (madeCells #[.bool false] n) 4)) := by
  refine ⟨below_al (below_al (Below.refl _ _) _) _, Nat.le_refl _, Nat.le_succ _, by omega, by simp, by simp, ?_, ?_⟩
  · refine World.ownsRow.alloc ?_ _
    rw [← made_zero]
    exact World.ownsRow_lit W0 _ n (Nat.le_refl _) (by unfold maxLen; omega) (size_madeCells _ _)
  · have h2 := World.rowIs_made (W0.alloc (.cells (madeCells #[.int .i64 0, .int .i64 0] (n * 2)) 46)) (.bool false) n 4
    rw [show (W0.alloc (.cells (madeCells #[.int .i64 0, .int .i64 0] (n * 2)) 46)).heap.size = W0.heap.size + 1 by simp] at h2
    exact h2.congr fun i hi => by unfold fB; rw [getD_rep]
end
/-- The least of those from some place on that may begin: what a walk from behind finds. -/
def nx (p : PC) (S : PS) : Nat → Int
  | 0 => -1
  | i + 1 => if isR p S (p.n - 1 - i) then ((p.n - 1 - i : Nat) : Int) else nx p S i
/-- How many are done, from behind. -/
def dn (p : PC) (S : PS) : Nat → Nat
  | 0 => 0
  | i + 1 => dn p S i + if isD S (p.n - 1 - i) then 1 else 0
theorem drop_range {n i : Nat} (hi : i < n) : (List.range n).drop (n - (i + 1)) = (n - 1 - i) :: (List.range n).drop (n - i) := by
  have hlt : n - (i + 1) < (List.range n).length := by rw [List.length_range]; omega
  rw [List.drop_eq_getElem_cons hlt, List.getElem_range]
  rw [show n - (i + 1) = n - 1 - i by omega, show n - 1 - i + 1 = n - i by omega]
theorem nx_find (p : PC) (S : PS) : ∀ i, i ≤ p.n → nx p S i = match ((List.range p.n).drop (p.n - i)).find? (isR p S) with | some k => (k : Int) | none => -1
  | 0, _ => by rw [Nat.sub_zero, List.drop_of_length_le (by simp)]; rfl
  | i + 1, h => by
    rw [nx, nx_find p S i (by omega), drop_range (by omega), List.find?_cons]
    cases isR p S (p.n - 1 - i) with
    | true => rfl
    | false => rfl
theorem nx_all (p : PC) (S : PS) : nx p S p.n = match nextR p S with | some k => (k : Int) | none => -1 := by
  rw [nx_find p S p.n (Nat.le_refl _), Nat.sub_self]
  rfl
theorem dn_eq (p : PC) (S : PS) : ∀ i, i ≤ p.n → dn p S i = (((List.range p.n).drop (p.n - i)).filter (isD S)).length
  | 0, _ => by rw [Nat.sub_zero, List.drop_of_length_le (by simp)]; rfl
  | i + 1, h => by
    rw [dn, dn_eq p S i (by omega), drop_range (by omega), List.filter_cons]
    cases isD S (p.n - 1 - i) with
    | true => rw [if_pos rfl, if_pos rfl, List.length_cons]
    | false => rw [if_neg (by simp), if_neg (by simp)]; rfl
theorem dn_all (p : PC) (S : PS) : dn p S p.n = doing p S := by
  rw [dn_eq p S p.n (Nat.le_refl _), Nat.sub_self]
  rfl
theorem dn_le (p : PC) (S : PS) : ∀ i, dn p S i ≤ i
  | 0 => Nat.le_refl _
  | i + 1 => by
    have := dn_le p S i
    rw [dn]
    split <;> omega
/-- Is all over for which a job waits, among the first ones? -/
def okTo (p : PC) (S : PS) (k x : Nat) : Bool := isT p S k && (List.range x).all fun y => !p.wt k y || isO S y
theorem okTo_succ (p : PC) (S : PS) (k x : Nat) : okTo p S k (x + 1) = (okTo p S k x && (!p.wt k x || isO S x)) := by
  unfold okTo
  rw [List.range_succ, List.all_append, List.all_cons, List.all_nil, Bool.and_true, Bool.and_assoc]
theorem okTo_all (p : PC) (S : PS) (k : Nat) : okTo p S k p.n = isR p S k := rfl
theorem okTo_no {p : PC} {S : PS} {k x : Nat} (h : okTo p S k x = false) : ∀ n, x ≤ n → okTo p S k n = false
  | 0, hn => by rw [show x = 0 by omega] at h; exact h
  | n + 1, hn => by
    by_cases e : x = n + 1
    · rw [← e]; exact h
    · rw [okTo_succ, okTo_no h n (by omega)]; rfl
/-- What comes of a plan: spans, or why there are none. -/
def PlanRes (V : List Stk × Int) (w : World) (e : Ending) (w' : World) : Prop := ∃ a cap, e = .returned (.tuple #[.slice a V.1.length cap, .int .i64 V.2]) ∧ Hid (Stks w' a V.1) ∧ Hid (Below w.heap.size w w')
theorem plan_none (x : Int) {w w' : World} (h : Below w.heap.size w w') : PlanRes ([], x) w (.returned (.tuple #[.slice none 0 0, .int .i64 x])) w' := ⟨none, 0, rfl, fun i hi => absurd hi (Nat.not_lt_zero i), h⟩
theorem PR.stks {W0 W : World} {n go gb : Nat} {o : List Stk} {b : List Bool} (h : PR W0 n go gb o b W) : Stks W (some ⟨go, 0, none⟩) o := by
  have hl := h.ol
  obtain ⟨a, cap, e, hs⟩ := Rec.stks_of_own (l := o) (by rw [hl]; exact h.own)
  injection e with h1 h2 h3
  rw [h1]
  exact hs
end Quo
end Go.Proofs.Ytiabnjmblcogmaa
end
section
namespace Go.Proofs.Ytiabnjmblcogmaa
open Go.RowKit
namespace Quo
open Cat (fst fst_none fst_stay)
open Pen (below2 below_al below_dN)
open In (Ints)
section
variable {w : World} {base g n cap size : Nat} {e : TypeId} {xs : List Value}
theorem own_short (h : w.ownsRow base e size (.slice (some ⟨g, 0, none⟩) n cap) n xs) (k : Nat) (hk : k ≤ n) : w.ownsRow base e size (.slice (some ⟨g, 0, none⟩) k cap) k (xs.take (k * size)) := by
  have hl := h.1
  have hm : k * size ≤ n * size := Nat.mul_le_mul_right _ hk
  refine ⟨by rw [List.length_take]; omega, .inr ?_⟩
  rcases h.2 with ⟨h0, _⟩ | ⟨g', cap', cur, hv, hb, hg, hn, hc, hs, ht⟩
  · cases h0
  · cases hv
    refine ⟨g, cap, cur, rfl, hb, hg, by omega, hc, hs, ?_⟩
    rw [← ht, List.take_take, Nat.min_eq_left hm]
theorem own_puts (vs : List Value) (k : Nat) : ∀ (w : World) (xs : List Value) (o : Nat), k ≤ o → w.ownsRow base e size (.slice (some ⟨g, 0, none⟩) n cap) n xs → ∃ ys, (w.setCells g o vs).ownsRow base e size (.slice (some ⟨g, 0, none⟩) n cap) n ys ∧ ys.take k = xs.take k := by
  induction vs with
  | nil => exact fun w xs o _ h => ⟨xs, h, rfl⟩
  | cons v vs ih =>
    intro w xs o ho h
    obtain ⟨ys, h1, h2⟩ := ih _ _ (o + 1) (by omega) (h.stored o v).1
    refine ⟨ys, h1, h2.trans ?_⟩
    rw [List.take_set, List.set_eq_of_length_le (by rw [List.length_take]; omega)]
theorem own_clear (h : w.ownsRow base e size (.slice (some ⟨g, 0, none⟩) n cap) n xs) (k : Nat) (hk : k ≤ n) (vs : List Value) : (w.setCells g (k * size) vs).ownsRow base e size (.slice (some ⟨g, 0, none⟩) k cap) k (xs.take (k * size)) := by
  obtain ⟨ys, h1, h2⟩ := own_puts vs (k * size) w xs (k * size) (Nat.le_refl _) h
  rw [← h2]
  exact own_short h1 k hk
theorem grw_trans {a b c : World} {g : Nat} (h1 : a.grownBy b (some g)) (h2 : b.grownBy c (some g)) : a.grownBy c (some g) :=
  ⟨h2.os.trans h1.os, h2.tape.trans h1.tape, h2.output.trans h1.output, Nat.le_trans h1.size h2.size, fun k hk hne => (h2.block k (Nat.lt_of_lt_of_le hk h1.size) hne).trans (h1.block k hk hne)⟩
theorem grw_refl (w : World) (g : Nat) : w.grownBy w (some g) := ⟨rfl, rfl, rfl, Nat.le_refl _, fun _ _ _ => rfl⟩
theorem grw_sets (g : Nat) (vs : List Value) : ∀ (w : World) (o : Nat), w.grownBy (w.setCells g o vs) (some g) := by
  induction vs with
  | nil => exact fun w o => grw_refl w g
  | cons v vs ih => exact fun w o => grw_trans (grw_set w g o v) (ih _ _)
end
/-- 'clear' of a part of a row of jobs. -/
theorem run_clearJ (w : World) (ty : TypeId) (b o n c : Nat) (hn : 0 < n) (hc : ∀ j, j < n * 3 → (w.cell? ⟨b, o + j, none⟩).isSome = true) (hf : ∀ j, j < n * 3 → w.frozen? ⟨b, o + j, none⟩ = false) :
    (Builtin.clear_ #[56] ty #[.slice (some ⟨b, o, none⟩) n c]).run Try.prog w = .ok (.tuple #[]) (w.setCells b o (Builtin.zeroCells #[.int .i64 0, .slice none 0 0, .int .i64 0] n).toList) := by
  have hlen : (Builtin.zeroCells #[Value.int .i64 0, .slice none 0 0, .int .i64 0] n).toList.length = n * 3 := by simp [Builtin.zeroCells]
  have hone : ∀ v ∈ (Builtin.zeroCells #[Value.int .i64 0, .slice none 0 0, .int .i64 0] n).toList, v.oneCell' = true := fun v hv => by
    unfold Builtin.zeroCells at hv
    rw [Array.toList_map] at hv
    obtain ⟨i, -, rfl⟩ := List.mem_map.1 hv
    show ((#[Value.int .i64 0, .slice none 0 0, .int .i64 0] : Array Value)[i % 3]!).oneCell' = true
    rcases (show i % 3 = 0 ∨ i % 3 = 1 ∨ i % 3 = 2 by omega) with h | h | h <;> rw [h] <;> rfl
  have hst := run_storeCells_cells (P := Try.prog) b o (Builtin.zeroCells #[Value.int .i64 0, .slice none 0 0, .int .i64 0] n).toList 0 w (by rw [hlen]; simpa using hc) (by rw [hlen]; simpa using hf) hone
  simp only [Nat.add_zero] at hst
  obtain ⟨i0, hi0, hz0, -, -⟩ := info_of infoJ
  have hv : ∀ w, (zeroValue 62).run Try.prog w = .ok (.agg #[.int .i64 0, .slice none 0 0, .int .i64 0]) w := fun w => by simp [zeroValue, typeInfo, hi0, hz0]
  obtain ⟨m, rfl⟩ : ∃ m, n = m + 1 := ⟨n - 1, by omega⟩
  simp [Builtin.clear_, run_underlying Try.underlying56, hv, Value.cells, hst]
theorem p11_any (gv gb n : Nat) (b : List Bool) (hn : n ≤ 4096) (x : Nat) (hx : x < n) (w : World) (h0 : w.cell? ⟨gv, 0, none⟩ = some (.slice (some ⟨gb, 0, none⟩) n n)) (hr : w.rowIs gb 4 n (fB b)) :
    Calls Try.prog 24 #[.int .i64 (x : Int), .pointer (some ⟨gv, 0, none⟩)] w fun e w' => e = .returned (.bool (!b.getD x false)) ∧ Below w.heap.size w w' := by
  have hc : w.cell? ⟨gb, x, none⟩ = some (.bool (b.getD x false)) := hr.cell hx
  have hx0 : (0 : Int) ≤ (x : Int) := by omega
  have hx1 : (x : Int) < (n : Int) := by omega
  clear hr
  generalize b.getD x false = B at *
  cases B <;>
  · go_enter Try.func24, Try.ntmps24
    go_wp2
    go_ret
    exact ⟨rfl, Below.refl _ _⟩
set_option maxHeartbeats 1000000 in
theorem indexP11_any (a : Option Addr) (cap : Nat) (l : List Int) (hl : l.length ≤ 4096) (w : World) (ha : Ints .i64 w a l) (p1 : Value) (P : Int → Bool) (hC : ∀ W k, k < l.length → Below w.heap.size w W → Calls Try.prog 24 #[.int .i64 (l.getD k 0), p1] W fun e w' => e = .returned (.bool (P (l.getD k 0))) ∧ Below W.heap.size W w') :
    Calls Try.prog 49 #[.slice a l.length cap, .func (.func 24) #[] #[p1]] w fun e w' => (∃ i : Int, e = .returned (.int .i64 i) ∧ decide (0 ≤ i) = l.any P) ∧ Below w.heap.size w w' := by
  have HA := Lib.hid ha
  have HC := Lib.hid hC
  clear ha hC
  obtain ⟨R, hR⟩ : ∃ R, Hid (l.any P = R) := ⟨_, rfl⟩
  rw [hR.out]
  go_enter Try.func49, Try.ntmps49
  go_wp2
  go_loopw [8] (fun i wr => ∃ k : Nat, k ≤ l.length ∧ i = .int .i64 k ∧ Hid (∀ j, j < k → P (l.getD j 0) = false) ∧ Hid (Below w.heap.size w wr)) (fun i _ => l.length - (intOf i).toNat)
  case atStart => exact ⟨0, by omega, rfl, fun j hj => absurd hj (Nat.not_lt_zero j), Below.refl _ _⟩
  case round =>
    obtain ⟨k, hk, rfl, HM, HB⟩ := hrel
    by_cases hlt : k < l.length
    · obtain ⟨b, off, rfl, hbl, hc⟩ := HA.out k hlt
      have hc2 := (HB.out.cell (p := ⟨b, off + k, none⟩) hbl).trans hc
      have hlt1 : (k : Int) < (l.length : Int) := by omega
      have CC := Lib.hid (fun W h => HC.out W k hlt h)
      have HY : Hid (P (l.getD k 0) = true → R = true) := fun h => by rw [← hR.out]; exact any_take P l 0 k hlt h
      have HN : Hid (P (l.getD k 0) = false → ∀ j, j < k + 1 → P (l.getD j 0) = false) := fun h j hj => by
        by_cases hjk : j = k
        · rw [hjk]; exact h
        · exact HM.out j (by omega)
      clear hc
      generalize P (l.getD k 0) = B at *
      generalize l.getD k 0 = T at *
      cases B
      · replace HN := Lib.hid (HN.out rfl)
        go_wp2_with (go_at_call 24; ((with_reducible refine (CC.out _ HB.out).mono ?_); rintro e w1 ⟨rfl, hb1⟩; have HB1 := Lib.hid (below2 HB.out hb1)))
        go_roundw
        case rel => exact ⟨k + 1, by omega, by go_num, HN.out, HB1.out⟩
        case measure => simp [intOf]; omega
      · replace HY := Lib.hid (HY.out rfl)
        go_wp2_with (go_at_call 24; ((with_reducible refine (CC.out _ HB.out).mono ?_); rintro e w1 ⟨rfl, hb1⟩; have HB1 := Lib.hid (below2 HB.out hb1)))
        go_ret
        exact ⟨⟨(k : Int), rfl, by rw [HY.out]; exact decide_eq_true (by omega)⟩, HB1.out⟩
    · have hke : Hid (R = false) := by show R = false; rw [← hR.out]; exact any_none P l 0 fun j hj => HM.out j (by omega)
      go_wp2
      go_ret
      exact ⟨⟨-1, rfl, by rw [hke.out]; rfl⟩, HB.out⟩
theorem containsP11_any (a : Option Addr) (cap : Nat) (l : List Int) (hl : l.length ≤ 4096) (w : World) (ha : Ints .i64 w a l) (p1 : Value) (P : Int → Bool) (hC : ∀ W k, k < l.length → Below w.heap.size w W → Calls Try.prog 24 #[.int .i64 (l.getD k 0), p1] W fun e w' => e = .returned (.bool (P (l.getD k 0))) ∧ Below W.heap.size W w') :
    Calls Try.prog 23 #[.slice a l.length cap, .func (.func 24) #[] #[p1]] w fun e w' => e = .returned (.bool (l.any P)) ∧ Below w.heap.size w w' := by
  have CC := Lib.hid (indexP11_any a cap l hl w ha p1 P hC)
  clear hl ha hC
  generalize l.any P = B at *
  go_enter Try.func23, Try.ntmps23
  go_wp2_with (go_at_call 49; ((with_reducible refine CC.out.mono ?_); rintro e w1 ⟨⟨i, rfl, hi⟩, hb1⟩))
  go_ret
  exact ⟨by rfl, hb1⟩
/-- Is all over for which a job waits? -/
def notOver (b : List Bool) (x : Int) : Bool := !b.getD x.toNat false
def readyJ (b : List Bool) (j : JobIn) : Bool := !(j.waits.any (notOver b))
theorem over_call {W : World} (gv gb n : Nat) (b : List Bool) (hn : n ≤ 4096) (wa : Option Addr) (wc : Nat) (ws : List Int) (hl : ws.length ≤ 4096) (hws : ∀ x, x ∈ ws → 0 ≤ x ∧ x < (n : Int)) (h0 : W.cell? ⟨gv, 0, none⟩ = some (.slice (some ⟨gb, 0, none⟩) n n)) (g0 : gv < W.heap.size) (hr : W.rowIs gb 4 n (fB b)) (hI : In.Ints .i64 W wa ws) :
    Calls Try.prog 23 #[.slice wa ws.length wc, .func (.func 24) #[] #[.pointer (some ⟨gv, 0, none⟩)]] W fun e w' => e = .returned (.bool (ws.any (notOver b))) ∧ Below W.heap.size W w' := by
  refine containsP11_any wa wc ws hl W hI _ (notOver b) fun V k hk hb => ?_
  obtain ⟨m0, m1⟩ := hws (ws.getD k 0) (getD_mem' hk 0)
  obtain ⟨m, hm⟩ : ∃ m : Nat, ws.getD k 0 = (m : Int) := ⟨(ws.getD k 0).toNat, by omega⟩
  have := p11_any gv gb n b hn m (by omega) V ((hb.cell (p := ⟨gv, 0, none⟩) g0).trans h0) (hr.of_block (hb.block _ hr.lt))
  rw [hm]
  unfold notOver
  rw [Int.toNat_natCast]
  exact this
theorem p1_any (gv gb n : Nat) (b : List Bool) (hn : n ≤ 4096) (j : JobIn) (hl : j.waits.length ≤ 4096) (hws : ∀ x, x ∈ j.waits → 0 ≤ x ∧ x < (n : Int)) (w : World) (h0 : w.cell? ⟨gv, 0, none⟩ = some (.slice (some ⟨gb, 0, none⟩) n n)) (g0 : gv < w.heap.size) (hr : w.rowIs gb 4 n (fB b)) (hI : In.Ints .i64 w j.wa j.waits) :
    Calls Try.prog 22 #[.agg #[.int .i64 (j.blue : Int), .slice j.wa j.waits.length j.wcap, .int .i64 j.time], .pointer (some ⟨gv, 0, none⟩)] w fun e w' => e = .returned (.bool (readyJ b j)) ∧ Below w.heap.size w w' := by
  have hb := below_al (Below.refl w.heap.size w) (.cells #[.int .i64 (j.blue : Int), .slice j.wa j.waits.length j.wcap, .int .i64 j.time] 62)
  have CO := Lib.hid (over_call (W := w.alloc (.cells #[.int .i64 (j.blue : Int), .slice j.wa j.waits.length j.wcap, .int .i64 j.time] 62)) gv gb n b hn j.wa j.wcap j.waits hl hws ((hb.cell (p := ⟨gv, 0, none⟩) g0).trans h0) (by simp; omega) (hr.of_block (hb.block _ hr.lt)) (hI.below hb))
  have HR : Hid (readyJ b j = !(j.waits.any (notOver b))) := rfl
  rw [HR.out]
  generalize j.waits.any (notOver b) = B at *
  clear hI hr hws
  cases B <;>
  · go_enter Try.func22, Try.ntmps22
    go_wp2_with (go_at_call 23; ((with_reducible refine CO.out.mono ?_); rintro e w1 ⟨rfl, hb1⟩))
    go_ret
    exact ⟨rfl, below2 hb hb1⟩
/-- Jobs that lie in a row, and that may be asked whether all is over for which they wait. -/
structure JR (base g m cap n : Nat) (L : List JobIn) (w : World) : Prop where
  own : w.ownsRow base 62 3 (.slice (some ⟨g, 0, none⟩) m cap) m (jobVals L)
  len : L.length = m
theorem JR.cells {base g m cap n : Nat} {L : List JobIn} {w : World} (h : JR base g m cap n L w) {i : Nat} (hi : i < m) : g < w.heap.size ∧ w.cell? ⟨g, i * 3, none⟩ = some (.int .i64 ((L.getD i noj).blue : Int)) ∧ w.cell? ⟨g, i * 3 + 1, none⟩ = some (.slice (L.getD i noj).wa (L.getD i noj).waits.length (L.getD i noj).wcap) ∧ w.cell? ⟨g, i * 3 + 2, none⟩ = some (.int .i64 (L.getD i noj).time) := by
  have hl := h.len
  have key : ∀ j u, j < 3 → (jcells (L.getD i noj))[j]? = some u → w.cell? ⟨g, i * 3 + j, none⟩ = some u := fun j u hj hu => by
    have h2 : (jobVals L)[i * 3 + j]? = some u := (flat_get3 jcells 3 (fun _ => rfl) L noj i j (by omega) hj).trans hu
    rw [h.own.cellAt (i * 3 + j) (by omega)]
    exact h2
  exact ⟨(h.own.lt g rfl).2, key 0 _ (by decide) rfl, key 1 _ (by decide) rfl, key 2 _ (by decide) rfl⟩
end Quo
end Go.Proofs.Ytiabnjmblcogmaa
end
section
namespace Go.Proofs.Ytiabnjmblcogmaa
open Go.RowKit
namespace Quo
open Cat (fst fst_none fst_stay)
open Pen (below2 below_al below_dN)
open In (Ints)
/-- What is asked of jobs whose waits are looked at. -/
def JW (n : Nat) (L : List JobIn) (w : World) : Prop := ∀ i, i < L.length → (L.getD i noj).waits.length ≤ 4096 ∧ (∀ x, x ∈ (L.getD i noj).waits → 0 ≤ x ∧ x < (n : Int)) ∧ In.Ints .i64 w (L.getD i noj).wa (L.getD i noj).waits
theorem JW.below {n : Nat} {L : List JobIn} {w w' : World} (h : JW n L w) (hb : Below w.heap.size w w') : JW n L w' := fun i hi => ⟨(h i hi).1, (h i hi).2.1, (h i hi).2.2.below hb⟩
set_option maxRecDepth 100000 in
set_option maxHeartbeats 4000000 in
theorem indexJ_any (base g m cap n : Nat) (hn : n ≤ 4096) (hm : m ≤ 4096) (L : List JobIn) (gv gb : Nat) (b : List Bool) (w : World) (hJ : JR base g m cap n L w) (hW : JW n L w) (h0 : w.cell? ⟨gv, 0, none⟩ = some (.slice (some ⟨gb, 0, none⟩) n n)) (g0 : gv < w.heap.size) (hr : w.rowIs gb 4 n (fB b)) :
    Calls Try.prog 21 #[.slice (some ⟨g, 0, none⟩) m cap, .func (.func 22) #[] #[.pointer (some ⟨gv, 0, none⟩)]] w fun e w' => e = .returned (.int .i64 (fst (fun i => readyJ b (L.getD i noj)) m)) ∧ Below w.heap.size w w' := by
  have HJ := Lib.hid hJ
  have CP : Hid (∀ W k, k < m → Below w.heap.size w W → Calls Try.prog 22 #[.agg #[.int .i64 ((L.getD k noj).blue : Int), .slice (L.getD k noj).wa (L.getD k noj).waits.length (L.getD k noj).wcap, .int .i64 (L.getD k noj).time], .pointer (some ⟨gv, 0, none⟩)] W fun e w' => e = .returned (.bool (readyJ b (L.getD k noj))) ∧ Below W.heap.size W w') := fun W k hk hb => by
    obtain ⟨x1, x2, x3⟩ := hW k (by rw [hJ.len]; exact hk)
    exact p1_any gv gb n b hn (L.getD k noj) x1 x2 W ((hb.cell (p := ⟨gv, 0, none⟩) g0).trans h0) (Nat.lt_of_lt_of_le g0 hb.size) (hr.of_block (hb.block _ hr.lt)) (x3.below hb)
  obtain ⟨P, hP⟩ : ∃ P : Nat → Bool, Hid ((fun i => readyJ b (L.getD i noj)) = P) := ⟨_, rfl⟩
  have hP2 : ∀ k, readyJ b (L.getD k noj) = P k := fun k => congrFun hP.out k
  simp only [hP2] at CP
  rw [hP.out]
  obtain ⟨R, hR⟩ : ∃ R, Hid (fst P m = R) := ⟨_, rfl⟩
  rw [hR.out]
  have HY : Hid (∀ k, k < m → (∀ j, j < k → P j = false) → P k = true → R = (k : Int)) := fun k hk h h2 => by rw [← hR.out]; exact fst_stay P k ((fst_none P k).2 h) h2 m hk
  have HN : Hid ((∀ k, k < m → P k = false) → R = -1) := fun h => by rw [← hR.out]; exact (fst_none P m).2 h
  clear hJ hW h0 hr hP2 hP hR
  go_enter Try.func21, Try.ntmps21
  go_wp2
  go_loopw [8] (fun i wr => ∃ k : Nat, k ≤ m ∧ i = .int .i64 k ∧ Hid (∀ j, j < k → P j = false) ∧ Hid (Below w.heap.size w wr)) (fun i _ => m - (intOf i).toNat)
  case atStart => exact ⟨0, by omega, rfl, fun j hj => absurd hj (Nat.not_lt_zero j), Below.refl _ _⟩
  case round =>
    obtain ⟨k, hk, rfl, HM, HB⟩ := hrel
    by_cases hlt : k < m
    · obtain ⟨hgl, x0, x1, x2⟩ := HJ.out.cells hlt
      have z0 := (HB.out.cell (p := ⟨g, k * 3, none⟩) hgl).trans x0
      have z1 := (HB.out.cell (p := ⟨g, k * 3 + 1, none⟩) hgl).trans x1
      have z2 := (HB.out.cell (p := ⟨g, k * 3 + 2, none⟩) hgl).trans x2
      have hlt1 : (k : Int) < (m : Int) := by omega
      have CC := Lib.hid (fun W h => CP.out W k hlt h)
      have HYk := Lib.hid (HY.out k hlt HM.out)
      have HNk : Hid (P k = false → ∀ j, j < k + 1 → P j = false) := fun h j hj => by
        by_cases hjk : j = k
        · rw [hjk]; exact h
        · exact HM.out j (by omega)
      clear x0 x1 x2
      generalize P k = B at *
      generalize L.getD k noj = T at *
      obtain ⟨bl, wa, wc, ws, t⟩ := T
      dsimp only at z0 z1 z2 CC
      cases B
      · replace HNk := Lib.hid (HNk.out rfl)
        go_wp2_with (go_at_call 22; ((with_reducible refine (CC.out _ HB.out).mono ?_); rintro e w1 ⟨rfl, hb1⟩; have HB1 := Lib.hid (below2 HB.out hb1)))
        go_roundw
        case rel => exact ⟨k + 1, by omega, by go_num, HNk.out, HB1.out⟩
        case measure => simp [intOf]; omega
      · replace HYk := Lib.hid (HYk.out rfl)
        go_wp2_with (go_at_call 22; ((with_reducible refine (CC.out _ HB.out).mono ?_); rintro e w1 ⟨rfl, hb1⟩; have HB1 := Lib.hid (below2 HB.out hb1)))
        go_ret
        exact ⟨by rw [HYk.out]; rfl, HB1.out⟩
    · have hke : Hid (R = -1) := HN.out fun j hj => HM.out j (by omega)
      go_wp2
      go_ret
      exact ⟨by rw [hke.out]; rfl, HB.out⟩
/-- Appending within what a row has room for, in a region that draws its order. -/
theorem one_fits {o : Oper} {a : Act} {w : World} {K : Act → World → Prop} {Q : Exit → Act → World → Prop} (s x : Operand) (t : TypeId)
    (ho : o.op = .call { callee := .builtin .append, args := #[s, x], argTypes := #[t, t] }) (base : Nat) (e : TypeId) (i : TypeInfo) (size : Nat) (ht : Try.prog.underlying t = some (.slice e)) (hi : Try.prog.info? e = some i) (hsize : i.size = size)
    (g n cap : Nat) (xs : List Value) (hs : a.eval s = .slice (some ⟨g, 0, none⟩) n cap) (hown : w.ownsRow base e size (.slice (some ⟨g, 0, none⟩) n cap) n xs)
    (ad : Addr) (m c : Nat) (news : List Value) (hx : a.eval x = .slice (some ad) m c) (hl : news.length = m * size) (hnews : ∀ j u, news[j]? = some u → w.cell? (ad.add j) = some u) (h1 : ∀ u ∈ news, u.oneCell' = true) (hroom : n + m ≤ cap)
    (h : ∀ w', w'.ownsRow base e size (.slice (some ⟨g, 0, none⟩) (n + m) cap) (n + m) (xs ++ news) → w.grownBy w' (some g) → K (a.put o.dst (.slice (some ⟨g, 0, none⟩) (n + m) cap)) w') : o.wp Try.prog a w K Q := by
  obtain ⟨w', hr, h2, h3⟩ := run_append_fits (P := Try.prog) w base t o.type e i size ht hi hsize g n cap xs hown ad m c news hl hnews h1 hroom
  unfold Oper.wp execOp
  simp only [ho, resolve, invoke, builtin, Sem.run_bind, Sem.run_pure, Result.andThen_ok, List.map_toArray, List.map_cons, List.map_nil, hs, hx, hr]
  exact h w' h2 h3
theorem jobVals_take (L : List JobIn) (k : Nat) : (jobVals L).take (k * 3) = jobVals (L.take k) := by
  induction L generalizing k with
  | nil => simp [jobVals]
  | cons a L ih =>
    cases k with
    | zero => simp [jobVals]
    | succ k =>
      have e1 : jobVals (a :: L) = jcells a ++ jobVals L := rfl
      have e2 : jobVals ((a :: L).take (k + 1)) = jcells a ++ jobVals (L.take k) := rfl
      rw [e1, e2, List.take_append, ← ih k]
      have : (jcells a).length = 3 := rfl
      rw [this, show (k + 1) * 3 - 3 = k * 3 by omega, List.take_of_length_le (by rw [this]; omega)]
theorem jobVals_drop (L : List JobIn) (k : Nat) : (jobVals L).drop (k * 3) = jobVals (L.drop k) := by
  induction L generalizing k with
  | nil => simp [jobVals]
  | cons a L ih =>
    cases k with
    | zero => simp [jobVals]
    | succ k =>
      have e1 : jobVals (a :: L) = jcells a ++ jobVals L := rfl
      have e2 : jobVals ((a :: L).drop (k + 1)) = jobVals (L.drop k) := rfl
      have : (jcells a).length = 3 := rfl
      rw [e1, e2, List.drop_append, ← ih k, this, show (k + 1) * 3 - 3 = k * 3 by omega, List.drop_of_length_le (by rw [this]; omega), List.nil_append]
theorem jobVals_one (L : List JobIn) : ∀ u ∈ jobVals L, u.oneCell' = true := fun u hu => by
  unfold jobVals at hu
  rw [List.mem_flatMap] at hu
  obtain ⟨j, -, hj⟩ := hu
  simp [jcells] at hj
  rcases hj with rfl | rfl | rfl <;> rfl
end Quo
end Go.Proofs.Ytiabnjmblcogmaa
end
section
namespace Go.Proofs.Ytiabnjmblcogmaa
open Go.RowKit
namespace Quo
open Pen (below2 below_al below_dN)
theorem own_isSome {w : World} {base g n cap size : Nat} {e : TypeId} {xs : List Value} (h : w.ownsRow base e size (.slice (some ⟨g, 0, none⟩) n cap) n xs) (j : Nat) (hj : j < cap * size) : (w.cell? ⟨g, j, none⟩).isSome = true := by
  rcases h.2 with ⟨h0, _⟩ | ⟨g', cap', cur, hv, hb, hg, hn, hc, hs, ht⟩
  · cases h0
  · cases hv
    rw [cell_of_row _ _ _ _ _ _ hg]
    rw [Array.getElem?_eq_getElem (by omega)]
    rfl
theorem own_cap {w : World} {base g n cap size : Nat} {e : TypeId} {xs : List Value} (h : w.ownsRow base e size (.slice (some ⟨g, 0, none⟩) n cap) n xs) : n ≤ cap ∧ cap ≤ maxLen := by
  rcases h.2 with ⟨h0, _⟩ | ⟨g', cap', cur, hv, hb, hg, hn, hc, hs, ht⟩
  · cases h0
  · cases hv; exact ⟨hn, hc⟩
set_option maxRecDepth 100000 in
set_option maxHeartbeats 4000000 in
theorem deleteJ_any (base g M cap n : Nat) (hm : M ≤ 4096) (L : List JobIn) (w : World) (hJ : JR base g (M + 1) cap n L w) (k : Nat) (hk : k ≤ M) :
    Calls Try.prog 25 #[.slice (some ⟨g, 0, none⟩) (M + 1) cap, .int .i64 (k : Int), .int .i64 ((k : Int) + 1)] w fun e w' => e = .returned (.slice (some ⟨g, 0, none⟩) M cap) ∧ Hid (w'.ownsRow base 62 3 (.slice (some ⟨g, 0, none⟩) M cap) M (jobVals (L.eraseIdx k))) ∧ Hid (w.grownBy w' (some g)) := by
  obtain ⟨iJ, hiJ, hzJ, hzK, hzL⟩ := info_of infoJ
  have HJ := Lib.hid hJ
  obtain ⟨hc1, hc2⟩ := own_cap hJ.own
  unfold maxLen at hc2
  have hk0 : (0 : Int) ≤ (k : Int) := by omega
  have hk1 : (k : Int) + 1 ≤ (M : Int) + 1 := by omega
  have hk2 : (k : Int) ≤ (k : Int) + 1 := by omega
  have hk3 : (k : Int) ≤ (M : Int) + 1 := by omega
  have hcc : ((M : Int) + 1) ≤ (cap : Int) := by omega
  have hM5 : (M : Int) ≤ 4096 := by omega
  have hkc : k ≤ cap := by omega
  have hk4 : (0 : Int) ≤ (k : Int) + 1 := by omega
  have dk : ((k : Int) == (k : Int) + 1) = false := beq_eq_false_iff_ne.2 (by omega)
  have HL : Hid (L.length = M + 1) := hJ.len
  clear hJ
  go_enter Try.func25, Try.ntmps25
  go_upto_region 5 with (fail)
  have HP : Hid (w.ownsRow base 62 3 (.slice (some ⟨g, 0, none⟩) k cap) k (jobVals (L.take k))) := by show World.ownsRow _ _ _ _ _ _ _; rw [← jobVals_take]; exact own_short HJ.out.own k (by omega)
  obtain ⟨AD, hAD, HAD⟩ : ∃ AD : Addr, (if cap = k + 1 then some (⟨g, 0, none⟩ : Addr) else some ⟨g, (k + 1) * 3, none⟩) = some AD ∧ Hid (k < M → AD = ⟨g, (k + 1) * 3, none⟩) := by
    by_cases h : cap = k + 1
    · exact ⟨⟨g, 0, none⟩, by rw [if_pos h], fun h2 => by omega⟩
    · exact ⟨⟨g, (k + 1) * 3, none⟩, by rw [if_neg h], fun _ => rfl⟩
  have hcM : ¬ cap = M := by omega
  have HNw : Hid (∀ j u, (jobVals (L.drop (k + 1)))[j]? = some u → w.cell? (AD.add j) = some u) := fun j u hu => by
    have hjl0 := (List.getElem?_eq_some_iff.1 hu).1
    rw [jobVals_length, List.length_drop, HL.out] at hjl0
    rw [HAD.out (by omega)]
    have hadd : (⟨g, (k + 1) * 3, none⟩ : Addr).add j = ⟨g, (k + 1) * 3 + j, none⟩ := by unfold Addr.add; split <;> simp_all
    have hjl := (List.getElem?_eq_some_iff.1 hu).1
    rw [jobVals_length, List.length_drop, HL.out] at hjl
    rw [hadd, HJ.out.own.cellAt _ (by omega)]
    rw [← jobVals_drop, List.getElem?_drop] at hu
    exact hu
  refine Ord.wp_region_U (fun _ => True) [] (by kernel_rfl) ?_
  refine take_at (i := 0) (v := ?_) 20 rfl rfl (by kernel_rfl) (by kernel_rfl) (by kernel_rfl) (by kernel_rfl) (by kernel_rfl) (by kernel_rfl) (by kernel_rfl) (fun _ _ _ h => h) (Or.inl ⟨by kernel_rfl, ?_⟩) trivial ?_
  rotate_left
  · intro w hSw; go_simp; (try with_reducible rfl)
  try simp only [Act.put, List.setIfInBounds_toArray, List.set_cons_zero, List.set_cons_succ]
  refine take_at (i := 1) (v := ?_) 21 rfl rfl (by kernel_rfl) (by kernel_rfl) (by kernel_rfl) (by kernel_rfl) (by kernel_rfl) (by kernel_rfl) (by kernel_rfl) (fun _ _ _ h => h) (Or.inl ⟨by kernel_rfl, ?_⟩) trivial ?_
  rotate_left
  · intro w hSw; go_simp; (try with_reducible rfl)
  try simp only [Act.put, List.setIfInBounds_toArray, List.set_cons_zero, List.set_cons_succ]
  refine take_at (i := 2) (v := ?_) 22 rfl rfl (by kernel_rfl) (by kernel_rfl) (by kernel_rfl) (by kernel_rfl) (by kernel_rfl) (by kernel_rfl) (by kernel_rfl) (fun _ _ _ h => h) (Or.inl ⟨by kernel_rfl, ?_⟩) trivial ?_
  rotate_left
  · intro w hSw; go_simp; (try with_reducible rfl)
  try simp only [Act.put, List.setIfInBounds_toArray, List.set_cons_zero, List.set_cons_succ]
  refine take_at (i := 3) (v := ?_) 23 rfl rfl (by kernel_rfl) (by kernel_rfl) (by kernel_rfl) (by kernel_rfl) (by kernel_rfl) (by kernel_rfl) (by kernel_rfl) (fun _ _ _ h => h) (Or.inl ⟨by kernel_rfl, ?_⟩) trivial ?_
  rotate_left
  · intro w hSw; go_simp; (try with_reducible rfl)
  try simp only [Act.put, List.setIfInBounds_toArray, List.set_cons_zero, List.set_cons_succ]
  refine take_at (i := 4) (v := ?_) 24 rfl rfl (by kernel_rfl) (by kernel_rfl) (by kernel_rfl) (by kernel_rfl) (by kernel_rfl) (by kernel_rfl) (by kernel_rfl) (fun _ _ _ h => h) (Or.inl ⟨by kernel_rfl, ?_⟩) trivial ?_
  rotate_left
  · intro w hSw; go_simp; (try with_reducible rfl)
  try simp only [Act.put, List.setIfInBounds_toArray, List.set_cons_zero, List.set_cons_succ]
  refine take_at (i := 5) (v := ?_) 25 rfl rfl (by kernel_rfl) (by kernel_rfl) (by kernel_rfl) (by kernel_rfl) (by kernel_rfl) (by kernel_rfl) (by kernel_rfl) (fun _ _ _ h => h) (Or.inl ⟨by kernel_rfl, ?_⟩) trivial ?_
  rotate_left
  · intro w hSw; go_simp; (try with_reducible rfl)
  try simp only [Act.put, List.setIfInBounds_toArray, List.set_cons_zero, List.set_cons_succ]
  refine Ord.wpAnyU_one (i := 6) (by kernel_rfl) rfl (fun K hK => ?_)
  rw [if_pos (by rfl)]
  refine one_fits (.tmp 22) (.tmp 25) 56 rfl base 62 iJ 3 Try.underlying56 hiJ hzK g k cap (jobVals (L.take k)) ?e1 HP.out AD (M - k) (cap - (k + 1)) (jobVals (L.drop (k + 1))) ?e2 ?e3 HNw.out (jobVals_one _) (by omega) ?_
  case e1 => rfl
  case e2 => rfl
  case e3 => rw [jobVals_length, List.length_drop, HL.out]; omega
  intro w6 hown6 hgrow6
  rw [show k + (M - k) = M by omega]
  rw [show k + (M - k) = M by omega, ← jobVals_append, ← List.eraseIdx_eq_take_drop_succ] at hown6
  have HO6 := Lib.hid hown6
  have HG6 := Lib.hid hgrow6
  clear hown6 hgrow6
  refine hK.out _ _ (fun _ => trivial) ?_
  clear hK K
  try simp only [Act.put, List.setIfInBounds_toArray, List.set_cons_zero, List.set_cons_succ]
  refine Ord.wpAnyU_one (i := 7) (by kernel_rfl) rfl (fun K hK => ?_)
  go_simp
  refine hK.out _ _ (fun _ => trivial) ?_
  clear hK K
  try simp only [Act.put, List.setIfInBounds_toArray, List.set_cons_zero, List.set_cons_succ]
  refine Ord.wpAnyU_done (by kernel_rfl) ?_ _
  have hcl : ∀ ty, (Builtin.clear_ #[56] ty #[.slice (some ⟨g, M * 3, none⟩) 1 (cap - M)]).run Try.prog w6 = .ok (.tuple #[]) (w6.setCells g (M * 3) (Builtin.zeroCells #[.int .i64 0, .slice none 0 0, .int .i64 0] 1).toList) := fun ty => run_clearJ w6 ty g (M * 3) 1 (cap - M) (by decide) (fun j hj => own_isSome HO6.out _ (by omega)) (fun j hj => HO6.out.frozenAt _)
  have HO7 : Hid ((w6.setCells g (M * 3) (Builtin.zeroCells #[.int .i64 0, .slice none 0 0, .int .i64 0] 1).toList).ownsRow base 62 3 (.slice (some ⟨g, 0, none⟩) M cap) M (jobVals (L.eraseIdx k))) := by
    have h := own_clear HO6.out M (Nat.le_refl _) (Builtin.zeroCells #[.int .i64 0, .slice none 0 0, .int .i64 0] 1).toList
    rw [List.take_of_length_le (by rw [HO6.out.1]; exact Nat.le_refl _)] at h
    exact h
  have HG7 := Lib.hid (grw_trans HG6.out (grw_sets g (Builtin.zeroCells #[.int .i64 0, .slice none 0 0, .int .i64 0] 1).toList w6 (M * 3)))
  generalize (Builtin.zeroCells #[.int .i64 0, .slice none 0 0, .int .i64 0] 1).toList = Z at *
  go_wp2
  go_ret
  exact ⟨rfl, HO7, ⟨HG7.out.os, HG7.out.tape, HG7.out.output, HG7.out.size, HG7.out.block⟩⟩
end Quo
end Go.Proofs.Ytiabnjmblcogmaa
end
