/- Texts put together: QuoQ3, QuoQ4. -/
import Derived.Test.YtiabnjmblcogmaaM22
import Derived.Test.YtiabnjmblcogmaaM11
set_option linter.all false
section
namespace Go.Proofs.Ytiabnjmblcogmaa
open Go.RowKit
namespace Quo
open Rec (Stk stkVals)
open Pen (below2 below_al below_dN)
/-- When a job ends, by spans. -/
def endJ (o : List Stk) (j : JobIn) : Int := (o.getD j.blue (0, 0)).2
theorem keep5 {W V : World} {p1 p2 p3 p4 p5 : Addr} {a1 a2 a3 a4 a5 : Value} (h1 : Hid (W.cell? p1 = some a1 ∧ p1.block < W.heap.size)) (h2 : Hid (W.cell? p2 = some a2 ∧ p2.block < W.heap.size)) (h3 : Hid (W.cell? p3 = some a3 ∧ p3.block < W.heap.size)) (h4 : Hid (W.cell? p4 = some a4 ∧ p4.block < W.heap.size)) (h5 : Hid (W.cell? p5 = some a5 ∧ p5.block < W.heap.size)) (h : Hid (Below W.heap.size W V)) : V.cell? p1 = some a1 ∧ V.cell? p2 = some a2 ∧ V.cell? p3 = some a3 ∧ V.cell? p4 = some a4 ∧ V.cell? p5 = some a5 ∧ Hid (Below W.heap.size W V) :=
  ⟨(h.out.cell h1.out.2).trans h1.out.1, (h.out.cell h2.out.2).trans h2.out.1, (h.out.cell h3.out.2).trans h3.out.1, (h.out.cell h4.out.2).trans h4.out.1, (h.out.cell h5.out.2).trans h5.out.1, h⟩
theorem keep6 {W V : World} {p1 p2 p3 p4 p5 p6 : Addr} {a1 a2 a3 a4 a5 a6 : Value} (h1 : Hid (W.cell? p1 = some a1 ∧ p1.block < W.heap.size)) (h2 : Hid (W.cell? p2 = some a2 ∧ p2.block < W.heap.size)) (h3 : Hid (W.cell? p3 = some a3 ∧ p3.block < W.heap.size)) (h4 : Hid (W.cell? p4 = some a4 ∧ p4.block < W.heap.size)) (h5 : Hid (W.cell? p5 = some a5 ∧ p5.block < W.heap.size)) (h6 : Hid (W.cell? p6 = some a6 ∧ p6.block < W.heap.size)) (h : Hid (Below W.heap.size W V)) : V.cell? p1 = some a1 ∧ V.cell? p2 = some a2 ∧ V.cell? p3 = some a3 ∧ V.cell? p4 = some a4 ∧ V.cell? p5 = some a5 ∧ V.cell? p6 = some a6 ∧ Hid (Below W.heap.size W V) :=
  ⟨(h.out.cell h1.out.2).trans h1.out.1, (h.out.cell h2.out.2).trans h2.out.1, (h.out.cell h3.out.2).trans h3.out.1, (h.out.cell h4.out.2).trans h4.out.1, (h.out.cell h5.out.2).trans h5.out.1, (h.out.cell h6.out.2).trans h6.out.1, h⟩
theorem span_end {w : World} {base go n : Nat} {o : List Stk} (h : w.ownsRow base 46 2 (.slice (some ⟨go, 0, none⟩) n n) n (stkVals o)) (hl : o.length = n) {k : Nat} (hk : k < n) : w.cell? ⟨go, k * 2 + 1, none⟩ = some (.int .i64 (o.getD k (0, 0)).2) := by
  have hg := flat_get3 (fun x : Stk => [Value.int .i64 x.1, Value.int .i64 x.2]) 2 (fun _ => rfl) o (0, 0) k 1 (by omega) (by decide)
  rw [h.cellAt (k * 2 + 1) (by omega)]
  exact hg
set_option maxRecDepth 100000 in
set_option maxHeartbeats 4000000 in
theorem p2_any (gx base go n : Nat) (hn : n ≤ 4096) (o : List Stk) (ho : o.length = n) (a b : JobIn) (ha : a.blue < n) (hb : b.blue < n) (w : World) (h0 : w.cell? ⟨gx, 0, none⟩ = some (.slice (some ⟨go, 0, none⟩) n n)) (g0 : gx < w.heap.size) (hr : w.ownsRow base 46 2 (.slice (some ⟨go, 0, none⟩) n n) n (stkVals o)) :
    Calls Try.prog 27 #[.agg #[.int .i64 (a.blue : Int), .slice a.wa a.waits.length a.wcap, .int .i64 a.time], .agg #[.int .i64 (b.blue : Int), .slice b.wa b.waits.length b.wcap, .int .i64 b.time], .pointer (some ⟨gx, 0, none⟩)] w fun e w' => e = .returned (.int .i64 (Lib.compareInt (endJ o a) (endJ o b))) ∧ Below w.heap.size w w' := by
  have x0 := span_end hr ho ha
  have x1 := span_end hr ho hb
  have hgo := (hr.lt go rfl).2
  have CC : Hid (∀ (W : World) x y, Calls Try.prog 28 #[.int .i64 x, .int .i64 y] W fun e w' => e = .returned (.int .i64 (Lib.compareInt x y)) ∧ w' = W) := fun W x y => Try.cmp_Compare_int x y W
  have ea : endJ o a = (o.getD a.blue (0, 0)).2 := rfl
  have eb : endJ o b = (o.getD b.blue (0, 0)).2 := rfl
  rw [ea, eb]
  clear ea eb
  generalize (o.getD a.blue (0, 0)).2 = ea at *
  generalize (o.getD b.blue (0, 0)).2 = eb at *
  obtain ⟨ab, awa, awc, aws, at'⟩ := a
  obtain ⟨bb, bwa, bwc, bws, bt⟩ := b
  dsimp only at *
  have ha0 : (0 : Int) ≤ (ab : Int) := by omega
  have ha1 : (ab : Int) < (n : Int) := by omega
  have hb0 : (0 : Int) ≤ (bb : Int) := by omega
  have hb1 : (bb : Int) < (n : Int) := by omega
  clear hr ho
  go_enter Try.func27, Try.ntmps27
  go_upto_region 1 with (fail)
  have HW : Hid (Below w.heap.size w ((w.alloc (.cells #[.int .i64 (ab : Int), .slice awa aws.length awc, .int .i64 at'] 62)).alloc (.cells #[.int .i64 (bb : Int), .slice bwa bws.length bwc, .int .i64 bt] 62))) := below_al (below_al (Below.refl _ _) _) _
  have H1 : Hid (((w.alloc (.cells #[.int .i64 (ab : Int), .slice awa aws.length awc, .int .i64 at'] 62)).alloc (.cells #[.int .i64 (bb : Int), .slice bwa bws.length bwc, .int .i64 bt] 62)).cell? ⟨gx, 0, none⟩ = some (.slice (some ⟨go, 0, none⟩) n n) ∧ (⟨gx, 0, none⟩ : Addr).block < ((w.alloc (.cells #[.int .i64 (ab : Int), .slice awa aws.length awc, .int .i64 at'] 62)).alloc (.cells #[.int .i64 (bb : Int), .slice bwa bws.length bwc, .int .i64 bt] 62)).heap.size) := ⟨(HW.out.cell (p := ⟨gx, 0, none⟩) g0).trans h0, Nat.lt_of_lt_of_le g0 HW.out.size⟩
  have H2 : Hid (((w.alloc (.cells #[.int .i64 (ab : Int), .slice awa aws.length awc, .int .i64 at'] 62)).alloc (.cells #[.int .i64 (bb : Int), .slice bwa bws.length bwc, .int .i64 bt] 62)).cell? ⟨go, ab * 2 + 1, none⟩ = some (.int .i64 ea) ∧ (⟨go, ab * 2 + 1, none⟩ : Addr).block < ((w.alloc (.cells #[.int .i64 (ab : Int), .slice awa aws.length awc, .int .i64 at'] 62)).alloc (.cells #[.int .i64 (bb : Int), .slice bwa bws.length bwc, .int .i64 bt] 62)).heap.size) := ⟨(HW.out.cell (p := ⟨go, ab * 2 + 1, none⟩) hgo).trans x0, Nat.lt_of_lt_of_le hgo HW.out.size⟩
  have H3 : Hid (((w.alloc (.cells #[.int .i64 (ab : Int), .slice awa aws.length awc, .int .i64 at'] 62)).alloc (.cells #[.int .i64 (bb : Int), .slice bwa bws.length bwc, .int .i64 bt] 62)).cell? ⟨go, bb * 2 + 1, none⟩ = some (.int .i64 eb) ∧ (⟨go, bb * 2 + 1, none⟩ : Addr).block < ((w.alloc (.cells #[.int .i64 (ab : Int), .slice awa aws.length awc, .int .i64 at'] 62)).alloc (.cells #[.int .i64 (bb : Int), .slice bwa bws.length bwc, .int .i64 bt] 62)).heap.size) := ⟨(HW.out.cell (p := ⟨go, bb * 2 + 1, none⟩) hgo).trans x1, Nat.lt_of_lt_of_le hgo HW.out.size⟩
  have H4 : Hid (((w.alloc (.cells #[.int .i64 (ab : Int), .slice awa aws.length awc, .int .i64 at'] 62)).alloc (.cells #[.int .i64 (bb : Int), .slice bwa bws.length bwc, .int .i64 bt] 62)).cell? ⟨w.heap.size, 0, none⟩ = some (.int .i64 (ab : Int)) ∧ (⟨w.heap.size, 0, none⟩ : Addr).block < ((w.alloc (.cells #[.int .i64 (ab : Int), .slice awa aws.length awc, .int .i64 at'] 62)).alloc (.cells #[.int .i64 (bb : Int), .slice bwa bws.length bwc, .int .i64 bt] 62)).heap.size) := ⟨by go_simp, by simp; omega⟩
  have H5 : Hid (((w.alloc (.cells #[.int .i64 (ab : Int), .slice awa aws.length awc, .int .i64 at'] 62)).alloc (.cells #[.int .i64 (bb : Int), .slice bwa bws.length bwc, .int .i64 bt] 62)).cell? ⟨w.heap.size + 1, 0, none⟩ = some (.int .i64 (bb : Int)) ∧ (⟨w.heap.size + 1, 0, none⟩ : Addr).block < ((w.alloc (.cells #[.int .i64 (ab : Int), .slice awa aws.length awc, .int .i64 at'] 62)).alloc (.cells #[.int .i64 (bb : Int), .slice bwa bws.length bwc, .int .i64 bt] 62)).heap.size) := ⟨by go_simp, by simp⟩
  generalize (w.alloc (.cells #[.int .i64 (ab : Int), .slice awa aws.length awc, .int .i64 at'] 62)).alloc (.cells #[.int .i64 (bb : Int), .slice bwa bws.length bwc, .int .i64 bt] 62) = W1 at *
  have HT1 := Lib.hid (Below.refl W1.heap.size W1).drew
  go_region_held3 (fun V => V.cell? ⟨gx, 0, none⟩ = some (.slice (some ⟨go, 0, none⟩) n n) ∧ V.cell? ⟨go, ab * 2 + 1, none⟩ = some (.int .i64 ea) ∧ V.cell? ⟨go, bb * 2 + 1, none⟩ = some (.int .i64 eb) ∧ V.cell? ⟨w.heap.size, 0, none⟩ = some (.int .i64 (ab : Int)) ∧ V.cell? ⟨w.heap.size + 1, 0, none⟩ = some (.int .i64 (bb : Int)) ∧ Hid (Below W1.heap.size W1 V)) (first | exact keep5 H1 H2 H3 H4 H5 HT1)
    (first
    | (go_at_call 28; (with_reducible refine (CC.out _ _ _).mono ?_); rintro e w3 ⟨rfl, rfl⟩))
  go_wp2
  go_ret
  exact ⟨rfl, below2 HW.out HT1.out⟩
theorem jobrow_set3 {W : World} {g : Nat} {f : Nat → Value} (h : W.rowIs g 62 3 f) (a b c : Value) : (((W.setCell ⟨g, 0, none⟩ a).setCell ⟨g, 1, none⟩ b).setCell ⟨g, 2, none⟩ c).rowIs g 62 3 (fun i => if i = 0 then a else if i = 1 then b else c) := (((h.set 0 a).set 1 b).set 2 c).congr fun i hi => by
  match i, hi with
  | 0, _ => rfl
  | 1, _ => rfl
  | 2, _ => rfl
theorem jobrow_get {W : World} {g : Nat} {a b c : Value} (h : W.rowIs g 62 3 (fun i => if i = 0 then a else if i = 1 then b else c)) : W.cell? ⟨g, 0, none⟩ = some a ∧ W.cell? ⟨g, 1, none⟩ = some b ∧ W.cell? ⟨g, 2, none⟩ = some c ∧ W.frozen? ⟨g, 0, none⟩ = false ∧ W.frozen? ⟨g, 1, none⟩ = false ∧ W.frozen? ⟨g, 2, none⟩ = false ∧ g < W.heap.size :=
  ⟨h.cell (by decide), h.cell (by decide), h.cell (by decide), h.frozen 0, h.frozen 1, h.frozen 2, h.lt⟩
theorem jobrow_lit (W : World) (a b c : Value) : (W.alloc (.cells #[a, b, c] 62)).rowIs W.heap.size 62 3 (fun i => if i = 0 then a else if i = 1 then b else c) :=
  ⟨_, Own.heap_new W _, rfl, fun i hi => by
    match i, hi with
    | 0, _ => rfl
    | 1, _ => rfl
    | 2, _ => rfl⟩
theorem sizeJ : (Try.prog.info? 62).map (·.size) = some 3 := by kernel_rfl
theorem cmp_lt (x y : Int) : decide (Lib.compareInt x y < 0) = decide (x < y) := by
  unfold Lib.compareInt
  by_cases h : x < y
  · rw [if_pos h]; simp [h]
  · rw [if_neg h]
    by_cases h2 : x > y
    · rw [if_pos h2]; simp [h]
    · rw [if_neg h2]; simp [h]
/-- A job that ends no later than any other one. -/
def MinRes (E : JobIn → Int) (L : List JobIn) (m : Nat) (e : Ending) : Prop := ∃ q, q < m ∧ e = .returned (.agg #[.int .i64 ((L.getD q noj).blue : Int), .slice (L.getD q noj).wa (L.getD q noj).waits.length (L.getD q noj).wcap, .int .i64 (L.getD q noj).time]) ∧ ∀ j, j < m → E (L.getD q noj) ≤ E (L.getD j noj)
theorem results_cell {fn : Func} {p : Tmp} {ty : TypeId} (h : fn.results = #[.cell p ty]) (tmps : Array Value) (P : Program) (w : World) :
    (results fn tmps).run P w = ((asAddr (tmps.getD p undef)).run P w).andThen fun a w₁ => (loadVar ty a).run P w₁ := by
  simp only [results, h]
  simp [Sem.run_bind, Result.andThen]
/-- What lies while the first job that ends is looked for. -/
structure MN (w : World) (j : JobIn) (W : World) : Prop where
  fr : Below w.heap.size w W
  res : W.rowIs w.heap.size 62 3 (fun i => if i = 0 then .int .i64 0 else if i = 1 then .slice none 0 0 else .int .i64 0)
  row : W.rowIs (w.heap.size + 1) 62 3 (fun i => if i = 0 then .int .i64 (j.blue : Int) else if i = 1 then .slice j.wa j.waits.length j.wcap else .int .i64 j.time)
theorem MN.below {w : World} {j : JobIn} {W W' : World} (h : MN w j W) (hb : Below W.heap.size W W') : MN w j W' := ⟨h.fr.trans (hb.mono h.fr.size), h.res.of_block (hb.block _ h.res.lt), h.row.of_block (hb.block _ h.row.lt)⟩
theorem MN.set {w : World} {j : JobIn} {W : World} (h : MN w j W) (j2 : JobIn) : MN w j2 (((W.setCell ⟨w.heap.size + 1, 0, none⟩ (.int .i64 (j2.blue : Int))).setCell ⟨w.heap.size + 1, 1, none⟩ (.slice j2.wa j2.waits.length j2.wcap)).setCell ⟨w.heap.size + 1, 2, none⟩ (.int .i64 j2.time)) :=
  ⟨((h.fr.setCell (Nat.le_succ _) _).setCell (Nat.le_succ _) _).setCell (Nat.le_succ _) _, ((h.res.setOther (Nat.succ_ne_self _).symm _).setOther (Nat.succ_ne_self _).symm _).setOther (Nat.succ_ne_self _).symm _, jobrow_set3 h.row _ _ _⟩
theorem MN.new (w : World) (j : JobIn) : MN w j ((w.alloc (.cells #[.int .i64 0, .slice none 0 0, .int .i64 0] 62)).alloc (.cells #[.int .i64 (j.blue : Int), .slice j.wa j.waits.length j.wcap, .int .i64 j.time] 62)) := by
  have h2 := jobrow_lit (w.alloc (.cells #[.int .i64 0, .slice none 0 0, .int .i64 0] 62)) (.int .i64 (j.blue : Int)) (.slice j.wa j.waits.length j.wcap) (.int .i64 j.time)
  rw [show (w.alloc (.cells #[.int .i64 0, .slice none 0 0, .int .i64 0] 62)).heap.size = w.heap.size + 1 by simp] at h2
  exact ⟨below_al (below_al (Below.refl _ _) _) _, (jobrow_lit w _ _ _).of_block ((below_al (Below.refl _ _) _).block _ (by simp)), h2⟩
set_option maxRecDepth 100000 in
set_option maxHeartbeats 4000000 in
theorem minJ_any (base g m cap n : Nat) (hn : n ≤ 4096) (hm : m ≤ 4096) (hm0 : 0 < m) (L : List JobIn) (gx bs go : Nat) (o : List Stk) (ho : o.length = n) (w : World) (hJ : JR base g m cap n L w) (hb : ∀ i, i < m → (L.getD i noj).blue < n) (h0 : w.cell? ⟨gx, 0, none⟩ = some (.slice (some ⟨go, 0, none⟩) n n)) (g0 : gx < w.heap.size) (hr : w.ownsRow bs 46 2 (.slice (some ⟨go, 0, none⟩) n n) n (stkVals o)) :
    Calls Try.prog 26 #[.slice (some ⟨g, 0, none⟩) m cap, .func (.func 27) #[] #[.pointer (some ⟨gx, 0, none⟩)]] w fun e w' => MinRes (endJ o) L m e ∧ Below w.heap.size w w' := by
  have HJ := Lib.hid hJ
  have CP : Hid (∀ W i q, i < m → q < m → Below w.heap.size w W → Calls Try.prog 27 #[.agg #[.int .i64 ((L.getD i noj).blue : Int), .slice (L.getD i noj).wa (L.getD i noj).waits.length (L.getD i noj).wcap, .int .i64 (L.getD i noj).time], .agg #[.int .i64 ((L.getD q noj).blue : Int), .slice (L.getD q noj).wa (L.getD q noj).waits.length (L.getD q noj).wcap, .int .i64 (L.getD q noj).time], .pointer (some ⟨gx, 0, none⟩)] W fun e w' => e = .returned (.int .i64 (Lib.compareInt (endJ o (L.getD i noj)) (endJ o (L.getD q noj)))) ∧ Below W.heap.size W w') := fun W i q hi hq h =>
    p2_any gx bs go n hn o ho _ _ (hb i hi) (hb q hq) W ((h.cell (p := ⟨gx, 0, none⟩) g0).trans h0) (Nat.lt_of_lt_of_le g0 h.size) (Own.own_below hr h)
  obtain ⟨hgl, x0, x1, x2⟩ := hJ.cells hm0
  have HN0 := Lib.hid (MN.new w (L.getD 0 noj))
  obtain ⟨E, hE⟩ : ∃ E : JobIn → Int, Hid (endJ o = E) := ⟨_, rfl⟩
  rw [hE.out] at CP ⊢
  clear hJ hb h0 hr hE ho
  have hm1 : ¬ (m : Int) < 1 := by omega
  have dm1 : decide ((m : Int) < 1) = false := decide_eq_false hm1
  have hmp : (0 : Int) < (m : Int) := by omega
  have x1' : w.cell? ⟨g, 1, none⟩ = _ := (show 0 * 3 + 1 = 1 by rfl) ▸ x1
  have x2' : w.cell? ⟨g, 2, none⟩ = _ := (show 0 * 3 + 2 = 2 by rfl) ▸ x2
  have x0' : w.cell? ⟨g, 0, none⟩ = _ := (show 0 * 3 = 0 by rfl) ▸ x0
  clear x0 x1 x2
  generalize hj0 : L.getD 0 noj = J0 at *
  replace hj0 := Lib.hid hj0
  go_enter Try.func26, Try.ntmps26
  go_wp2
  go_loopw [6] (fun v6 wr => ∃ k q : Nat, 1 ≤ k ∧ k ≤ m ∧ q < m ∧ v6 = .int .i64 (k : Int) ∧ Hid (∀ j, j < k → E (L.getD q noj) ≤ E (L.getD j noj)) ∧ Hid (MN w (L.getD q noj) wr)) (fun v6 _ => m - (intOf v6).toNat)
  case atStart => exact ⟨1, 0, Nat.le_refl _, by omega, hm0, rfl, fun j hj => (show j = 0 by omega) ▸ Int.le_refl _, by rw [hj0.out]; exact HN0.out⟩
  case round =>
    clear x0' x1' x2' HN0
    obtain ⟨k, q, hk1, hkm, hqm, rfl, HE, HN⟩ := hrel
    obtain ⟨r0, r1, r2, e0, e1, e2, rl⟩ := jobrow_get HN.out.row
    by_cases hlt : k < m
    · have hlt1 : (k : Int) < (m : Int) := by omega
      have dk : decide ((k : Int) < (m : Int)) = true := decide_eq_true hlt1
      have hk0 : (0 : Int) ≤ (k : Int) := by omega
      have hk20 : (k : Int) ≤ 4096 := by omega
      obtain ⟨-, x0, x1, x2⟩ := HJ.out.cells hlt
      have HA0 : Hid (wr.cell? ⟨g, k * 3, none⟩ = some (.int .i64 ((L.getD k noj).blue : Int)) ∧ (⟨g, k * 3, none⟩ : Addr).block < wr.heap.size) := ⟨(HN.out.fr.cell (p := ⟨g, k * 3, none⟩) hgl).trans x0, Nat.lt_of_lt_of_le hgl HN.out.fr.size⟩
      have HA1 : Hid (wr.cell? ⟨g, k * 3 + 1, none⟩ = some (.slice (L.getD k noj).wa (L.getD k noj).waits.length (L.getD k noj).wcap) ∧ (⟨g, k * 3 + 1, none⟩ : Addr).block < wr.heap.size) := ⟨(HN.out.fr.cell (p := ⟨g, k * 3 + 1, none⟩) hgl).trans x1, Nat.lt_of_lt_of_le hgl HN.out.fr.size⟩
      have HA2 : Hid (wr.cell? ⟨g, k * 3 + 2, none⟩ = some (.int .i64 (L.getD k noj).time) ∧ (⟨g, k * 3 + 2, none⟩ : Addr).block < wr.heap.size) := ⟨(HN.out.fr.cell (p := ⟨g, k * 3 + 2, none⟩) hgl).trans x2, Nat.lt_of_lt_of_le hgl HN.out.fr.size⟩
      have HB0 : Hid (wr.cell? ⟨w.heap.size + 1, 0, none⟩ = some (.int .i64 ((L.getD q noj).blue : Int)) ∧ (⟨w.heap.size + 1, 0, none⟩ : Addr).block < wr.heap.size) := ⟨r0, rl⟩
      have HB1 : Hid (wr.cell? ⟨w.heap.size + 1, 1, none⟩ = some (.slice (L.getD q noj).wa (L.getD q noj).waits.length (L.getD q noj).wcap) ∧ (⟨w.heap.size + 1, 1, none⟩ : Addr).block < wr.heap.size) := ⟨r1, rl⟩
      have HB2 : Hid (wr.cell? ⟨w.heap.size + 1, 2, none⟩ = some (.int .i64 (L.getD q noj).time) ∧ (⟨w.heap.size + 1, 2, none⟩ : Addr).block < wr.heap.size) := ⟨r2, rl⟩
      have CPk := Lib.hid (fun W h => CP.out W k q hlt hqm h)
      have HEy : Hid (E (L.getD k noj) < E (L.getD q noj) → ∀ j, j < k + 1 → E (L.getD k noj) ≤ E (L.getD j noj)) := fun h j hj => by
        by_cases e : j = k
        · rw [e]; exact Int.le_refl _
        · have := HE.out j (by omega); omega
      have HEn : Hid (¬ E (L.getD k noj) < E (L.getD q noj) → ∀ j, j < k + 1 → E (L.getD q noj) ≤ E (L.getD j noj)) := fun h j hj => by
        by_cases e : j = k
        · rw [e]; omega
        · exact HE.out j (by omega)
      have hcv := cmp_lt (E (L.getD k noj)) (E (L.getD q noj))
      obtain ⟨A, hA⟩ : ∃ A, Hid (L.getD k noj = A) := ⟨_, rfl⟩
      obtain ⟨Bq, hBq⟩ : ∃ Bq, Hid (L.getD q noj = Bq) := ⟨_, rfl⟩
      rw [hA.out] at HA0 HA1 HA2 CPk HEy HEn hcv
      rw [hBq.out] at HB0 HB1 HB2 CPk HEy HEn hcv HN
      generalize Lib.compareInt (E A) (E Bq) = cv at *
      clear x0 x1 x2 r0 r1 r2 e0 e1 e2
      by_cases hc : E A < E Bq
      · rw [decide_eq_true hc] at hcv
        have hcv2 := of_decide_eq_true hcv
        have HEz := Lib.hid (HEy.out hc)
        clear hc HEy HEn
        obtain ⟨ab, awa, awc, aws, at'⟩ := A
        obtain ⟨bb, bwa, bwc, bws, bt⟩ := Bq
        dsimp only at *
        go_upto_region 7 with (fail)
        have HT1 := Lib.hid (Below.refl wr.heap.size wr).drew
        go_region_held3 (fun V => V.cell? ⟨g, k * 3, none⟩ = some (.int .i64 (ab : Int)) ∧ V.cell? ⟨g, k * 3 + 1, none⟩ = some (.slice awa aws.length awc) ∧ V.cell? ⟨g, k * 3 + 2, none⟩ = some (.int .i64 at') ∧ V.cell? ⟨w.heap.size + 1, 0, none⟩ = some (.int .i64 (bb : Int)) ∧ V.cell? ⟨w.heap.size + 1, 1, none⟩ = some (.slice bwa bws.length bwc) ∧ V.cell? ⟨w.heap.size + 1, 2, none⟩ = some (.int .i64 bt) ∧ Hid (Below wr.heap.size wr V)) (first | exact keep6 HA0 HA1 HA2 HB0 HB1 HB2 HT2 | exact keep6 HA0 HA1 HA2 HB0 HB1 HB2 HT1)
          (first
          | (go_at_call 27; (with_reducible refine (CPk.out _ (below2 HN.out.fr HT1.out)).mono ?_); rintro e w3 ⟨rfl, hb3⟩; have HT2 := Lib.hid (below2 HT1.out hb3)))
        have HN3 := Lib.hid (HN.out.below HT2.out)
        obtain ⟨r0, r1, r2, e0, e1, e2, rl⟩ := jobrow_get HN3.out.row
        obtain ⟨y0, y1, y2, -, -, -, -⟩ := keep6 HA0 HA1 HA2 HB0 HB1 HB2 HT2
        have hgw3 : g < w3.heap.size := Nat.lt_of_lt_of_le HA0.out.2 HT2.out.size
        have hgne : ¬ g = w.heap.size + 1 := by omega
        have HN4 := Lib.hid (HN3.out.set ⟨ab, awa, awc, aws, at'⟩)
        go_wp2
        go_roundw
        case rel => exact ⟨k + 1, k, by omega, by omega, hlt, by go_num, by rw [hA.out]; exact HEz.out, by rw [hA.out]; exact HN4.out⟩
        case measure => simp [intOf] <;> omega
      · rw [decide_eq_false hc] at hcv
        have hcv2 := of_decide_eq_false hcv
        have HEz := Lib.hid (HEn.out hc)
        clear hc HEy HEn
        obtain ⟨ab, awa, awc, aws, at'⟩ := A
        obtain ⟨bb, bwa, bwc, bws, bt⟩ := Bq
        dsimp only at *
        go_upto_region 7 with (fail)
        have HT1 := Lib.hid (Below.refl wr.heap.size wr).drew
        go_region_held3 (fun V => V.cell? ⟨g, k * 3, none⟩ = some (.int .i64 (ab : Int)) ∧ V.cell? ⟨g, k * 3 + 1, none⟩ = some (.slice awa aws.length awc) ∧ V.cell? ⟨g, k * 3 + 2, none⟩ = some (.int .i64 at') ∧ V.cell? ⟨w.heap.size + 1, 0, none⟩ = some (.int .i64 (bb : Int)) ∧ V.cell? ⟨w.heap.size + 1, 1, none⟩ = some (.slice bwa bws.length bwc) ∧ V.cell? ⟨w.heap.size + 1, 2, none⟩ = some (.int .i64 bt) ∧ Hid (Below wr.heap.size wr V)) (first | exact keep6 HA0 HA1 HA2 HB0 HB1 HB2 HT2 | exact keep6 HA0 HA1 HA2 HB0 HB1 HB2 HT1)
          (first
          | (go_at_call 27; (with_reducible refine (CPk.out _ (below2 HN.out.fr HT1.out)).mono ?_); rintro e w3 ⟨rfl, hb3⟩; have HT2 := Lib.hid (below2 HT1.out hb3)))
        have HN3 := Lib.hid (HN.out.below HT2.out)
        go_wp2
        go_roundw
        case rel => exact ⟨k + 1, q, by omega, by omega, hqm, by go_num, by rw [hBq.out]; exact HEz.out, by rw [hBq.out]; exact HN3.out⟩
        case measure => simp [intOf] <;> omega
    · have hlt1 : ¬ (k : Int) < (m : Int) := by omega
      have dk : decide ((k : Int) < (m : Int)) = false := decide_eq_false hlt1
      have HEm : Hid (∀ j, j < m → E (L.getD q noj) ≤ E (L.getD j noj)) := fun j hj => HE.out j (by omega)
      obtain ⟨s0, s1, s2, f0, f1, f2, sl⟩ := jobrow_get HN.out.res
      have hfr := HN.out.fr
      generalize hBq : L.getD q noj = Bq at *
      replace hBq := Lib.hid hBq
      obtain ⟨bb, bwa, bwc, bws, bt⟩ := Bq
      dsimp only at *
      go_wp2
      try simp only [Exit.inBlock, Exit.then]
      refine bodyPost_ret (v := .agg #[.int .i64 (bb : Int), .slice bwa bws.length bwc, .int .i64 bt]) (by rw [results_cell rfl]; go_simp) rfl ⟨⟨q, hqm, by rw [hBq.out], by rw [hBq.out]; exact HEm.out⟩, ?_⟩
      exact ((hfr.setCell (Nat.le_refl _) _).setCell (Nat.le_refl _) _).setCell (Nat.le_refl _) _
end Quo
end Go.Proofs.Ytiabnjmblcogmaa
end
section
namespace Go.Proofs.Ytiabnjmblcogmaa
open Go.RowKit
namespace Quo
open Rec (Stk stkVals)
open Pen (below2 below_al below_dN)
/-- What lies where jobs are told to be over. -/
structure OV (gx gn gv go gb bs n : Nat) (o : List Stk) (now : Int) (b : List Bool) (W : World) : Prop where
  c0 : W.cell? ⟨gx, 0, none⟩ = some (.slice (some ⟨go, 0, none⟩) n n)
  c1 : W.cell? ⟨gn, 0, none⟩ = some (.int .i64 now)
  c2 : W.cell? ⟨gv, 0, none⟩ = some (.slice (some ⟨gb, 0, none⟩) n n)
  own : W.ownsRow bs 46 2 (.slice (some ⟨go, 0, none⟩) n n) n (stkVals o)
  row : W.rowIs gb 4 n (fB b)
  l0 : gx < W.heap.size
  l1 : gn < W.heap.size
  l2 : gv < W.heap.size
  n0 : gb ≠ gx
  n1 : gb ≠ gn
  n2 : gb ≠ gv
  n3 : gb ≠ go
  ol : o.length = n
  bl : b.length = n
section
variable {gx gn gv go gb bs n : Nat} {o : List Stk} {now : Int} {b : List Bool} {W W' : World}
/-- Another block has changed. -/
theorem OV.grown (h : OV gx gn gv go gb bs n o now b W) {g : Nat} (hg : W.grownBy W' (some g)) (h0 : g ≠ gx) (h1 : g ≠ gn) (h2 : g ≠ gv) (h3 : g ≠ go) (h4 : g ≠ gb) : OV gx gn gv go gb bs n o now b W' :=
  ⟨cell_grown hg h.l0 (fun e => h0 (Option.some.inj e)) h.c0, cell_grown hg h.l1 (fun e => h1 (Option.some.inj e)) h.c1, cell_grown hg h.l2 (fun e => h2 (Option.some.inj e)) h.c2, h.own.kept hg (.inr fun e => h3 (Option.some.inj e).symm), h.row.of_block (hg.block _ h.row.lt fun e => h4 (Option.some.inj e).symm), Nat.lt_of_lt_of_le h.l0 hg.size, Nat.lt_of_lt_of_le h.l1 hg.size, Nat.lt_of_lt_of_le h.l2 hg.size, h.n0, h.n1, h.n2, h.n3, h.ol, h.bl⟩
theorem OV.below (h : OV gx gn gv go gb bs n o now b W) (hb : Below W.heap.size W W') : OV gx gn gv go gb bs n o now b W' :=
  ⟨(hb.cell (p := ⟨gx, 0, none⟩) h.l0).trans h.c0, (hb.cell (p := ⟨gn, 0, none⟩) h.l1).trans h.c1, (hb.cell (p := ⟨gv, 0, none⟩) h.l2).trans h.c2, Own.own_below h.own hb, h.row.of_block (hb.block _ h.row.lt), Nat.lt_of_lt_of_le h.l0 hb.size, Nat.lt_of_lt_of_le h.l1 hb.size, Nat.lt_of_lt_of_le h.l2 hb.size, h.n0, h.n1, h.n2, h.n3, h.ol, h.bl⟩
theorem OV.setB (h : OV gx gn gv go gb bs n o now b W) {k : Nat} (hk : k < n) (x : Bool) : OV gx gn gv go gb bs n o now (b.set k x) (W.setCell ⟨gb, k, none⟩ (.bool x)) := by
  have hg := grw_set W gb k (.bool x)
  have hl := h.bl
  refine ⟨cell_grown hg h.l0 (fun e => h.n0 (Option.some.inj e)) h.c0, cell_grown hg h.l1 (fun e => h.n1 (Option.some.inj e)) h.c1, cell_grown hg h.l2 (fun e => h.n2 (Option.some.inj e)) h.c2, h.own.kept hg (.inr fun e => h.n3 (Option.some.inj e).symm), (h.row.set k _).congr fun i hi => ?_, Nat.lt_of_lt_of_le h.l0 hg.size, Nat.lt_of_lt_of_le h.l1 hg.size, Nat.lt_of_lt_of_le h.l2 hg.size, h.n0, h.n1, h.n2, h.n3, h.ol, by rw [List.length_set]; exact h.bl⟩
  unfold fB
  rw [getD_set _ _ _ _ _ (by omega)]
  split <;> rfl
end
set_option maxRecDepth 100000 in
set_option maxHeartbeats 8000000 in
theorem p3_any (gx gn gv go gb bs n : Nat) (hn : n ≤ 4096) (o : List Stk) (now : Int) (b : List Bool) (a : JobIn) (ha : a.blue < n) (w : World) (hO : OV gx gn gv go gb bs n o now b w) :
    Calls Try.prog 30 #[.agg #[.int .i64 (a.blue : Int), .slice a.wa a.waits.length a.wcap, .int .i64 a.time], .pointer (some ⟨gx, 0, none⟩), .pointer (some ⟨gn, 0, none⟩), .pointer (some ⟨gv, 0, none⟩)] w fun e w' => e = .returned (.bool (decide (endJ o a ≤ now))) ∧ Hid (OV gx gn gv go gb bs n o now (b.set a.blue (decide (endJ o a ≤ now))) w') ∧ Hid (w.grownBy w' (some gb)) := by
  have x0 := span_end hO.own hO.ol ha
  have hgo := (hO.own.lt go rfl).2
  have hgb := hO.row.lt
  have HO := Lib.hid hO
  have ea : endJ o a = (o.getD a.blue (0, 0)).2 := rfl
  rw [ea]
  clear ea
  generalize (o.getD a.blue (0, 0)).2 = ea at *
  obtain ⟨ab, awa, awc, aws, at'⟩ := a
  dsimp only at *
  have ha0 : (0 : Int) ≤ (ab : Int) := by omega
  have ha1 : (ab : Int) < (n : Int) := by omega
  have ha20 : (ab : Int) ≤ 4096 := by omega
  have hbx : w.cell? ⟨gb, ab, none⟩ = some (.bool (b.getD ab false)) := hO.row.cell ha
  have hbf := World.rowIs.frozen hO.row ab
  obtain ⟨D, hD⟩ : ∃ D, decide (ea ≤ now) = D := ⟨_, rfl⟩
  rw [hD]
  go_enter Try.func30, Try.ntmps30
  go_upto_region 1 with (fail)
  have HW : Hid (Below w.heap.size w (w.alloc (.cells #[.int .i64 (ab : Int), .slice awa aws.length awc, .int .i64 at'] 62))) := below_al (Below.refl _ _) _
  have HO1 := Lib.hid (HO.out.below HW.out)
  have z0 := (HW.out.cell (p := ⟨go, ab * 2 + 1, none⟩) hgo).trans x0
  have z1 := (HW.out.cell (p := ⟨gb, ab, none⟩) hgb).trans hbx
  have z2 := (HW.out.frozen (p := ⟨gb, ab, none⟩) hgb).trans hbf
  have z3 : (w.alloc (.cells #[.int .i64 (ab : Int), .slice awa aws.length awc, .int .i64 at'] 62)).cell? ⟨w.heap.size, 0, none⟩ = some (.int .i64 (ab : Int)) := by go_simp
  have z4 : w.heap.size < (w.alloc (.cells #[.int .i64 (ab : Int), .slice awa aws.length awc, .int .i64 at'] 62)).heap.size := by simp
  have z5 : ¬ gb = w.heap.size := by omega
  have hHeld : (w.alloc (.cells #[.int .i64 (ab : Int), .slice awa aws.length awc, .int .i64 at'] 62)).drew.cell? ⟨gx, 0, none⟩ = some (.slice (some ⟨go, 0, none⟩) n n) ∧ (w.alloc (.cells #[.int .i64 (ab : Int), .slice awa aws.length awc, .int .i64 at'] 62)).drew.cell? ⟨gn, 0, none⟩ = some (.int .i64 now) ∧ (w.alloc (.cells #[.int .i64 (ab : Int), .slice awa aws.length awc, .int .i64 at'] 62)).drew.cell? ⟨gv, 0, none⟩ = some (.slice (some ⟨gb, 0, none⟩) n n) ∧ (w.alloc (.cells #[.int .i64 (ab : Int), .slice awa aws.length awc, .int .i64 at'] 62)).drew.cell? ⟨go, ab * 2 + 1, none⟩ = some (.int .i64 ea) ∧ (w.alloc (.cells #[.int .i64 (ab : Int), .slice awa aws.length awc, .int .i64 at'] 62)).drew.cell? ⟨w.heap.size, 0, none⟩ = some (.int .i64 (ab : Int)) := ⟨HO1.out.c0, HO1.out.c1, HO1.out.c2, z0, z3⟩
  have HO2 : Hid (OV gx gn gv go gb bs n o now b (w.alloc (.cells #[.int .i64 (ab : Int), .slice awa aws.length awc, .int .i64 at'] 62)).drew) := HO1.out.below (Below.refl _ _).drew
  have y1 : (w.alloc (.cells #[.int .i64 (ab : Int), .slice awa aws.length awc, .int .i64 at'] 62)).drew.cell? ⟨gb, ab, none⟩ = some (.bool (b.getD ab false)) := z1
  have y2 : (w.alloc (.cells #[.int .i64 (ab : Int), .slice awa aws.length awc, .int .i64 at'] 62)).drew.frozen? ⟨gb, ab, none⟩ = false := z2
  have HG : Hid (w.grownBy (w.alloc (.cells #[.int .i64 (ab : Int), .slice awa aws.length awc, .int .i64 at'] 62)).drew (some gb)) := ⟨HW.out.os, HW.out.tape, HW.out.output, HW.out.size, fun k hk _ => HW.out.block k hk⟩
  have y4 : w.heap.size < (w.alloc (.cells #[.int .i64 (ab : Int), .slice awa aws.length awc, .int .i64 at'] 62)).drew.heap.size := z4
  clear z0 z1 z2 z3 z4 x0 hbx hbf HO1 HO
  refine Ord.wp_region_U (fun W' => W'.cell? ⟨gx, 0, none⟩ = some (.slice (some ⟨go, 0, none⟩) n n) ∧ W'.cell? ⟨gn, 0, none⟩ = some (.int .i64 now) ∧ W'.cell? ⟨gv, 0, none⟩ = some (.slice (some ⟨gb, 0, none⟩) n n) ∧ W'.cell? ⟨go, ab * 2 + 1, none⟩ = some (.int .i64 ea) ∧ W'.cell? ⟨w.heap.size, 0, none⟩ = some (.int .i64 (ab : Int))) [12] (by kernel_rfl) ?_
  generalize (w.alloc (.cells #[.int .i64 (ab : Int), .slice awa aws.length awc, .int .i64 at'] 62)).drew = W1 at *
  generalize b.getD ab false = b0 at *
  refine take_at (i := 0) (v := ?_) 6 rfl rfl (by kernel_rfl) (by kernel_rfl) (by kernel_rfl) (by kernel_rfl) (by kernel_rfl) (by kernel_rfl) (by kernel_rfl) (fun _ _ _ h => h) (Or.inl ⟨by kernel_rfl, ?_⟩) hHeld ?_
  rotate_left
  · intro w hSw; (try dsimp only at hSw); (try obtain ⟨f0, f1, f2, f3, f4⟩ := hSw); go_simp; (try with_reducible rfl)
  try simp only [Act.put, List.setIfInBounds_toArray, List.set_cons_zero, List.set_cons_succ]
  refine take_at (i := 1) (v := ?_) 7 rfl rfl (by kernel_rfl) (by kernel_rfl) (by kernel_rfl) (by kernel_rfl) (by kernel_rfl) (by kernel_rfl) (by kernel_rfl) (fun _ _ _ h => h) (Or.inl ⟨by kernel_rfl, ?_⟩) hHeld ?_
  rotate_left
  · intro w hSw; (try dsimp only at hSw); (try obtain ⟨f0, f1, f2, f3, f4⟩ := hSw); go_simp; (try with_reducible rfl)
  try simp only [Act.put, List.setIfInBounds_toArray, List.set_cons_zero, List.set_cons_succ]
  refine take_at (i := 2) (v := ?_) 8 rfl rfl (by kernel_rfl) (by kernel_rfl) (by kernel_rfl) (by kernel_rfl) (by kernel_rfl) (by kernel_rfl) (by kernel_rfl) (fun _ _ _ h => h) (Or.inl ⟨by kernel_rfl, ?_⟩) hHeld ?_
  rotate_left
  · intro w hSw; (try dsimp only at hSw); (try obtain ⟨f0, f1, f2, f3, f4⟩ := hSw); go_simp; (try with_reducible rfl)
  try simp only [Act.put, List.setIfInBounds_toArray, List.set_cons_zero, List.set_cons_succ]
  refine take_at (i := 3) (v := ?_) 9 rfl rfl (by kernel_rfl) (by kernel_rfl) (by kernel_rfl) (by kernel_rfl) (by kernel_rfl) (by kernel_rfl) (by kernel_rfl) (fun _ _ _ h => h) (Or.inl ⟨by kernel_rfl, ?_⟩) hHeld ?_
  rotate_left
  · intro w hSw; (try dsimp only at hSw); (try obtain ⟨f0, f1, f2, f3, f4⟩ := hSw); go_simp; (try with_reducible rfl)
  try simp only [Act.put, List.setIfInBounds_toArray, List.set_cons_zero, List.set_cons_succ]
  refine take_at (i := 4) (v := ?_) 10 rfl rfl (by kernel_rfl) (by kernel_rfl) (by kernel_rfl) (by kernel_rfl) (by kernel_rfl) (by kernel_rfl) (by kernel_rfl) (fun _ _ _ h => h) (Or.inl ⟨by kernel_rfl, ?_⟩) hHeld ?_
  rotate_left
  · intro w hSw; (try dsimp only at hSw); (try obtain ⟨f0, f1, f2, f3, f4⟩ := hSw); go_simp; (try with_reducible rfl)
  try simp only [Act.put, List.setIfInBounds_toArray, List.set_cons_zero, List.set_cons_succ]
  refine take_at (i := 5) (v := ?_) 11 rfl rfl (by kernel_rfl) (by kernel_rfl) (by kernel_rfl) (by kernel_rfl) (by kernel_rfl) (by kernel_rfl) (by kernel_rfl) (fun _ _ _ h => h) (Or.inl ⟨by kernel_rfl, ?_⟩) hHeld ?_
  rotate_left
  · intro w hSw; (try dsimp only at hSw); (try obtain ⟨f0, f1, f2, f3, f4⟩ := hSw); go_simp; (try with_reducible rfl)
  try simp only [Act.put, List.setIfInBounds_toArray, List.set_cons_zero, List.set_cons_succ]
  refine take_at (i := 6) (v := ?_) 12 rfl rfl (by kernel_rfl) (by kernel_rfl) (by kernel_rfl) (by kernel_rfl) (by kernel_rfl) (by kernel_rfl) (by kernel_rfl) (fun _ _ _ h => h) (Or.inl ⟨by kernel_rfl, ?_⟩) hHeld ?_
  rotate_left
  · intro w hSw; (try dsimp only at hSw); (try obtain ⟨f0, f1, f2, f3, f4⟩ := hSw); go_simp; (try with_reducible rfl)
  try simp only [Act.put, List.setIfInBounds_toArray, List.set_cons_zero, List.set_cons_succ]
  refine take_at (i := 7) (v := ?_) 13 rfl rfl (by kernel_rfl) (by kernel_rfl) (by kernel_rfl) (by kernel_rfl) (by kernel_rfl) (by kernel_rfl) (by kernel_rfl) (fun _ _ _ h => h) (Or.inl ⟨by kernel_rfl, ?_⟩) hHeld ?_
  rotate_left
  · intro w hSw; (try dsimp only at hSw); (try obtain ⟨f0, f1, f2, f3, f4⟩ := hSw); go_simp; (try with_reducible rfl)
  try simp only [Act.put, List.setIfInBounds_toArray, List.set_cons_zero, List.set_cons_succ]
  refine take_at (i := 8) (v := ?_) 14 rfl rfl (by kernel_rfl) (by kernel_rfl) (by kernel_rfl) (by kernel_rfl) (by kernel_rfl) (by kernel_rfl) (by kernel_rfl) (fun _ _ _ h => h) (Or.inl ⟨by kernel_rfl, ?_⟩) hHeld ?_
  rotate_left
  · intro w hSw; (try dsimp only at hSw); (try obtain ⟨f0, f1, f2, f3, f4⟩ := hSw); go_simp; (try with_reducible rfl)
  try simp only [Act.put, List.setIfInBounds_toArray, List.set_cons_zero, List.set_cons_succ]
  refine take_at (i := 9) (v := ?_) 15 rfl rfl (by kernel_rfl) (by kernel_rfl) (by kernel_rfl) (by kernel_rfl) (by kernel_rfl) (by kernel_rfl) (by kernel_rfl) (fun _ _ _ h => h) (Or.inl ⟨by kernel_rfl, ?_⟩) hHeld ?_
  rotate_left
  · intro w hSw; (try dsimp only at hSw); (try obtain ⟨f0, f1, f2, f3, f4⟩ := hSw); go_simp; (try with_reducible rfl)
  try simp only [Act.put, List.setIfInBounds_toArray, List.set_cons_zero, List.set_cons_succ]
  refine take_at (i := 10) (v := ?_) 16 rfl rfl (by kernel_rfl) (by kernel_rfl) (by kernel_rfl) (by kernel_rfl) (by kernel_rfl) (by kernel_rfl) (by kernel_rfl) (fun _ _ _ h => h) (Or.inl ⟨by kernel_rfl, ?_⟩) hHeld ?_
  rotate_left
  · intro w hSw; (try dsimp only at hSw); (try obtain ⟨f0, f1, f2, f3, f4⟩ := hSw); go_simp; (try with_reducible rfl)
  try simp only [Act.put, List.setIfInBounds_toArray, List.set_cons_zero, List.set_cons_succ]
  refine take_at (i := 11) (v := ?_) 17 rfl rfl (by kernel_rfl) (by kernel_rfl) (by kernel_rfl) (by kernel_rfl) (by kernel_rfl) (by kernel_rfl) (by kernel_rfl) (fun _ _ _ h => h) (Or.inl ⟨by kernel_rfl, ?_⟩) hHeld ?_
  rotate_left
  · intro w hSw; (try dsimp only at hSw); (try obtain ⟨f0, f1, f2, f3, f4⟩ := hSw); go_simp; (try with_reducible rfl)
  try simp only [Act.put, List.setIfInBounds_toArray, List.set_cons_zero, List.set_cons_succ]
  refine Ord.wpAnyU_one (i := 12) (by kernel_rfl) rfl (fun K hK => ?_)
  go_simp
  refine hK.out _ _ (fun h => by cases h) ?_
  clear hK K
  try simp only [Act.put, List.setIfInBounds_toArray, List.set_cons_zero, List.set_cons_succ]
  refine Ord.wpAnyU_done (by kernel_rfl) ?_ _
  have HO3 := Lib.hid (HO2.out.setB ha D)
  have HG3 := Lib.hid (grw_trans HG.out (grw_set W1 gb ab (.bool D)))
  have q2 := HO3.out.c2
  have q4 : (W1.setCell ⟨gb, ab, none⟩ (.bool D)).cell? ⟨gb, ab, none⟩ = some (.bool D) := by
    have := World.rowIs.cell HO3.out.row ha
    unfold fB at this
    rw [getD_set _ _ _ _ _ (by rw [HO2.out.bl]; exact ha), if_pos rfl] at this
    exact this
  have q5 := cell_grown (grw_set W1 gb ab (.bool D)) y4 (fun e => z5 (Option.some.inj e)) hHeld.2.2.2.2
  have q6 := HO3.out.l2
  have q7 := HO3.out.row.lt
  have q8 : w.heap.size < (W1.setCell ⟨gb, ab, none⟩ (.bool D)).heap.size := by simpa using y4
  clear y1 y2 y4 hHeld HO2 HG hO
  generalize W1.setCell ⟨gb, ab, none⟩ (.bool D) = W3 at *
  go_wp2
  go_ret
  exact ⟨rfl, HO3, HG3⟩
end Quo
end Go.Proofs.Ytiabnjmblcogmaa
end
