/- The walk of RecipeFair. -/
import Derived.Test.YtblefohjnmmpmaaRecL
namespace Go.Proofs.Ytblefohjnmmpmaa
open Go.RowKit Go.ChangeAt Go.WideShapes Go.WideElems Go.ChangeShapes
namespace Rec
/-- Two numbers that came in as an array. -/
def IsTwo (k : IntKind) (v : Value) (l : Int × Int) : Prop := v = .agg #[.int k l.1, .int k l.2] ∧ (Lit.int k l.1).wf = true ∧ (Lit.int k l.2).wf = true
theorem trod_array2 {H : Type} {enc : TypeId × Value → H} {P : Program} {w : World} {base : Nat} {spare : Nat → Bool} {held : Bool} {t e : TypeId} {fuel : Nat} {c0 c1 : Value} {x : DataW H × List MemPlace} (ht : P.underlying t = some (.array 2 e)) (hce : P.cellsOf e = 1)
    (h : DataW.trod enc P w base spare held fuel t [c0, c1] = some x) :
    ∃ y0 y1 n, DataW.trod enc P w base spare held n e [c0] = some y0 ∧ DataW.trod enc P w base spare held n e [c1] = some y1 := by
  cases fuel with
  | zero => simp [DataW.trod] at h
  | succ n =>
    unfold DataW.trod at h
    rw [ht] at h
    have r2 : List.range 2 = [0, 1] := rfl
    simp [r2, hce] at h
    obtain ⟨_, h⟩ := h
    cases h0 : DataW.trod enc P w base spare held n e [c0] with
    | none => simp [h0] at h
    | some y0 =>
      cases h1 : DataW.trod enc P w base spare held n e [c1] with
      | none => simp [h0, h1] at h
      | some y1 => exact ⟨y0, y1, n, h0, h1⟩
theorem isTwo_of {H : Type} {enc : TypeId × Value → H} {P : Program} {t e : TypeId} {k : IntKind} (ht : P.underlying t = some (.array 2 e)) (he : P.underlying e = some (.int k)) (hc : P.cellsOf e = 1) (hct : P.cellsOf t = 2) {W : World} {r : Reach} {b0 : Nat} {v : Value} {d : DataW H} {p : List MemPlace} {base : Nat} {spare held : _}
    (hv : Value.okWide P W r b0 t v) (h : DataW.Trod enc P W base spare held t v d p) : ∃ l, IsTwo k v l := by
  obtain ⟨cs, rfl, hsz, _⟩ : ∃ cs, v = .agg cs ∧ cs.size = P.cellsOf t ∧ Row.okWide P W r b0 t cs := by
    simpa [Value.okWide, ht] using hv
  rw [hct] at hsz
  obtain ⟨l⟩ := cs
  match l, hsz with
  | [c0, c1], _ =>
    obtain ⟨fuel, hf⟩ := h
    obtain ⟨y0, y1, m, hy0, hy1⟩ := trod_array2 ht hc hf
    obtain ⟨x0, e0, -, w0⟩ := DataW.trod_int he hy0
    obtain ⟨x1, e1, -, w1⟩ := DataW.trod_int he hy1
    simp at e0 e1
    subst e0 e1
    exact ⟨(x0, x1), rfl, w0, w1⟩
theorem needsV_ok (b : BlueIn) (x y : Int) (h : (needsV b x y).2 = 0) : ok2 b x 0 10 y 1 1000 = true ∧ (needsV b x y).1 = nds b.needs x y b.needs.length ∧ ndsOk b.needs x y b.needs.length = true := by
  unfold needsV at h ⊢
  cases h1 : ok2 b x 0 10 y 1 1000
  · rw [h1] at h; simp at h
  · cases h2 : ndsOk b.needs x y b.needs.length
    · rw [h1, h2] at h; simp at h
    · exact ⟨rfl, rfl, rfl⟩
theorem ndsOk_at (l : List Stk) (x y : Int) (n k : Nat) (h : ndsOk l x y n = true) (hk : k < n) : nd l x y k ≤ 1125899906842624 := by
  by_cases g : nd l x y k ≤ 1125899906842624
  · exact g
  · rw [ndsOk_no l x y k n g hk] at h; exact absurd h (by decide)
theorem ok2_mk {b : BlueIn} {n f t m g u : Int} (hk : bchk b 32 = 0) (h1 : f ≤ n) (h2 : n ≤ t) (h3 : g ≤ m) (h4 : m ≤ u) : ok2 b n f t m g u = true := by
  unfold ok2
  rw [decide_eq_true hk, inB_mk h1 h2, inB_mk h3 h4]
  rfl
theorem nds_get (l : List Stk) (x y : Int) (n k : Nat) (hk : k < n) : (nds l x y n).getD k (0, 0) = ((l.getD k (0, 0)).1, nd l x y k) := by
  induction n with
  | zero => omega
  | succ n ih =>
    rw [nds]
    have hl := nds_length l x y n
    by_cases e : k = n
    · subst e
      simp [List.getD, hl]
    · have := ih (by omega)
      rw [← this]
      simp only [List.getD]
      rw [List.getElem?_append_left (by omega)]
theorem upI_mono {m n c : Int} (h : m ≤ n) (hc : 1 ≤ c) : upI m c ≤ upI n c := Int.ediv_le_ediv (by omega) (by omega)
theorem upI_add (m n : Int) : upI (m + n) 100 ≤ upI m 100 + upI n 100 := by unfold upI; omega
theorem nd_more (l : List Stk) (u p q : Int) (k : Nat) (hQ : 0 ≤ (l.getD k (0, 0)).2) (hu : u ≤ 10) (hp : 0 ≤ p) (hq : 0 ≤ q) :
    nd l u p k ≤ nd l u (p + q) k ∧ nd l u (p + q) k ≤ nd l u p k + nd l u q k ∧ p ≤ nd l u p k := by
  unfold nd
  generalize (l.getD k (0, 0)).2 = Q at *
  have e : Q * ((p + q) * (100 - u)) = Q * (p * (100 - u)) + Q * (q * (100 - u)) := by rw [Int.add_mul, Int.mul_add]
  have h1 : 0 ≤ Q * (p * (100 - u)) := Int.mul_nonneg hQ (Int.mul_nonneg hp (by omega))
  have h2 : 0 ≤ Q * (q * (100 - u)) := Int.mul_nonneg hQ (Int.mul_nonneg hq (by omega))
  rw [e]
  have h3 := upI_add (Q * (p * (100 - u))) (Q * (q * (100 - u)))
  have h4 := upI_mono (m := Q * (p * (100 - u))) (n := Q * (p * (100 - u)) + Q * (q * (100 - u))) (c := 100) (by omega) (by omega)
  generalize upI (Q * (p * (100 - u)) + Q * (q * (100 - u))) 100 = A at *
  generalize upI (Q * (p * (100 - u))) 100 = B at *
  generalize upI (Q * (q * (100 - u))) 100 = C at *
  omega
theorem nd_level (l : List Stk) (u v p : Int) (k : Nat) (hQ : 0 ≤ (l.getD k (0, 0)).2) (huv : u ≤ v) (hp : 0 ≤ p) : nd l v p k ≤ nd l u p k := by
  unfold nd
  generalize (l.getD k (0, 0)).2 = Q at *
  have h1 : p * (100 - v) ≤ p * (100 - u) := Int.mul_le_mul_of_nonneg_left (by omega) hp
  have h2 : Q * (p * (100 - v)) ≤ Q * (p * (100 - u)) := Int.mul_le_mul_of_nonneg_left h1 hQ
  have h3 := upI_mono h2 (c := 100) (by omega)
  omega
theorem time_less (t u v p q : Int) (ht : 0 ≤ t) (hp : 0 ≤ p) (hq : 0 ≤ q) (hu : u ≤ 10) (huv : u ≤ v) :
    upI (t * p * (100 - 2 * v)) 100 ≤ upI (t * p * (100 - 2 * u)) 100 ∧ upI (t * p * (100 - 2 * u)) 100 ≤ upI (t * (p + q) * (100 - 2 * u)) 100 := by
  refine ⟨upI_mono (Int.mul_le_mul_of_nonneg_left (by omega) (Int.mul_nonneg ht hp)) (by omega), upI_mono (Int.mul_le_mul_of_nonneg_right (Int.mul_le_mul_of_nonneg_left (by omega) ht) (by omega)) (by omega)⟩
theorem fair_num {k : Int} (h : 0 ≤ k ∧ k ≤ 65535) : 1 ≤ wrap64 (1 + (wrap64 k).tmod 500) ∧ wrap64 (1 + (wrap64 k).tmod 500) ≤ 500 := by
  have e : wrap64 k = k := by unfold wrap64; omega
  rw [e, Int.tmod_eq_emod_of_nonneg h.1]
  unfold wrap64
  omega
theorem boxed_al3 (w : World) (b : BlueIn) (o o2 : Obj) : Boxed ((((w.alloc (.cells #[.int .i64 b.makes, .int .i64 b.per, .int .i64 b.time, .slice b.addr b.needs.length b.cap, .int .i64 b.copy, .int .i64 b.study, .int .i64 b.most] 24)).alloc o).alloc o2)) w.heap.size b := by
  have h0 : w.heap.size < (w.alloc (.cells #[.int .i64 b.makes, .int .i64 b.per, .int .i64 b.time, .slice b.addr b.needs.length b.cap, .int .i64 b.copy, .int .i64 b.study, .int .i64 b.most] 24)).heap.size := by rw [World.size_alloc]; exact Nat.lt_succ_self _
  have h := boxed_first (Below.refl (w.alloc (.cells #[.int .i64 b.makes, .int .i64 b.per, .int .i64 b.time, .slice b.addr b.needs.length b.cap, .int .i64 b.copy, .int .i64 b.study, .int .i64 b.most] 24)).heap.size (w.alloc (.cells #[.int .i64 b.makes, .int .i64 b.per, .int .i64 b.time, .slice b.addr b.needs.length b.cap, .int .i64 b.copy, .int .i64 b.study, .int .i64 b.most] 24)))
  exact boxed_alloc o2 (lt_alloc o h0) (boxed_alloc o h0 h)
theorem boxed_dN {W : World} {g : Nat} {b : BlueIn} (h : Boxed W g b) (n : Nat) : Boxed (W.drewN n) g b := h
theorem fair_lev {a b : Int} (ha : 0 ≤ a ∧ a ≤ 255) (hb : 0 ≤ b ∧ b ≤ 255) : (0 ≤ (min a b).tmod 11 ∧ (min a b).tmod 11 ≤ 10) ∧ 0 ≤ (max a b).tmod 11 ∧ (max a b).tmod 11 ≤ 10 := by
  rw [Int.tmod_eq_emod_of_nonneg (by omega), Int.tmod_eq_emod_of_nonneg (by omega)]
  omega
set_option maxRecDepth 100000 in
set_option maxHeartbeats 8000000 in
theorem fair_walk (w : World) (v : Value) (b : BlueIn) (hv : IsBlue w v b) (v1 : Value) (l1 : Int × Int) (h1 : IsTwo .u16 v1 l1) (v2 : Value) (l2 : Int × Int) (h2 : IsTwo .u8 v2 l2) :
    Calls Try.prog 4 #[v, v1, v2] w fun e w' => e = .returned (.bool true) ∧ Below w.heap.size w w' := by
  obtain ⟨rfl, hmx, hst, hwf, hwm⟩ := hv
  obtain ⟨rfl, wn0, wn1⟩ := h1
  obtain ⟨rfl, wm0, wm1⟩ := h2
  have hbw := Lib.hid ((Below.refl w.heap.size w).alloc (Nat.le_refl _) (.cells #[.int .i64 b.makes, .int .i64 b.per, .int .i64 b.time, .slice b.addr b.needs.length b.cap, .int .i64 b.copy, .int .i64 b.study, .int .i64 b.most] 24))
  obtain ⟨n0, n1⟩ := l1
  obtain ⟨l0, l1⟩ := l2
  by_cases hlen : b.needs.length ≤ 12
  case neg =>
    have dl : decide ((12 : Int) < (b.needs.length : Int)) = true := decide_eq_true (by omega)
    clear hlen
    unfold BlueIn.val
    go_enter Try.func4, Try.ntmps4
    go_wp2_with (go_at_call 7; ((with_reducible refine (awake_any _).mono ?_); rintro e w1 ⟨rfl, hb1⟩))
    go_ret
    exact ⟨rfl, (below_al (below_al hbw.out _) _).trans (hb1.mono (by simp; omega))⟩
  have HB : Hid (Came w b) := ⟨hlen, hst, hwf, hwm⟩
  have dl : decide ((12 : Int) < (b.needs.length : Int)) = false := decide_eq_false (by omega)
  clear hst hwf hwm hlen hmx
  obtain ⟨p, qp, bp1, bp2⟩ : ∃ P, wrap64 (1 + (wrap64 n0).tmod 500) = P ∧ 1 ≤ P ∧ P ≤ 500 := ⟨_, rfl, fair_num (bounds_u16 wn0)⟩
  obtain ⟨q, qq, bq1, bq2⟩ : ∃ P, wrap64 (1 + (wrap64 n1).tmod 500) = P ∧ 1 ≤ P ∧ P ≤ 500 := ⟨_, rfl, fair_num (bounds_u16 wn1)⟩
  obtain ⟨bl0, bh0⟩ := fair_lev (bounds_u8 wm0) (bounds_u8 wm1)
  obtain ⟨lo, ql, bl⟩ : ∃ P, (min l0 l1).tmod 11 = P ∧ 0 ≤ P ∧ P ≤ 10 := ⟨_, rfl, bl0⟩
  obtain ⟨hi, qh, bh⟩ : ∃ P, (max l0 l1).tmod 11 = P ∧ 0 ≤ P ∧ P ≤ 10 := ⟨_, rfl, bh0⟩
  obtain ⟨r, qr, zr⟩ : ∃ P, wrap64 (p + q) = P ∧ P = p + q := ⟨_, by unfold wrap64; omega, rfl⟩
  obtain ⟨u, qu, zu⟩ : ∃ P, wrap64 (min lo hi) = P ∧ P = min lo hi := ⟨_, by unfold wrap64; omega, rfl⟩
  obtain ⟨v, qv, zv⟩ : ∃ P, wrap64 (max lo hi) = P ∧ P = max lo hi := ⟨_, by unfold wrap64; omega, rfl⟩
  have HZ : Hid ((1 ≤ p ∧ p ≤ 500) ∧ (1 ≤ q ∧ q ≤ 500) ∧ r = p + q ∧ 0 ≤ u ∧ u ≤ v ∧ v ≤ 10) := by show _ ∧ _; omega
  clear zr zu zv bp1 bp2 bq1 bq2 bl bh bl0 bh0 wn0 wn1 wm0 wm1
  have hB0 : Hid (Below w.heap.size w ((((w.alloc (.cells #[.int .i64 b.makes, .int .i64 b.per, .int .i64 b.time, .slice b.addr b.needs.length b.cap, .int .i64 b.copy, .int .i64 b.study, .int .i64 b.most] 24)).alloc (.cells #[.int .u16 n0, .int .u16 n1] 39)).alloc (.cells #[.int .u8 l0, .int .u8 l1] 40)))) := below_al (below_al hbw.out _) _
  have X0 : Hid (Boxed ((((w.alloc (.cells #[.int .i64 b.makes, .int .i64 b.per, .int .i64 b.time, .slice b.addr b.needs.length b.cap, .int .i64 b.copy, .int .i64 b.study, .int .i64 b.most] 24)).alloc (.cells #[.int .u16 n0, .int .u16 n1] 39)).alloc (.cells #[.int .u8 l0, .int .u8 l1] 40))) w.heap.size b) := boxed_al3 w b _ _
  have s0 : Hid (w.heap.size < ((((w.alloc (.cells #[.int .i64 b.makes, .int .i64 b.per, .int .i64 b.time, .slice b.addr b.needs.length b.cap, .int .i64 b.copy, .int .i64 b.study, .int .i64 b.most] 24)).alloc (.cells #[.int .u16 n0, .int .u16 n1] 39)).alloc (.cells #[.int .u8 l0, .int .u8 l1] 40))).heap.size) := lt_alloc _ (lt_alloc _ (by rw [World.size_alloc]; exact Nat.lt_succ_self _))
  clear hbw
  have C1 : Hid (∀ W : World, Below w.heap.size w W → Calls Try.prog 8 #[.agg #[.int .i64 b.makes, .int .i64 b.per, .int .i64 b.time, .slice b.addr b.needs.length b.cap, .int .i64 b.copy, .int .i64 b.study, .int .i64 b.most], .int .i64 u, .int .i64 p] W fun e w' => ∃ a c, e = .returned (.tuple #[.slice a (needsV b u p).1.length c, .int .i64 (needsV b u p).2]) ∧ Hid (Stks w' a (needsV b u p).1) ∧ Below W.heap.size W w') := fun W h => needs_any b u p W (HB.out.below h)
  have C2 : Hid (∀ W : World, Below w.heap.size w W → Calls Try.prog 8 #[.agg #[.int .i64 b.makes, .int .i64 b.per, .int .i64 b.time, .slice b.addr b.needs.length b.cap, .int .i64 b.copy, .int .i64 b.study, .int .i64 b.most], .int .i64 u, .int .i64 q] W fun e w' => ∃ a c, e = .returned (.tuple #[.slice a (needsV b u q).1.length c, .int .i64 (needsV b u q).2]) ∧ Hid (Stks w' a (needsV b u q).1) ∧ Below W.heap.size W w') := fun W h => needs_any b u q W (HB.out.below h)
  have C3 : Hid (∀ W : World, Below w.heap.size w W → Calls Try.prog 8 #[.agg #[.int .i64 b.makes, .int .i64 b.per, .int .i64 b.time, .slice b.addr b.needs.length b.cap, .int .i64 b.copy, .int .i64 b.study, .int .i64 b.most], .int .i64 u, .int .i64 r] W fun e w' => ∃ a c, e = .returned (.tuple #[.slice a (needsV b u r).1.length c, .int .i64 (needsV b u r).2]) ∧ Hid (Stks w' a (needsV b u r).1) ∧ Below W.heap.size W w') := fun W h => needs_any b u r W (HB.out.below h)
  have C4 : Hid (∀ W : World, Below w.heap.size w W → Calls Try.prog 8 #[.agg #[.int .i64 b.makes, .int .i64 b.per, .int .i64 b.time, .slice b.addr b.needs.length b.cap, .int .i64 b.copy, .int .i64 b.study, .int .i64 b.most], .int .i64 v, .int .i64 p] W fun e w' => ∃ a c, e = .returned (.tuple #[.slice a (needsV b v p).1.length c, .int .i64 (needsV b v p).2]) ∧ Hid (Stks w' a (needsV b v p).1) ∧ Below W.heap.size W w') := fun W h => needs_any b v p W (HB.out.below h)
  by_cases e1 : (needsV b u p).2 = 0
  case neg =>
    have d : ((needsV b u p).2 == 0) = false := beq_eq_false_iff_ne.2 e1
    clear e1
    generalize (needsV b u p).2 = E1 at *
    generalize (needsV b u q).2 = E2 at *
    generalize (needsV b u r).2 = E3 at *
    generalize (needsV b v p).2 = E4 at *
    generalize (needsV b u p).1 = L1 at *
    generalize (needsV b u q).1 = L2 at *
    generalize (needsV b u r).1 = L3 at *
    generalize (needsV b v p).1 = L4 at *
    unfold BlueIn.val
    go_enter Try.func4, Try.ntmps4
    go_wp2
    go_quiet (fail)
    go_wp2
    go_quiet (fail)
    go_wp2_with (first
      | (go_at_call 7; ((with_reducible refine (awake_any _).mono ?_); rintro e w5 ⟨rfl, hb5⟩))
      | (go_at_call 8; ((with_reducible refine (C4.out _ hB3.out).mono ?_); rintro e w4 ⟨a4, k4, rfl, HS4, hb4⟩; have hB4 := Lib.hid (below2 hB3.out hb4); have X4 := Lib.hid (boxed_next hb4 s3.out X3.out); have s4 := Lib.hid (lt_next hb4 s3.out); clear c0 c1 c2 c3 c4 c5 c6; obtain ⟨c0, c1, c2, c3, c4, c5, c6⟩ := X4.out))
      | (go_at_call 8; ((with_reducible refine (C3.out _ hB2.out).mono ?_); rintro e w3 ⟨a3, k3, rfl, HS3, hb3⟩; have hB3 := Lib.hid (below2 hB2.out hb3); have X3 := Lib.hid (boxed_next hb3 s2.out X2.out); have s3 := Lib.hid (lt_next hb3 s2.out); clear c0 c1 c2 c3 c4 c5 c6; obtain ⟨c0, c1, c2, c3, c4, c5, c6⟩ := X3.out))
      | (go_at_call 8; ((with_reducible refine (C2.out _ hB1.out).mono ?_); rintro e w2 ⟨a2, k2, rfl, HS2, hb2⟩; have hB2 := Lib.hid (below2 hB1.out hb2); have X2 := Lib.hid (boxed_next hb2 s1.out X1.out); have s2 := Lib.hid (lt_next hb2 s1.out); clear c0 c1 c2 c3 c4 c5 c6; obtain ⟨c0, c1, c2, c3, c4, c5, c6⟩ := X2.out))
      | (go_at_call 8; ((with_reducible refine (C1.out _ (below_dN hB0.out _)).mono ?_); rintro e w1 ⟨a1, k1, rfl, HS1, hb1⟩; have hB1 := Lib.hid (below2 (below_dN hB0.out _) hb1); have X1 := Lib.hid (boxed_next hb1 s0.out (boxed_dN X0.out _)); have s1 := Lib.hid (lt_next hb1 s0.out); obtain ⟨c0, c1, c2, c3, c4, c5, c6⟩ := X1.out)))
    all_goals (go_ret; exact ⟨rfl, below2 hB4.out hb5⟩)
  by_cases e2 : (needsV b u q).2 = 0
  case neg =>
    have d : ((needsV b u q).2 == 0) = false := beq_eq_false_iff_ne.2 e2
    clear e2
    generalize (needsV b u p).2 = E1 at *
    subst e1
    generalize (needsV b u q).2 = E2 at *
    generalize (needsV b u r).2 = E3 at *
    generalize (needsV b v p).2 = E4 at *
    generalize (needsV b u p).1 = L1 at *
    generalize (needsV b u q).1 = L2 at *
    generalize (needsV b u r).1 = L3 at *
    generalize (needsV b v p).1 = L4 at *
    unfold BlueIn.val
    go_enter Try.func4, Try.ntmps4
    go_wp2
    go_quiet (fail)
    go_wp2
    go_quiet (fail)
    go_wp2_with (first
      | (go_at_call 7; ((with_reducible refine (awake_any _).mono ?_); rintro e w5 ⟨rfl, hb5⟩))
      | (go_at_call 8; ((with_reducible refine (C4.out _ hB3.out).mono ?_); rintro e w4 ⟨a4, k4, rfl, HS4, hb4⟩; have hB4 := Lib.hid (below2 hB3.out hb4); have X4 := Lib.hid (boxed_next hb4 s3.out X3.out); have s4 := Lib.hid (lt_next hb4 s3.out); clear c0 c1 c2 c3 c4 c5 c6; obtain ⟨c0, c1, c2, c3, c4, c5, c6⟩ := X4.out))
      | (go_at_call 8; ((with_reducible refine (C3.out _ hB2.out).mono ?_); rintro e w3 ⟨a3, k3, rfl, HS3, hb3⟩; have hB3 := Lib.hid (below2 hB2.out hb3); have X3 := Lib.hid (boxed_next hb3 s2.out X2.out); have s3 := Lib.hid (lt_next hb3 s2.out); clear c0 c1 c2 c3 c4 c5 c6; obtain ⟨c0, c1, c2, c3, c4, c5, c6⟩ := X3.out))
      | (go_at_call 8; ((with_reducible refine (C2.out _ hB1.out).mono ?_); rintro e w2 ⟨a2, k2, rfl, HS2, hb2⟩; have hB2 := Lib.hid (below2 hB1.out hb2); have X2 := Lib.hid (boxed_next hb2 s1.out X1.out); have s2 := Lib.hid (lt_next hb2 s1.out); clear c0 c1 c2 c3 c4 c5 c6; obtain ⟨c0, c1, c2, c3, c4, c5, c6⟩ := X2.out))
      | (go_at_call 8; ((with_reducible refine (C1.out _ (below_dN hB0.out _)).mono ?_); rintro e w1 ⟨a1, k1, rfl, HS1, hb1⟩; have hB1 := Lib.hid (below2 (below_dN hB0.out _) hb1); have X1 := Lib.hid (boxed_next hb1 s0.out (boxed_dN X0.out _)); have s1 := Lib.hid (lt_next hb1 s0.out); obtain ⟨c0, c1, c2, c3, c4, c5, c6⟩ := X1.out)))
    all_goals (go_ret; exact ⟨rfl, below2 hB4.out hb5⟩)
  by_cases e3 : (needsV b u r).2 = 0
  case neg =>
    have d : ((needsV b u r).2 == 0) = false := beq_eq_false_iff_ne.2 e3
    clear e3
    generalize (needsV b u p).2 = E1 at *
    subst e1
    generalize (needsV b u q).2 = E2 at *
    subst e2
    generalize (needsV b u r).2 = E3 at *
    generalize (needsV b v p).2 = E4 at *
    generalize (needsV b u p).1 = L1 at *
    generalize (needsV b u q).1 = L2 at *
    generalize (needsV b u r).1 = L3 at *
    generalize (needsV b v p).1 = L4 at *
    unfold BlueIn.val
    go_enter Try.func4, Try.ntmps4
    go_wp2
    go_quiet (fail)
    go_wp2
    go_quiet (fail)
    go_wp2_with (first
      | (go_at_call 7; ((with_reducible refine (awake_any _).mono ?_); rintro e w5 ⟨rfl, hb5⟩))
      | (go_at_call 8; ((with_reducible refine (C4.out _ hB3.out).mono ?_); rintro e w4 ⟨a4, k4, rfl, HS4, hb4⟩; have hB4 := Lib.hid (below2 hB3.out hb4); have X4 := Lib.hid (boxed_next hb4 s3.out X3.out); have s4 := Lib.hid (lt_next hb4 s3.out); clear c0 c1 c2 c3 c4 c5 c6; obtain ⟨c0, c1, c2, c3, c4, c5, c6⟩ := X4.out))
      | (go_at_call 8; ((with_reducible refine (C3.out _ hB2.out).mono ?_); rintro e w3 ⟨a3, k3, rfl, HS3, hb3⟩; have hB3 := Lib.hid (below2 hB2.out hb3); have X3 := Lib.hid (boxed_next hb3 s2.out X2.out); have s3 := Lib.hid (lt_next hb3 s2.out); clear c0 c1 c2 c3 c4 c5 c6; obtain ⟨c0, c1, c2, c3, c4, c5, c6⟩ := X3.out))
      | (go_at_call 8; ((with_reducible refine (C2.out _ hB1.out).mono ?_); rintro e w2 ⟨a2, k2, rfl, HS2, hb2⟩; have hB2 := Lib.hid (below2 hB1.out hb2); have X2 := Lib.hid (boxed_next hb2 s1.out X1.out); have s2 := Lib.hid (lt_next hb2 s1.out); clear c0 c1 c2 c3 c4 c5 c6; obtain ⟨c0, c1, c2, c3, c4, c5, c6⟩ := X2.out))
      | (go_at_call 8; ((with_reducible refine (C1.out _ (below_dN hB0.out _)).mono ?_); rintro e w1 ⟨a1, k1, rfl, HS1, hb1⟩; have hB1 := Lib.hid (below2 (below_dN hB0.out _) hb1); have X1 := Lib.hid (boxed_next hb1 s0.out (boxed_dN X0.out _)); have s1 := Lib.hid (lt_next hb1 s0.out); obtain ⟨c0, c1, c2, c3, c4, c5, c6⟩ := X1.out)))
    all_goals (go_ret; exact ⟨rfl, below2 hB4.out hb5⟩)
  by_cases e4 : (needsV b v p).2 = 0
  case neg =>
    have d : ((needsV b v p).2 == 0) = false := beq_eq_false_iff_ne.2 e4
    clear e4
    generalize (needsV b u p).2 = E1 at *
    subst e1
    generalize (needsV b u q).2 = E2 at *
    subst e2
    generalize (needsV b u r).2 = E3 at *
    subst e3
    generalize (needsV b v p).2 = E4 at *
    generalize (needsV b u p).1 = L1 at *
    generalize (needsV b u q).1 = L2 at *
    generalize (needsV b u r).1 = L3 at *
    generalize (needsV b v p).1 = L4 at *
    unfold BlueIn.val
    go_enter Try.func4, Try.ntmps4
    go_wp2
    go_quiet (fail)
    go_wp2
    go_quiet (fail)
    go_wp2_with (first
      | (go_at_call 7; ((with_reducible refine (awake_any _).mono ?_); rintro e w5 ⟨rfl, hb5⟩))
      | (go_at_call 8; ((with_reducible refine (C4.out _ hB3.out).mono ?_); rintro e w4 ⟨a4, k4, rfl, HS4, hb4⟩; have hB4 := Lib.hid (below2 hB3.out hb4); have X4 := Lib.hid (boxed_next hb4 s3.out X3.out); have s4 := Lib.hid (lt_next hb4 s3.out); clear c0 c1 c2 c3 c4 c5 c6; obtain ⟨c0, c1, c2, c3, c4, c5, c6⟩ := X4.out))
      | (go_at_call 8; ((with_reducible refine (C3.out _ hB2.out).mono ?_); rintro e w3 ⟨a3, k3, rfl, HS3, hb3⟩; have hB3 := Lib.hid (below2 hB2.out hb3); have X3 := Lib.hid (boxed_next hb3 s2.out X2.out); have s3 := Lib.hid (lt_next hb3 s2.out); clear c0 c1 c2 c3 c4 c5 c6; obtain ⟨c0, c1, c2, c3, c4, c5, c6⟩ := X3.out))
      | (go_at_call 8; ((with_reducible refine (C2.out _ hB1.out).mono ?_); rintro e w2 ⟨a2, k2, rfl, HS2, hb2⟩; have hB2 := Lib.hid (below2 hB1.out hb2); have X2 := Lib.hid (boxed_next hb2 s1.out X1.out); have s2 := Lib.hid (lt_next hb2 s1.out); clear c0 c1 c2 c3 c4 c5 c6; obtain ⟨c0, c1, c2, c3, c4, c5, c6⟩ := X2.out))
      | (go_at_call 8; ((with_reducible refine (C1.out _ (below_dN hB0.out _)).mono ?_); rintro e w1 ⟨a1, k1, rfl, HS1, hb1⟩; have hB1 := Lib.hid (below2 (below_dN hB0.out _) hb1); have X1 := Lib.hid (boxed_next hb1 s0.out (boxed_dN X0.out _)); have s1 := Lib.hid (lt_next hb1 s0.out); obtain ⟨c0, c1, c2, c3, c4, c5, c6⟩ := X1.out)))
    all_goals (go_ret; exact ⟨rfl, below2 hB4.out hb5⟩)
  have n1 := needsV_ok b u p e1
  have n2 := needsV_ok b u q e2
  have n3 := needsV_ok b u r e3
  have n4 := needsV_ok b v p e4
  have hK := (ok2_yes n1.1).1
  replace C1 : Hid (∀ W : World, Below w.heap.size w W → Calls Try.prog 8 #[.agg #[.int .i64 b.makes, .int .i64 b.per, .int .i64 b.time, .slice b.addr b.needs.length b.cap, .int .i64 b.copy, .int .i64 b.study, .int .i64 b.most], .int .i64 u, .int .i64 p] W fun e w' => ∃ a c, e = .returned (.tuple #[.slice a b.needs.length c, .int .i64 0]) ∧ Hid (Stks w' a (nds b.needs u p b.needs.length)) ∧ Below W.heap.size W w') := fun W h => by
    have := C1.out W h
    rwa [e1, n1.2.1, nds_length] at this
  replace C2 : Hid (∀ W : World, Below w.heap.size w W → Calls Try.prog 8 #[.agg #[.int .i64 b.makes, .int .i64 b.per, .int .i64 b.time, .slice b.addr b.needs.length b.cap, .int .i64 b.copy, .int .i64 b.study, .int .i64 b.most], .int .i64 u, .int .i64 q] W fun e w' => ∃ a c, e = .returned (.tuple #[.slice a b.needs.length c, .int .i64 0]) ∧ Hid (Stks w' a (nds b.needs u q b.needs.length)) ∧ Below W.heap.size W w') := fun W h => by
    have := C2.out W h
    rwa [e2, n2.2.1, nds_length] at this
  replace C3 : Hid (∀ W : World, Below w.heap.size w W → Calls Try.prog 8 #[.agg #[.int .i64 b.makes, .int .i64 b.per, .int .i64 b.time, .slice b.addr b.needs.length b.cap, .int .i64 b.copy, .int .i64 b.study, .int .i64 b.most], .int .i64 u, .int .i64 r] W fun e w' => ∃ a c, e = .returned (.tuple #[.slice a b.needs.length c, .int .i64 0]) ∧ Hid (Stks w' a (nds b.needs u r b.needs.length)) ∧ Below W.heap.size W w') := fun W h => by
    have := C3.out W h
    rwa [e3, n3.2.1, nds_length] at this
  replace C4 : Hid (∀ W : World, Below w.heap.size w W → Calls Try.prog 8 #[.agg #[.int .i64 b.makes, .int .i64 b.per, .int .i64 b.time, .slice b.addr b.needs.length b.cap, .int .i64 b.copy, .int .i64 b.study, .int .i64 b.most], .int .i64 v, .int .i64 p] W fun e w' => ∃ a c, e = .returned (.tuple #[.slice a b.needs.length c, .int .i64 0]) ∧ Hid (Stks w' a (nds b.needs v p b.needs.length)) ∧ Below W.heap.size W w') := fun W h => by
    have := C4.out W h
    rwa [e4, n4.2.1, nds_length] at this
  obtain ⟨⟨z1, z2⟩, ⟨z3, z4⟩, z5, z6, z7, z8⟩ := HZ.out
  have C5 : Hid (∀ W : World, Below w.heap.size w W → Calls Try.prog 12 #[.agg #[.int .i64 b.makes, .int .i64 b.per, .int .i64 b.time, .slice b.addr b.needs.length b.cap, .int .i64 b.copy, .int .i64 b.study, .int .i64 b.most], .int .i64 u, .int .i64 p] W fun e w' => e = .returned (.tuple #[.int .i64 (upI (b.time * p * (100 - 2 * u)) 100), .int .i64 0]) ∧ Below W.heap.size W w') := fun W h => by
    have := time_any b u p W (HB.out.below h)
    rwa [show timeV b u p = (upI (b.time * p * (100 - 2 * u)) 100, 0) from if_pos (ok2_mk hK (by omega) (by omega) (by omega) (by omega))] at this
  have C6 : Hid (∀ W : World, Below w.heap.size w W → Calls Try.prog 12 #[.agg #[.int .i64 b.makes, .int .i64 b.per, .int .i64 b.time, .slice b.addr b.needs.length b.cap, .int .i64 b.copy, .int .i64 b.study, .int .i64 b.most], .int .i64 v, .int .i64 p] W fun e w' => e = .returned (.tuple #[.int .i64 (upI (b.time * p * (100 - 2 * v)) 100), .int .i64 0]) ∧ Below W.heap.size W w') := fun W h => by
    have := time_any b v p W (HB.out.below h)
    rwa [show timeV b v p = (upI (b.time * p * (100 - 2 * v)) 100, 0) from if_pos (ok2_mk hK (by omega) (by omega) (by omega) (by omega))] at this
  have C7 : Hid (∀ W : World, Below w.heap.size w W → Calls Try.prog 12 #[.agg #[.int .i64 b.makes, .int .i64 b.per, .int .i64 b.time, .slice b.addr b.needs.length b.cap, .int .i64 b.copy, .int .i64 b.study, .int .i64 b.most], .int .i64 u, .int .i64 r] W fun e w' => e = .returned (.tuple #[.int .i64 (upI (b.time * r * (100 - 2 * u)) 100), .int .i64 0]) ∧ Below W.heap.size W w') := fun W h => by
    have := time_any b u r W (HB.out.below h)
    rwa [show timeV b u r = (upI (b.time * r * (100 - 2 * u)) 100, 0) from if_pos (ok2_mk hK (by omega) (by omega) (by omega) (by omega))] at this
  have hF := (bchk_ok b 32 hK).2.2.2.2.2.2.2
  have ht := (bchk_ok b 32 hK).2.2.2.1.1
  have hL := time_less b.time u v p q (by omega) (by omega) (by omega) (by omega) z7
  rw [← z5] at hL
  have d1 : decide (upI (b.time * p * (100 - 2 * v)) 100 ≤ upI (b.time * p * (100 - 2 * u)) 100) = true := decide_eq_true hL.1
  have d2 : decide (upI (b.time * p * (100 - 2 * u)) 100 ≤ upI (b.time * r * (100 - 2 * u)) 100) = true := decide_eq_true hL.2
  generalize upI (b.time * p * (100 - 2 * v)) 100 = T1 at *
  generalize upI (b.time * p * (100 - 2 * u)) 100 = T2 at *
  generalize upI (b.time * r * (100 - 2 * u)) 100 = T3 at *
  have HM : Hid (∀ k, k < b.needs.length → nd b.needs u p k ≤ nd b.needs u r k ∧ nd b.needs u r k ≤ nd b.needs u p k + nd b.needs u q k ∧ nd b.needs v p k ≤ nd b.needs u p k ∧ p ≤ nd b.needs v p k ∧ 1 ≤ nd b.needs u p k ∧ nd b.needs u p k ≤ 1125899906842624 ∧ nd b.needs u q k ≤ 1125899906842624 ∧ 1 ≤ nd b.needs u q k) := fun k hk => by
    have hQ : 0 ≤ (b.needs.getD k (0, 0)).2 := by have := (hF k hk).2.1; omega
    have g1 := nd_more b.needs u p q k hQ (by omega) (by omega) (by omega)
    have g2 := nd_level b.needs u v p k hQ z7 (by omega)
    have g3 := nd_more b.needs v p q k hQ (by omega) (by omega) (by omega)
    have g4 := nd_more b.needs u q p k hQ (by omega) (by omega) (by omega)
    have g5 := ndsOk_at b.needs u p _ k n1.2.2 hk
    have g6 := ndsOk_at b.needs u q _ k n2.2.2 hk
    rw [← z5] at g1
    exact ⟨g1.1, g1.2.1, g2, g3.2.2, by omega, g5, g6, by omega⟩
  have HL : Hid (b.needs.length ≤ 12) := HB.out.1
  clear n1 n2 n3 n4 e1 e2 e3 e4 z1 z2 z3 z4 z5 z6 z7 z8 hF ht hL hK
  unfold BlueIn.val
  go_enter Try.func4, Try.ntmps4
  go_wp2
  go_quiet (fail)
  go_wp2
  go_quiet (fail)
  go_wp2_with (first
    | (go_at_call 8; ((with_reducible refine (C4.out _ hB3.out).mono ?_); rintro e w4 ⟨a4, k4, rfl, HS4, hb4⟩; have hB4 := Lib.hid (below2 hB3.out hb4); have X4 := Lib.hid (boxed_next hb4 s3.out X3.out); have s4 := Lib.hid (lt_next hb4 s3.out); clear c0 c1 c2 c3 c4 c5 c6; obtain ⟨c0, c1, c2, c3, c4, c5, c6⟩ := X4.out; have HS1_4 := Lib.hid (HS1_3.out.below hb4); have HS2_4 := Lib.hid (HS2_3.out.below hb4); have HS3_4 := Lib.hid (HS3.out.below hb4)))
    | (go_at_call 8; ((with_reducible refine (C3.out _ hB2.out).mono ?_); rintro e w3 ⟨a3, k3, rfl, HS3, hb3⟩; have hB3 := Lib.hid (below2 hB2.out hb3); have X3 := Lib.hid (boxed_next hb3 s2.out X2.out); have s3 := Lib.hid (lt_next hb3 s2.out); clear c0 c1 c2 c3 c4 c5 c6; obtain ⟨c0, c1, c2, c3, c4, c5, c6⟩ := X3.out; have HS1_3 := Lib.hid (HS1_2.out.below hb3); have HS2_3 := Lib.hid (HS2.out.below hb3)))
    | (go_at_call 8; ((with_reducible refine (C2.out _ hB1.out).mono ?_); rintro e w2 ⟨a2, k2, rfl, HS2, hb2⟩; have hB2 := Lib.hid (below2 hB1.out hb2); have X2 := Lib.hid (boxed_next hb2 s1.out X1.out); have s2 := Lib.hid (lt_next hb2 s1.out); clear c0 c1 c2 c3 c4 c5 c6; obtain ⟨c0, c1, c2, c3, c4, c5, c6⟩ := X2.out; have HS1_2 := Lib.hid (HS1.out.below hb2)))
    | (go_at_call 8; ((with_reducible refine (C1.out _ (below_dN hB0.out _)).mono ?_); rintro e w1 ⟨a1, k1, rfl, HS1, hb1⟩; have hB1 := Lib.hid (below2 (below_dN hB0.out _) hb1); have X1 := Lib.hid (boxed_next hb1 s0.out (boxed_dN X0.out _)); have s1 := Lib.hid (lt_next hb1 s0.out); obtain ⟨c0, c1, c2, c3, c4, c5, c6⟩ := X1.out)))
  go_loopw [21] (fun i wr => ∃ k : Nat, k ≤ b.needs.length ∧ i = .int .i64 k ∧ Below w4.heap.size w4 wr) (fun i _ => b.needs.length - (intOf i).toNat)
  case atStart => exact ⟨0, by omega, rfl, Below.refl _ _⟩
  case round =>
    obtain ⟨k, hk, rfl, hbr⟩ := hrel
    have hl12 : b.needs.length ≤ 12 := HL.out
    by_cases hlt : k < b.needs.length
    · have hlt1 : (k : Int) < (b.needs.length : Int) := by omega
      obtain ⟨y1, y2, y3, y4, y5, y6, y7, y8⟩ := HM.out k hlt
      have S1 := (HS1_4.out.below hbr) k (by rw [nds_length]; exact hlt)
      have S2 := (HS2_4.out.below hbr) k (by rw [nds_length]; exact hlt)
      have S3 := (HS3_4.out.below hbr) k (by rw [nds_length]; exact hlt)
      have S4 := (HS4.out.below hbr) k (by rw [nds_length]; exact hlt)
      rw [nds_get _ _ _ _ _ hlt] at S1 S2 S3 S4
      obtain ⟨g1, o1, ha1, gl1, -, h1⟩ := S1
      obtain ⟨g2, o2, ha2, gl2, -, h2⟩ := S2
      obtain ⟨g3, o3, ha3, gl3, -, h3⟩ := S3
      obtain ⟨g4, o4, ha4, gl4, -, h4⟩ := S4
      simp only [] at h1 h2 h3 h4
      generalize nd b.needs u p k = N1 at h1 h2 h3 h4 y1 y2 y3 y4 y5 y6 y7 y8
      generalize nd b.needs u q k = N2 at h1 h2 h3 h4 y1 y2 y3 y4 y5 y6 y7 y8
      generalize nd b.needs u r k = N3 at h1 h2 h3 h4 y1 y2 y3 y4 y5 y6 y7 y8
      generalize nd b.needs v p k = N4 at h1 h2 h3 h4 y1 y2 y3 y4 y5 y6 y7 y8
      obtain ⟨N5, q5, x5⟩ : ∃ P, wrap64 (N1 + N2) = P ∧ P = N1 + N2 := ⟨_, by unfold wrap64; omega, rfl⟩
      have q5' : IntKind.i64.wrap (N1 + N2) = N5 := by rw [← q5]; unfold wrap64; exact IntKind.wrap_i64 _
      have f1 : decide (N3 < N1) = false := decide_eq_false (by omega)
      have f2 : decide (N5 < N3) = false := decide_eq_false (by omega)
      have f3 : decide (N1 < N4) = false := decide_eq_false (by omega)
      have f4 : decide (N4 < p) = false := decide_eq_false (by omega)
      clear y1 y2 y3 y4 y5 y6 y7 y8 x5
      clear HM C1 C2 C3 C4 C5 C6 C7 HB HZ
      go_wp2
      go_quiet (fail)
      go_wp2
      go_round
      case rel => exact ⟨k + 1, by omega, by go_num, below_dN hbr _⟩
      case measure => simp [intOf]; omega
    · have X4 := Lib.hid (boxed_next hbr s4.out X4.out)
      have s4 := Lib.hid (lt_next hbr s4.out)
      have hB4 := Lib.hid (below2 hB4.out hbr)
      clear c0 c1 c2 c3 c4 c5 c6
      obtain ⟨c0, c1, c2, c3, c4, c5, c6⟩ := X4.out
      have dl2 : decide ((k : Int) < (b.needs.length : Int)) = false := decide_eq_false (by omega)
      go_wp2_with (first
        | (go_at_call 7; ((with_reducible refine (awake_any _).mono ?_); rintro e w8 ⟨rfl, hb8⟩))
        | (go_at_call 12; ((with_reducible refine (C7.out _ hB6.out).mono ?_); rintro e w7 ⟨rfl, hb7⟩; have hB7 := Lib.hid (below2 hB6.out hb7); have X7 := Lib.hid (boxed_next hb7 s6.out X6.out); have s7 := Lib.hid (lt_next hb7 s6.out); clear c0 c1 c2 c3 c4 c5 c6; obtain ⟨c0, c1, c2, c3, c4, c5, c6⟩ := X7.out))
        | (go_at_call 12; ((with_reducible refine (C6.out _ hB5.out).mono ?_); rintro e w6 ⟨rfl, hb6⟩; have hB6 := Lib.hid (below2 hB5.out hb6); have X6 := Lib.hid (boxed_next hb6 s5.out X5.out); have s6 := Lib.hid (lt_next hb6 s5.out); clear c0 c1 c2 c3 c4 c5 c6; obtain ⟨c0, c1, c2, c3, c4, c5, c6⟩ := X6.out))
        | (go_at_call 12; ((with_reducible refine (C5.out _ hB4.out).mono ?_); rintro e w5 ⟨rfl, hb5⟩; have hB5 := Lib.hid (below2 hB4.out hb5); have X5 := Lib.hid (boxed_next hb5 s4.out X4.out); have s5 := Lib.hid (lt_next hb5 s4.out); clear c0 c1 c2 c3 c4 c5 c6; obtain ⟨c0, c1, c2, c3, c4, c5, c6⟩ := X5.out)))
      go_ret
      exact ⟨rfl, below2 hB7.out hb8⟩
end Rec
end Go.Proofs.Ytblefohjnmmpmaa
