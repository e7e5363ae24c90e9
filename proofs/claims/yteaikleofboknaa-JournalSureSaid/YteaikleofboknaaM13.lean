/- Texts put together: JrJ, JrK, JrV, JrL. -/
import Derived.Test.YteaikleofboknaaM12
import Derived.Test.YteaikleofboknaaM09
import Derived.Test.YteaikleofboknaaM06
import Derived.Test.YteaikleofboknaaM02
import Derived.Test.YteaikleofboknaaM03
set_option linter.all false
section
set_option maxRecDepth 100000
namespace Go.Proofs.Yteaikleofboknaa
open Go.RowKit Go.Great Go.Maps
namespace Jrn
open Frm (fits num put scan strs rows allS allE oks ok cats)
open In (strVals Strs)
open Dsk (below2 below_al below_dN bytesWorld_below DkIn PD Bx Dok FileIn newD)
deriving instance DecidableEq for SavedIn
theorem gen_j (w : World) (j g : Nat) (gen cnt : Int) (dead : Bool) (h : JR w j g gen cnt dead) : Calls Try.prog 14 #[.pointer (some ⟨j, 0, none⟩)] w fun e w' => e = .returned (.int .i64 gen) ∧ w = w' := by
  obtain ⟨c0, c1, c2, c3⟩ := h.cells
  go_enter Try.func14, Try.ntmps14
  go_wp2
  go_ret
  exact ⟨rfl, rfl⟩
theorem count_j (w : World) (j g : Nat) (gen cnt : Int) (dead : Bool) (h : JR w j g gen cnt dead) : Calls Try.prog 15 #[.pointer (some ⟨j, 0, none⟩)] w fun e w' => e = .returned (.int .i64 cnt) ∧ w = w' := by
  obtain ⟨c0, c1, c2, c3⟩ := h.cells
  go_enter Try.func15, Try.ntmps15
  go_wp2
  go_ret
  exact ⟨rfl, rfl⟩
theorem gen_nil (w : World) : Calls Try.prog 14 #[.pointer none] w fun e w' => e = .returned (.int .i64 0) ∧ w = w' := by
  go_enter Try.func14, Try.ntmps14
  go_wp2
  go_ret
  exact ⟨rfl, rfl⟩
theorem count_nil (w : World) : Calls Try.prog 15 #[.pointer none] w fun e w' => e = .returned (.int .i64 0) ∧ w = w' := by
  go_enter Try.func15, Try.ntmps15
  go_wp2
  go_ret
  exact ⟨rfl, rfl⟩
theorem gen_zero (w : World) (j : Nat) (h : w.cell? ⟨j, 1, none⟩ = some (.int .i64 0)) : Calls Try.prog 14 #[.pointer (some ⟨j, 0, none⟩)] w fun e w' => e = .returned (.int .i64 0) ∧ w = w' := by
  go_enter Try.func14, Try.ntmps14
  go_wp2
  go_ret
  exact ⟨rfl, rfl⟩
theorem count_zero (w : World) (j : Nat) (h : w.cell? ⟨j, 2, none⟩ = some (.int .i64 0)) : Calls Try.prog 15 #[.pointer (some ⟨j, 0, none⟩)] w fun e w' => e = .returned (.int .i64 0) ∧ w = w' := by
  go_enter Try.func15, Try.ntmps15
  go_wp2
  go_ret
  exact ⟨rfl, rfl⟩
theorem rows_inj {a b : List (List UInt8)} (h : rows a = rows b) : a = b := by
  have := congrArg strs h
  rwa [Frm.strs_rows, Frm.strs_rows] at this
theorem same_recs (a b : List (List UInt8)) : Dsk.same (rows a) (rows b) = decide (a = b) := by
  unfold Dsk.same
  by_cases h : a = b
  · rw [h, decide_eq_true rfl, decide_eq_true rfl]
  · rw [decide_eq_false h, decide_eq_false fun e => h (rows_inj e)]
theorem ba_eq (a b : List UInt8) : ((ByteArray.mk a.toArray).toList == (ByteArray.mk b.toArray).toList) = decide (a = b) := by
  rw [Dsk.neq_str]
  by_cases h : a = b
  · rw [h, decide_eq_true rfl, decide_eq_true rfl]
  · rw [decide_eq_false h, decide_eq_false fun e => h (by have := congrArg (fun x : ByteArray => x.data.toList) e; simpa using this)]
set_option maxHeartbeats 4000000 in
theorem same33_any (S T : SavedIn) (a b : Option Addr) (cap cap2 : Nat) (w : World) (hl : S.recs.length ≤ 1000000) (hm : T.recs.length ≤ 1000000) (ha : Strs w a (rows S.recs)) (hb : Strs w b (rows T.recs)) :
    Calls Try.prog 13 #[savedVal S a cap, savedVal T b cap2] w fun e w' => e = .returned (.bool (decide (S = T))) ∧ Below w.heap.size w w' := by
  have F : Hid (∀ W, Below w.heap.size w W → Calls Try.prog 19 #[.slice a S.recs.length cap, .slice b T.recs.length cap2] W fun e w' => e = .returned (.bool (decide (S.recs = T.recs))) ∧ Below W.heap.size W w') := fun W hW => by
    have := Dsk.same_any a b cap cap2 (rows S.recs) (rows T.recs) (by rw [rows_length]; unfold maxLen; omega) (by rw [rows_length]; unfold maxLen; omega) W (ha.below hW) (hb.below hW)
    rw [rows_length, rows_length, same_recs] at this
    exact this
  clear ha hb
  obtain ⟨g1, h1, b1, r1⟩ := S
  obtain ⟨g2, h2, b2, r2⟩ := T
  unfold savedVal
  dsimp only at *
  by_cases e1 : g1 = g2
  · subst e1
    have d1 : ((g1 : Int) == (g1 : Int)) = true := beq_self_eq_true _
    by_cases e2 : h1 = h2
    · subst e2
      have d2 : (h1 == h1) = true := beq_self_eq_true _
      by_cases e3 : b1 = b2
      · subst e3
        have d3 : ((ByteArray.mk b1.toArray).toList == (ByteArray.mk b1.toArray).toList) = true := beq_self_eq_true _
        have eF : decide ((⟨g1, h1, b1, r1⟩ : SavedIn) = ⟨g1, h1, b1, r2⟩) = decide (r1 = r2) := decide_eq_decide.2 ⟨fun h => (SavedIn.mk.inj h).2.2.2, fun h => by rw [h]⟩
        rw [eF]
        generalize decide (r1 = r2) = B at *
        generalize ByteArray.mk b1.toArray = Z at *
        go_enter Try.func13, Try.ntmps13
        go_wp2_with (go_at_call 19; (with_reducible refine (F.out _ (below_al (below_al (Below.refl _ _) _) _)).mono ?_); rintro e w1 ⟨rfl, hb1⟩; have HB1 := Lib.hid (below2 (below_al (below_al (Below.refl _ _) _) _) hb1); clear hb1)
        go_ret
        exact ⟨rfl, HB1.out⟩
      · have d3 : ((ByteArray.mk b1.toArray).toList == (ByteArray.mk b2.toArray).toList) = false := by rw [ba_eq]; exact decide_eq_false e3
        have eF : decide ((⟨g1, h1, b1, r1⟩ : SavedIn) = ⟨g1, h1, b2, r2⟩) = false := decide_eq_false fun h => e3 (SavedIn.mk.inj h).2.2.1
        rw [eF]
        clear eF F e3
        generalize ByteArray.mk b1.toArray = Z1 at *
        generalize ByteArray.mk b2.toArray = Z2 at *
        go_enter Try.func13, Try.ntmps13
        go_wp2
        go_ret
        exact ⟨rfl, below_al (below_al (Below.refl _ _) _) _⟩
    · have d2 : (h1 == h2) = false := beq_eq_false_iff_ne.2 e2
      have eF : decide ((⟨g1, h1, b1, r1⟩ : SavedIn) = ⟨g1, h2, b2, r2⟩) = false := decide_eq_false fun h => e2 (SavedIn.mk.inj h).2.1
      rw [eF]
      clear eF F e2
      go_enter Try.func13, Try.ntmps13
      go_wp2
      go_ret
      exact ⟨rfl, below_al (below_al (Below.refl _ _) _) _⟩
  · have d1 : ((g1 : Int) == (g2 : Int)) = false := beq_eq_false_iff_ne.2 (by omega)
    have eF : decide ((⟨g1, h1, b1, r1⟩ : SavedIn) = ⟨g2, h2, b2, r2⟩) = false := decide_eq_false fun h => e1 (SavedIn.mk.inj h).1
    rw [eF]
    clear eF F
    obtain ⟨X, hX⟩ : ∃ X : Int, Hid ((g1 : Int) = X) := ⟨_, rfl⟩
    obtain ⟨Y, hY⟩ : ∃ Y : Int, Hid ((g2 : Int) = Y) := ⟨_, rfl⟩
    rw [hX.out, hY.out] at d1 ⊢
    clear e1
    go_enter Try.func13, Try.ntmps13
    go_wp2
    go_ret
    exact ⟨rfl, below_al (below_al (Below.refl _ _) _) _⟩
theorem and255 (n : Int) : bits .and .i64 n 255 = n % 256 := by
  show IntKind.i64.wrap ((BitVec.ofInt 64 n &&& BitVec.ofInt 64 255).toNat : Int) = _
  rw [BitVec.toNat_and, show (BitVec.ofInt 64 255).toNat = 2 ^ 8 - 1 from rfl, Nat.and_two_pow_sub_one_eq_mod, BitVec.toNat_ofInt, IntKind.wrap_i64]
  have h : ((n % ((2 ^ 64 : Nat) : Int)).toNat : Int) = n % ((2 ^ 64 : Nat) : Int) := Int.toNat_of_nonneg (Int.emod_nonneg _ (by decide))
  have h2 : (((n % ((2 ^ 64 : Nat) : Int)).toNat % 2 ^ 8 : Nat) : Int) = n % 256 := by
    rw [Int.natCast_emod, h]
    omega
  rw [h2]
  omega
set_option maxHeartbeats 4000000 in
theorem text_any (s : ByteArray) (hs : s.size ≤ 300) (n : Int) (w : World) :
    Calls Try.prog 11 #[.string s, .int .i64 n] w fun e w' => (∃ T : ByteArray, e = .returned (.string T) ∧ T.size ≤ 12000) ∧ w = w' := by
  obtain ⟨t, ht, htl⟩ : ∃ t : Nat, (n % 256).tmod 41 = (t : Int) ∧ t ≤ 40 := by
    have h0 : 0 ≤ n % 256 := by omega
    have e : (n % 256).tmod 41 = (n % 256) % 41 := Int.tmod_eq_emod_of_nonneg h0
    exact ⟨((n % 256) % 41).toNat, by rw [e]; omega, by omega⟩
  have ha := and255 n
  obtain ⟨q, hq⟩ : ∃ q, Hid (n % 256 = q) := ⟨_, rfl⟩
  rw [hq.out] at ha ht
  go_enter Try.func11, Try.ntmps11
  go_wp2
  go_loop [5, 6] (fun v i => ∃ (k : Nat) (T : ByteArray), k ≤ t ∧ i = .int .i64 (k : Int) ∧ v = .string T ∧ T.size ≤ 300 * k) (fun _ i => t - (intOf i).toNat)
  case atStart => exact ⟨0, ⟨#[]⟩, Nat.zero_le _, rfl, rfl, Nat.le_refl _⟩
  case round =>
    obtain ⟨k, T, hk, rfl, rfl, hT⟩ := hrel
    by_cases hlt : k < t
    · have d1 : decide ((k : Int) < (t : Int)) = true := decide_eq_true (by omega)
      have hlt1 : (k : Int) < (t : Int) := by omega
      go_wp2
      go_round
      case rel => exact ⟨k + 1, T ++ s, by omega, by go_num, rfl, by rw [ByteArray.size_append]; omega⟩
      case measure => simp [intOf]; omega
    · have d1 : decide ((k : Int) < (t : Int)) = false := decide_eq_false (by omega)
      have hlt1 : ¬ (k : Int) < (t : Int) := by omega
      go_wp2
      go_ret
      exact ⟨⟨T, rfl, by omega⟩, rfl⟩
end Jrn
end Go.Proofs.Yteaikleofboknaa
end
section
set_option maxRecDepth 100000
namespace Go.Proofs.Yteaikleofboknaa
open Go.RowKit Go.Great Go.Maps Go.WideShapes Go.WideElems Go.ChangeAt Go.ChangeShapes
namespace Jrn
open Dsk (below2 below_al below_dN ActB ActIn ActIs act_cells act_of slice_ints at_addr noA)
/-- An act that came in. -/
structure ActK where
  kind : Int
  n : Int
  arg : List UInt8
  half : Bool
  keep : List Int
  ka : Option Addr
  kc : Nat
  d : ActB
def ActK.row (b : ActK) : Array Value := #[.int .i64 b.kind, .int .i64 b.n, .string ⟨b.arg.toArray⟩, .bool b.half, .slice b.ka b.keep.length b.kc, .int .i64 b.d.a.kind, .int .i64 b.d.a.n, .string ⟨b.d.a.name.toArray⟩, .string ⟨b.d.a.arg.toArray⟩, .bool b.d.a.half, .slice b.d.ka b.d.a.keep.length b.d.kc]
def ActK.val (b : ActK) : Array Value := #[.int .i64 b.kind, .int .i64 b.n, .string ⟨b.arg.toArray⟩, .bool b.half, .slice b.ka b.keep.length b.kc, .agg b.d.val]
def noK : ActK := ⟨0, 0, [], false, [], none, 0, noA⟩
/-- What is known of an act that came in. -/
structure KIs (W : World) (b : ActK) : Prop where
  keep : In.IsInts .i64 W (.slice b.ka b.keep.length b.kc) b.keep
  n : b.n ≤ 9223372036854775807
  n0 : -9223372036854775808 ≤ b.n
  arg : b.arg.length ≤ maxLen
  kind : (Lit.int .i64 b.kind).wf = true
  d : ActIs W b.d
/-- The acts that stand from an address on. -/
def ActsK (W : World) (a : Option Addr) (l : List ActK) : Prop :=
  ∀ i, i < l.length → ∃ b off, a = some ⟨b, off, none⟩ ∧ b < W.heap.size ∧ ∀ j, j < 11 → W.cell? ⟨b, off + (i * 11 + j), none⟩ = (l.getD i noK).row[j]?
theorem ActsK.below {W W' : World} {a : Option Addr} {l : List ActK} (h : ActsK W a l) (hb : Below W.heap.size W W') : ActsK W' a l := fun i hi => by
  obtain ⟨b, off, ha, hlt, hc⟩ := h i hi
  exact ⟨b, off, ha, Nat.lt_of_lt_of_le hlt hb.size, fun j hj => (hb.cell (p := ⟨b, off + (i * 11 + j), none⟩) hlt).trans (hc j hj)⟩
theorem actk_cells : Try.prog.cellsOf 40 = 11 := by kernel_rfl
section
variable {H : Type} {enc : TypeId × Value → H} {W : World} {base n : Nat} {spare : Nat → Bool} {held : Bool}
theorem actk_of {cs : List Value} {y : DataW H × List MemPlace} (hl : cs.length = 11) (hf : DataW.trod enc Try.prog W base spare held n 40 cs = some y) : ∃ b : ActK, cs = b.row.toList ∧ KIs W b := by
  match cs, hl with
  | [c0, c1, c2, c3, c4, c5, c6, c7, c8, c9, c10], _ =>
    obtain ⟨xs, n, _, hx, _, hlen, hg⟩ := DataW.trod_struct Try.underlying40 hf
    match xs, hlen with
    | [y0, y1, y2, y3, y4, y5], _ =>
      have k1 := act_cells.1
      have k2 := act_cells.2.1
      have k3 := act_cells.2.2.1
      have k4 := act_cells.2.2.2.1
      have k5 := act_cells.2.2.2.2
      have g0 := hg 0 _ rfl
      have g1 := hg 1 _ rfl
      have g2 := hg 2 _ rfl
      have g3 := hg 3 _ rfl
      have g4 := hg 4 _ rfl
      have g5 := hg 5 _ rfl
      simp [k1, k2, k3, k4, k5] at g0 g1 g2 g3 g4 g5
      obtain ⟨z0, e0, -, w0⟩ := DataW.trod_int Try.underlying3 g0
      obtain ⟨z1, e1, -, w1⟩ := DataW.trod_int Try.underlying3 g1
      obtain ⟨s2, e2, -, w2⟩ := DataW.trod_string Try.underlying9 g2
      obtain ⟨b3, e3, -⟩ := DataW.trod_bool Try.underlying4 g3
      simp at e0 e1 e2 e3
      obtain ⟨a, l, cap, rfl, hin⟩ := slice_ints g4
      obtain ⟨D, hD, hDi⟩ := act_of (cs := [c5, c6, c7, c8, c9, c10]) rfl g5
      subst e0 e1 e2 e3
      have hw := w1
      simp [Lit.wf, IntKind.min, IntKind.max, IntKind.signed, IntKind.bits] at hw
      refine ⟨⟨z0, z1, s2.data.toList, b3, l, a, cap, D⟩, ?_, ⟨hin, hw.2, hw.1, ?_, w0, hDi⟩⟩
      · have e : ([c5, c6, c7, c8, c9, c10] : List Value) = D.val.toList := hD
        unfold ActB.val at e
        injection e with e5 e
        injection e with e6 e
        injection e with e7 e
        injection e with e8 e
        injection e with e9 e
        injection e with e10 e
        rw [e5, e6, e7, e8, e9, e10]
        rfl
      · show s2.data.toList.length ≤ _
        rw [Array.length_toList]; exact w2
theorem slice_actsk {v : Value} {y : DataW H × List MemPlace} (h : DataW.trod enc Try.prog W base spare held n 23 [v] = some y) : ∃ a l cap, v = .slice a l.length cap ∧ l.length ≤ maxLen ∧ ActsK W a l ∧ ∀ i, i < l.length → KIs W (l.getD i noK) := by
  rcases Go.Deep.open_slice Try.underlying23 h with ⟨hcs, _⟩ | ⟨x, len, cap, m, n', D, Pl, hcs, _, hl, hm, hmm, _, hcell⟩
  · simp at hcs
    subst hcs
    exact ⟨none, [], 0, rfl, Nat.zero_le _, fun i hi => absurd hi (Nat.not_lt_zero i), fun i hi => absurd hi (Nat.not_lt_zero i)⟩
  · simp at hcs
    subst hcs
    have hlz : len ≤ m := by rw [hmm]; split <;> omega
    have each : ∀ i, i < m → ∃ b : ActK, KIs W b ∧ ∀ j, j < 11 → W.cell? (x.add (i * 11 + j)) = b.row.toList[j]? := fun i hi => by
      obtain ⟨cs', h1, h2⟩ := hcell i hi
      rw [actk_cells] at h1
      obtain ⟨_, hlen, hc⟩ := World.cells?_some h1
      obtain ⟨b, hb, hbc⟩ := actk_of hlen h2
      refine ⟨b, hbc, fun j hj => ?_⟩
      have := hc j hj
      rw [Go.Deep.add_add] at this
      rw [this, ← hb]
    haveI : Inhabited ActK := ⟨noK⟩
    obtain ⟨B, hB⟩ := Go.Deep.choose_lt each
    have hll : ((List.range len).map B).length = len := by simp
    have eachL : ∀ i, i < len → ((List.range len).map B).getD i noK = B i := fun i hi => by simp [List.getD, hi]
    refine ⟨some x, (List.range len).map B, cap, by rw [hll], by rw [hll]; omega, fun i hi => ?_, fun i hi => ?_⟩
    · rw [hll] at hi
      have hc := (hB i (by omega)).2
      obtain ⟨b, off, rfl, hb, hj⟩ := at_addr ⟨_, by have := (hB 0 (by omega)).2 0 (by omega); simpa [ActK.row] using this⟩
      refine ⟨b, off, rfl, hb, fun j hj6 => ?_⟩
      have := hc j hj6
      rw [hj] at this
      rw [this, eachL i hi]
      simp
    · rw [hll] at hi
      rw [eachL i hi]
      exact (hB i (by omega)).1
end
def IsActsK (W : World) (v : Value) (l : List ActK) : Prop := ∃ a cap, v = .slice a l.length cap ∧ l.length ≤ maxLen ∧ ActsK W a l ∧ ∀ i, i < l.length → KIs W (l.getD i noK)
theorem isActsK_of {H : Type} {enc : TypeId × Value → H} {W : World} {r : Reach} {b0 : Nat} {v : Value} {d : DataW H} {p : List MemPlace} {base : Nat} {spare held : _}
    (hv : Value.okWide Try.prog W r b0 23 v) (h : DataW.Trod enc Try.prog W base spare held 23 v d p) : ∃ l, IsActsK W v l := by
  obtain ⟨a0, len, cap0, rfl⟩ := okWide_slice Try.underlying23 hv
  obtain ⟨fuel, hf⟩ := h
  obtain ⟨a, l, cap, e, h1, h2, h3⟩ := slice_actsk hf
  exact ⟨l, a, cap, e, h1, h2, h3⟩
def FewK (b : ActK) : Prop := b.arg.length ≤ 300 ∧ b.keep.length ≤ 20
theorem acts_one (W : World) (b : ActB) : Dsk.Acts (W.alloc (.cells b.val 38)) (some ⟨W.heap.size, 0, none⟩) [b] := fun i hi => by
  have hi0 : i = 0 := by simpa using hi
  subst hi0
  refine ⟨W.heap.size, 0, rfl, by simp, fun j hj => ?_⟩
  have := cell_of_row _ W.heap.size j b.val 38 (0, 0) (Own.heap_new W _)
  simpa using this
set_option maxHeartbeats 4000000 in
theorem small33_any (w : World) (a : Option Addr) (cap : Nat) (l : List ActK) (hl : l.length ≤ maxLen) (ha : ActsK w a l) : Calls Try.prog 7 #[.slice a l.length cap, .int .i64 30] w fun e w' => (∃ r, e = .returned (.bool r) ∧ (r = true → l.length ≤ 30 ∧ ∀ i, i < l.length → FewK (l.getD i noK))) ∧ Below w.heap.size w w' := by
  unfold maxLen at hl
  have HA := Lib.hid ha
  clear ha
  obtain ⟨L, hL⟩ : ∃ L, Hid (l.length = L) := ⟨_, rfl⟩
  rw [hL.out] at hl ⊢
  have SM : Hid (∀ (W : World) (b : ActB), Calls Try.prog 18 #[.slice (some ⟨W.heap.size, 0, none⟩) 1 1, .int .i64 1] (W.alloc (.cells b.val 38)) fun e w' => (∃ r, e = .returned (.bool r)) ∧ Below (W.alloc (.cells b.val 38)).heap.size (W.alloc (.cells b.val 38)) w') := fun W b =>
    (Dsk.small_any (W.alloc (.cells b.val 38)) (some ⟨W.heap.size, 0, none⟩) 1 [b] (by unfold maxLen; simp) (acts_one W b) 1 (by omega)).mono fun e w' ⟨⟨r, h1, h2⟩, h3⟩ => ⟨⟨r, h1⟩, h3⟩
  go_enter Try.func7, Try.ntmps7
  go_wp2
  go_loopw [5] (fun v wr => ∃ k : Nat, v = .int .i64 (k : Int) ∧ k ≤ L ∧ k ≤ 30 ∧ Hid (∀ i, i < k → FewK (l.getD i noK)) ∧ Hid (Below w.heap.size w wr)) (fun v _ => L - (intOf v).toNat)
  case atStart => exact ⟨0, rfl, by omega, by omega, fun i hi => absurd hi (Nat.not_lt_zero i), Below.refl _ _⟩
  case round =>
    obtain ⟨k, rfl, hk, hkm, HF, HB⟩ := hrel
    by_cases hkl : k < L
    · have dk : decide ((k : Int) < (L : Int)) = true := decide_eq_true (by omega)
      by_cases hkm2 : k < 30
      · have dm : decide ((k : Int) < 30) = true := decide_eq_true (by omega)
        obtain ⟨b, off, rfl, hb, hc⟩ := HA.out k (by rw [hL.out]; exact hkl)
        have hcc : ∀ j, j < 11 → wr.cell? ⟨b, off + (k * 11 + j), none⟩ = (l.getD k noK).row[j]? := fun j hj => (HB.out.cell (p := ⟨b, off + (k * 11 + j), none⟩) hb).trans (hc j hj)
        have c2 := hcc 2 (by decide)
        have c4 := hcc 4 (by decide)
        have c5 := hcc 5 (by decide)
        have c6 := hcc 6 (by decide)
        have c7 := hcc 7 (by decide)
        have c8 := hcc 8 (by decide)
        have c9 := hcc 9 (by decide)
        have c10 := hcc 10 (by decide)
        obtain ⟨x, hx⟩ : ∃ x, Hid (l.getD k noK = x) := ⟨_, rfl⟩
        rw [hx.out] at c2 c4 c5 c6 c7 c8 c9 c10
        obtain ⟨kind, nn, arg, half, keep, ka, kc, D⟩ := x
        obtain ⟨⟨dk1, dn, dname, darg, dh, dkeep⟩, dka, dkc⟩ := D
        simp [ActK.row] at c2 c4 c5 c6 c7 c8 c9 c10
        rw [← Nat.add_assoc] at c2 c4 c5 c6 c7 c8 c9 c10
        have s2 : (ByteArray.mk arg.toArray).size = arg.length := by show arg.toArray.size = _; rw [List.size_toArray]
        have SMk : Hid (∀ (W : World), Calls Try.prog 18 #[.slice (some ⟨W.heap.size, 0, none⟩) 1 1, .int .i64 1] (W.alloc (.cells #[.int .i64 dk1, .int .i64 dn, .string ⟨dname.toArray⟩, .string ⟨darg.toArray⟩, .bool dh, .slice dka dkeep.length dkc] 38)) fun e w' => (∃ r, e = .returned (.bool r)) ∧ Below (W.alloc (.cells #[.int .i64 dk1, .int .i64 dn, .string ⟨dname.toArray⟩, .string ⟨darg.toArray⟩, .bool dh, .slice dka dkeep.length dkc] 38)).heap.size (W.alloc (.cells #[.int .i64 dk1, .int .i64 dn, .string ⟨dname.toArray⟩, .string ⟨darg.toArray⟩, .bool dh, .slice dka dkeep.length dkc] 38)) w') := fun W => SM.out W ⟨⟨dk1, dn, dname, darg, dh, dkeep⟩, dka, dkc⟩
        clear hc hcc SM
        by_cases q1 : 300 < arg.length
        · have e1 : decide ((300 : Int) < (arg.length : Int)) = true := decide_eq_true (by omega)
          go_wp2
          go_ret
          exact ⟨⟨false, rfl, fun h => by cases h⟩, HB.out⟩
        · have e1 : decide ((300 : Int) < (arg.length : Int)) = false := decide_eq_false (by omega)
          by_cases q3 : 20 < keep.length
          · have e3 : decide ((20 : Int) < (keep.length : Int)) = true := decide_eq_true (by omega)
            go_wp2
            go_ret
            exact ⟨⟨false, rfl, fun h => by cases h⟩, HB.out⟩
          · have e3 : decide ((20 : Int) < (keep.length : Int)) = false := decide_eq_false (by omega)
            have HN : Hid (∀ i, i < k + 1 → FewK (l.getD i noK)) := fun i hi => by
              by_cases hik : i = k
              · subst hik
                rw [hx.out]
                exact ⟨by show arg.length ≤ 300; omega, by show keep.length ≤ 20; omega⟩
              · exact HF.out i (by omega)
            go_wp2_with (go_at_call 18; (with_reducible refine (SMk.out _).mono ?_); rintro e w1 ⟨⟨r, rfl⟩, hb1⟩; have HB1 := Lib.hid (below2 (below_al HB.out _) hb1); clear hb1; cases r)
            · go_ret
              exact ⟨⟨false, rfl, fun h => by cases h⟩, HB1.out⟩
            · go_roundw
              case rel => exact ⟨k + 1, by go_num, by omega, by omega, HN, HB1⟩
              case measure => simp [intOf]; omega
      · have dm : decide ((k : Int) < 30) = false := decide_eq_false (by omega)
        have dl : decide ((L : Int) ≤ 30) = false := decide_eq_false (by omega)
        have hlm : ¬ L ≤ 30 := by omega
        have dl2 : decide (L ≤ 30) = false := decide_eq_false hlm
        go_wp2
        go_ret
        exact ⟨⟨false, rfl, fun h => by cases h⟩, HB.out⟩
    · have dk : decide ((k : Int) < (L : Int)) = false := decide_eq_false (by omega)
      have hkL : k = L := by omega
      have hlm : L ≤ 30 := by omega
      have dl : decide ((L : Int) ≤ 30) = true := decide_eq_true (by omega)
      go_wp2
      go_ret
      exact ⟨⟨true, rfl, fun _ => ⟨hlm, fun i hi => HF.out i (by omega)⟩⟩, HB.out⟩
end Jrn
end Go.Proofs.Yteaikleofboknaa
end
section
namespace Go.Proofs.Yteaikleofboknaa
open Go.RowKit
namespace Jrn
open Frm (put first scan fits num)
open Dsk
/-- A journal that is open on a disk that goes on. -/
structure Open' (d : DkIn) (S : SavedIn) (k B : Nat) : Prop where
  live : Live d S
  goes : d.dead = false
  gr : Gr d k B
theorem Open'.rest {d : DkIn} {S : SavedIn} {k B : Nat} (h : Open' d S k B) : Rest d S := h.live.rest h.goes
theorem Open'.room {d : DkIn} {S : SavedIn} {k B : Nat} (h : Open' d S k B) : (bytesOf d.files : Int) + 17 ≤ d.room + (logB d).length := by
  have h1 := h.live.gr.2
  have h2 := h.gr.fits
  omega
theorem Open'.mono {d : DkIn} {S : SavedIn} {k B k' B' : Nat} (h : Open' d S k B) (hk : k ≤ k') (hB : B ≤ B') : Open' d S k' B' := ⟨h.live, h.goes, h.gr.mono hk hB⟩
/-- No operation is told to be the last. -/
def Calm (d : DkIn) : Prop := d.last = 0
theorem calm_open {d : DkIn} {S : SavedIn} {k B : Nat} (hR : Rest d S) (hG : Gr d k B) (hk : k ≤ 1000000) (hg : S.gen ≤ 1000000) (hr : (bytesOf d.files : Int) + 17 ≤ d.room + (logB d).length) (hc : Calm d) :
    (openV d S.gen).1 = 0 ∧ Open' (openV d S.gen).2 S (k + 3) (B + 17) ∧ Calm (openV d S.gen).2 ∧ (openV d S.gen).2.room = d.room := by
  have hE := open_end hG hR (by omega) hr
  have hG2 := gr_open hG (by omega) S.gen
  rcases hE.ends with ⟨h1, h2, h3, T, rfl, h4⟩ | ⟨h1, h2, h3, h4⟩
  · exact ⟨h1, ⟨h4, h2, hG2⟩, h3 hc, hE.room⟩
  · exact absurd hc h3
theorem calm_write {d : DkIn} {S : SavedIn} {k B : Nat} (h : Open' d S k B) (hk : k ≤ 1000000) (hc : Calm d) (r : List UInt8) (hr : fits r.length = true) :
    (writeV d r = (4, d) ∧ d.room < B + (8 + r.length)) ∨
    ((writeV d r).1 = 0 ∧ Open' (writeV d r).2 { S with recs := S.recs ++ [r] } (k + 2) (B + (8 + r.length)) ∧ Calm (writeV d r).2 ∧ (writeV d r).2.room = d.room) := by
  have hG2 := gr_write h.gr (by omega) r
  rcases write_end h.gr.ok.fok h.goes h.live r hr with ⟨h1, h2⟩ | hE
  · have := h.gr.by'
    exact Or.inl ⟨h1, by omega⟩
  · rcases hE.ends with ⟨h1, h2, h3, T, rfl, h4⟩ | ⟨h1, h2, h3, h4⟩
    · exact Or.inr ⟨h1, ⟨h4, h2, hG2⟩, h3 hc, hE.room⟩
    · exact absurd hc h3
theorem calm_snap {d : DkIn} {S : SavedIn} {k B : Nat} (h : Open' d S k B) (hk : k ≤ 100000) (hc : Calm d) (base : List UInt8) (F : Nat) (hF : 25 + base.length + 8 * (base.length / 4096 + 1) ≤ F) :
    (((snapV d S.gen base).1 = 4 ∧ Open' (snapV d S.gen base).2 S (k + 8) (B + F + 17) ∧ d.room < B + F) ∨
     ((snapV d S.gen base).1 = 0 ∧ Open' (snapV d S.gen base).2 ⟨S.gen + 1, true, base, []⟩ (k + 8) (B + F + 17))) ∧ Calm (snapV d S.gen base).2 ∧ (snapV d S.gen base).2.room = d.room := by
  have hf := (fileB_len (S.gen + 1) base).2
  have hG2 := (gr_snap h.gr (by omega) S.gen base).mono (Nat.le_refl (k + 8)) (show B + (fileB (S.gen + 1) base).length + 17 ≤ B + F + 17 by omega)
  obtain ⟨h0, hE⟩ := snap_end h.gr (by omega) h.goes h.live base
  have := h.gr.by'
  rcases hE with ⟨h1, h2, h3, h4⟩ | ⟨h1, h2, h3, h4, h5⟩ | ⟨h1, h2, h3, h4⟩
  · exact ⟨Or.inr ⟨h1, h4, h2, hG2⟩, h3 hc, h0⟩
  · exact ⟨Or.inl ⟨h1, ⟨h4, h2, hG2⟩, by omega⟩, h3 hc, h0⟩
  · exact absurd hc h3
/-- A disk as it is made. -/
def S0 : SavedIn := ⟨0, false, [], []⟩
theorem new_rest (z : Int) : Rest (newD z) S0 :=
  ⟨⟨false, 0, [], ⟨rfl, fun _ => ⟨rfl, rfl⟩, fun h => by cases h⟩, [], LK.empty 0, rfl⟩, rfl, fun f hf => by cases hf⟩
theorem new_calm (z : Int) : Calm (newD z) := rfl
/-- What awake() does. -/
def dA : DkIn := (openV (newD 4096) 0).2
def dB : DkIn := (writeV dA [97]).2
def dC : DkIn := (snapV dB 0 [98, 97, 115, 101]).2
def dD : DkIn := (writeV dC [98]).2
def dE : DkIn := (openV dD 1).2
def SA : SavedIn := ⟨0, false, [], [[97]]⟩
def SC : SavedIn := ⟨1, true, [98, 97, 115, 101], []⟩
def SD : SavedIn := ⟨1, true, [98, 97, 115, 101], [[98]]⟩
theorem awk1 : (openV (newD 4096) 0).1 = 0 ∧ Open' dA S0 3 17 ∧ Calm dA ∧ dA.room = 4096 :=
  calm_open (S := S0) (new_rest 4096) (gr_new (by decide)) (by decide) (by decide) (by decide) (new_calm 4096)
theorem awk2 : (writeV dA [97]).1 = 0 ∧ Open' dB SA 5 26 ∧ Calm dB ∧ dB.room = 4096 := by
  obtain ⟨h1, h2, h3, h4⟩ := awk1
  rcases calm_write h2 (by decide) h3 [97] (by decide) with ⟨_, h⟩ | ⟨a, b, c, d⟩
  · rw [h4] at h
    simp at h
  · exact ⟨a, b, c, d.trans h4⟩
theorem awk3 : (snapV dB 0 [98, 97, 115, 101]).1 = 0 ∧ Open' dC SC 13 80 ∧ Calm dC ∧ dC.room = 4096 := by
  obtain ⟨h1, h2, h3, h4⟩ := awk2
  obtain ⟨h5, h6, h7⟩ := calm_snap h2 (by decide) h3 [98, 97, 115, 101] 37 (by decide)
  rcases h5 with ⟨_, _, h⟩ | ⟨a, b⟩
  · rw [h4] at h
    simp at h
  · exact ⟨a, b, h6, h7.trans h4⟩
theorem awk4 : (writeV dC [98]).1 = 0 ∧ Open' dD SD 15 89 ∧ Calm dD ∧ dD.room = 4096 := by
  obtain ⟨h1, h2, h3, h4⟩ := awk3
  rcases calm_write h2 (by decide) h3 [98] (by decide) with ⟨_, h⟩ | ⟨a, b, c, d⟩
  · rw [h4] at h
    simp at h
  · exact ⟨a, b, c, d.trans h4⟩
theorem awk5 : (openV dD 1).1 = 0 ∧ Open' dE SD 18 106 ∧ Calm dE ∧ dE.room = 4096 := by
  obtain ⟨h1, h2, h3, h4⟩ := awk4
  obtain ⟨a, b, c, d⟩ := calm_open (S := SD) h2.rest h2.gr (by decide) (by decide) h2.room h3
  exact ⟨a, b, c, d.trans h4⟩
theorem file_awk : fileB 1 [98, 97, 115, 101] = catsL [headS 1 4, [98, 97, 115, 101]] := by
  unfold fileB
  have e : chunks [98, 97, 115, 101] = [[98, 97, 115, 101]] := by
    rw [chunks_cons (by decide)]
    show _ :: chunks [] = _
    rw [chunks_nil]
    rfl
  rw [e]
  rfl
theorem names_awk : namesV dE = [logN, snapN] := by
  unfold dE dD dC
  unfold snapV
  rw [file_awk]
  unfold dB dA
  decide +kernel
end Jrn
end Go.Proofs.Yteaikleofboknaa
end
section
set_option maxRecDepth 100000
namespace Go.Proofs.Yteaikleofboknaa
open Go.RowKit Go.Great Go.Maps
namespace Jrn
open Frm (fits num put scan strs rows allS allE oks ok cats)
open In (strVals Strs)
open Dsk (below2 below_al below_dN DkIn PD Bx Dok FileIn newD namesV)
theorem bj_below {w0 a b : World} {g m j : Nat} (h : Below w0.heap.size w0 a) (hx : Bj g m j a b) (hg : w0.heap.size ≤ g) (hm : w0.heap.size ≤ m) (hj : w0.heap.size ≤ j) : Below w0.heap.size w0 b :=
  ⟨hx.os.trans h.os, hx.tape.trans h.tape, hx.output.trans h.output, Nat.le_trans h.size hx.size, fun k hk => (hx.block k (Nat.lt_of_lt_of_le hk h.size) (by omega) (by omega) (by omega)).trans (h.block k hk)⟩
theorem bx_below {w0 a b : World} {g m : Nat} (h : Below w0.heap.size w0 a) (hx : Bx g m a b) (hg : w0.heap.size ≤ g) (hm : w0.heap.size ≤ m) : Below w0.heap.size w0 b :=
  ⟨hx.os.trans h.os, hx.tape.trans h.tape, hx.output.trans h.output, Nat.le_trans h.size hx.size, fun k hk => (hx.block k (Nat.lt_of_lt_of_le hk h.size) (by omega) (by omega)).trans (h.block k hk)⟩
/-- What an opening that is done answers. -/
theorem open_ok (w : World) (g m k B : Nat) (d : DkIn) (h : PG w g m d k B) (hk : k < 800000) (hB : B ≤ 1000000) (S : SavedIn) (hR : Rest d S) (hgen : S.gen ≤ 1000000) (hbase : S.base.length ≤ 100000) (hrecs : S.recs.length ≤ 100000) (h0 : (openV d S.gen).1 = 0) : Calls Try.prog 9 #[.pointer (some ⟨g, 0, none⟩)] w fun e w' => ∃ j a cap, e = .returned (.tuple #[.pointer (some ⟨j, 0, none⟩), savedVal S a cap, .int .i64 0]) ∧ Hid (JR w' j g (S.gen : Int) (S.recs.length : Int) false) ∧ w.heap.size ≤ j ∧ Hid (Recs w' w.heap.size a S.recs) ∧ (a = none → cap = 0) ∧ Hid (PD w' g m (openV d S.gen).2.files.length (openV d S.gen).2) ∧ Hid (Bx g m w w') :=
  (open_pg w g m k B d h hk hB S hR hgen hbase hrecs).mono fun e w' ⟨h1, h2, h3⟩ => by
    obtain ⟨j, a, cap, e1, e2, e3, e4, e5⟩ := h1.1 h0
    exact ⟨j, a, cap, e1, e2, e3, e4, e5, h2, h3⟩
theorem strs_b (W : World) (T : TypeId) : Strs (W.alloc (.cells #[.string ⟨#[98]⟩] T)) (some ⟨W.heap.size, 0, none⟩) (rows [[98]]) := Frm.strs_one W ⟨#[98]⟩ T
theorem strs_b' (W : World) (T : TypeId) (x : Nat) (hx : W.heap.size = x) : Strs (W.alloc (.cells #[.string ⟨#[98]⟩] T)) (some ⟨x, 0, none⟩) (rows [[98]]) := by
  subst hx
  exact strs_b W T
theorem strs_ls (W : World) (T : TypeId) : Strs (W.alloc (.cells #[.string ⟨#[108, 111, 103]⟩, .string ⟨#[115, 110, 97, 112]⟩] T)) (some ⟨W.heap.size, 0, none⟩) (rows [logN, snapN]) := Frm.strs_new2 W ⟨#[108, 111, 103]⟩ ⟨#[115, 110, 97, 112]⟩ T
set_option maxHeartbeats 8000000 in
theorem awake_any (w : World) : Calls Try.prog 8 #[] w fun e w' => e = .returned (.bool true) ∧ Below w.heap.size w w' := by
  obtain ⟨g, hg⟩ : ∃ g, g = w.heap.size + 1 := ⟨_, rfl⟩
  obtain ⟨m, hm⟩ : ∃ m, m = w.heap.size := ⟨_, rfl⟩
  have NEW : Hid (Calls Try.prog 6 #[.int .i64 4096] w fun e w' => e = .returned (.tuple #[.pointer (some ⟨g, 0, none⟩), .int .i64 0]) ∧ Hid (PD w' g m 0 (newD 4096)) ∧ Hid (Below w.heap.size w w')) := by
    rw [hg, hm]
    exact Dsk.new_any w 4096 (by decide)
  have hg' : w.heap.size ≤ g := by omega
  have hm' : w.heap.size ≤ m := by omega
  clear hg hm
  have O1 : Hid (∀ W, PD W g m 0 (newD 4096) → Calls Try.prog 9 #[.pointer (some ⟨g, 0, none⟩)] W fun e w' => ∃ j a cap, e = .returned (.tuple #[.pointer (some ⟨j, 0, none⟩), .agg #[.int .i64 0, .bool false, .string ⟨#[]⟩, .slice a 0 cap], .int .i64 0]) ∧ Hid (JR w' j g 0 0 false) ∧ W.heap.size ≤ j ∧ Hid (Recs w' W.heap.size a []) ∧ (a = none → cap = 0) ∧ Hid (PD w' g m dA.files.length dA) ∧ Hid (Bx g m W w')) := fun W hp =>
    open_ok W g m 0 0 (newD 4096) ⟨hp, gr_new (by decide)⟩ (by decide) (by decide) S0 (new_rest 4096) (by decide) (by decide) (by decide) awk1.1
  have A1 : Hid (∀ W j, PD W g m dA.files.length dA → JR W j g 0 0 false → j ≠ g → j ≠ m → Calls Try.prog 10 #[.pointer (some ⟨j, 0, none⟩), .string ⟨#[97]⟩] W fun e w' => e = .returned (.int .i64 0) ∧ Hid (PD w' g m dB.files.length dB) ∧ Hid (JR w' j g 0 1 false) ∧ Hid (Bj g m j W w')) := fun W j hp hj h1 h2 => by
    obtain ⟨a1, a2, a3, a4⟩ := awk1
    have := append_j W j g m 3 17 dA ⟨hp, a2.gr⟩ (by decide) 0 0 (by decide) hj h1 h2 a2.goes ⟨#[97]⟩ (by decide)
    rw [show (writeV dA (ByteArray.mk #[97]).data.toList) = (0, dB) from Prod.ext awk2.1 rfl] at this
    exact this.mono fun e w' ⟨e1, e2⟩ => ⟨e1, e2.out.pd, e2.out.jr, e2.out.bj⟩
  have A2 : Hid (∀ W j, PD W g m dB.files.length dB → JR W j g 0 1 false → j ≠ g → j ≠ m → Calls Try.prog 12 #[.pointer (some ⟨j, 0, none⟩), .string ⟨#[98, 97, 115, 101]⟩] W fun e w' => e = .returned (.int .i64 0) ∧ Hid (PD w' g m dC.files.length dC) ∧ Hid (JR w' j g 1 0 false) ∧ Hid (Bj g m j W w')) := fun W j hp hj h1 h2 => by
    obtain ⟨a1, a2, a3, a4⟩ := awk2
    have := snap_j W j g m 5 26 dB ⟨hp, a2.gr⟩ (by decide) 0 (by decide) 1 hj h1 h2 a2.goes ⟨#[98, 97, 115, 101]⟩ (by decide)
    rw [show (snapV dB 0 (ByteArray.mk #[98, 97, 115, 101]).data.toList) = (0, dC) from Prod.ext awk3.1 rfl] at this
    exact this.mono fun e w' ⟨e1, e2⟩ => ⟨e1, e2.out.pd, e2.out.jr, e2.out.bj⟩
  have A3 : Hid (∀ W j, PD W g m dC.files.length dC → JR W j g 1 0 false → j ≠ g → j ≠ m → Calls Try.prog 10 #[.pointer (some ⟨j, 0, none⟩), .string ⟨#[98]⟩] W fun e w' => e = .returned (.int .i64 0) ∧ Hid (PD w' g m dD.files.length dD) ∧ Hid (JR w' j g 1 1 false) ∧ Hid (Bj g m j W w')) := fun W j hp hj h1 h2 => by
    obtain ⟨a1, a2, a3, a4⟩ := awk3
    have := append_j W j g m 13 80 dC ⟨hp, a2.gr⟩ (by decide) 1 0 (by decide) hj h1 h2 a2.goes ⟨#[98]⟩ (by decide)
    rw [show (writeV dC (ByteArray.mk #[98]).data.toList) = (0, dD) from Prod.ext awk4.1 rfl] at this
    exact this.mono fun e w' ⟨e1, e2⟩ => ⟨e1, e2.out.pd, e2.out.jr, e2.out.bj⟩
  have A4 : Hid (∀ W j, PD W g m dD.files.length dD → JR W j g 1 1 false → Calls Try.prog 10 #[.pointer (some ⟨j, 0, none⟩), .string ⟨#[]⟩] W fun e w' => e = .returned (.int .i64 1) ∧ Below W.heap.size W w') := fun W j hp hj =>
    append_arg W j g m _ dD 1 1 hj hp awk4.2.1.goes ⟨#[]⟩ (by decide) (by decide)
  have O2 : Hid (∀ W, PD W g m dD.files.length dD → Calls Try.prog 9 #[.pointer (some ⟨g, 0, none⟩)] W fun e w' => ∃ j a cap, e = .returned (.tuple #[.pointer (some ⟨j, 0, none⟩), .agg #[.int .i64 1, .bool true, .string ⟨#[98, 97, 115, 101]⟩, .slice a 1 cap], .int .i64 0]) ∧ Hid (JR w' j g 1 1 false) ∧ W.heap.size ≤ j ∧ Hid (Recs w' W.heap.size a [[98]]) ∧ (a = none → cap = 0) ∧ Hid (PD w' g m dE.files.length dE) ∧ Hid (Bx g m W w')) := fun W hp => by
    obtain ⟨a1, a2, a3, a4⟩ := awk4
    exact open_ok W g m 15 89 dD ⟨hp, a2.gr⟩ (by decide) (by decide) SD a2.rest (by decide) (by decide) (by decide) awk5.1
  have SM : Hid (∀ W (a b : Option Addr) cap, Strs W a (rows [[98]]) → Strs W b (rows [[98]]) → Calls Try.prog 13 #[.agg #[.int .i64 1, .bool true, .string ⟨#[98, 97, 115, 101]⟩, .slice a 1 cap], .agg #[.int .i64 1, .bool true, .string ⟨#[98, 97, 115, 101]⟩, .slice b 1 1]] W fun e w' => e = .returned (.bool true) ∧ Below W.heap.size W w') := fun W a b cap h1 h2 => by
    have := same33_any SD SD a b cap 1 W (by decide) (by decide) h1 h2
    rw [decide_eq_true rfl] at this
    exact this
  have NM : Hid (∀ W, PD W g m dE.files.length dE → Calls Try.prog 20 #[.pointer (some ⟨g, 0, none⟩)] W fun e w' => ∃ a cap, e = .returned (.slice a 2 cap) ∧ Hid (Strs w' a (rows [logN, snapN])) ∧ Below W.heap.size W w') := fun W hp => by
    obtain ⟨a1, a2, a3, a4⟩ := awk5
    refine (Dsk.names_any W g m _ dE hp a2.gr.ok (by have := a2.gr.len; omega)).mono fun e w' ⟨v, e1, e2, e3⟩ => ?_
    rw [names_awk] at e2
    have e4 : w'.ownsRow W.heap.size 9 1 v (rows [logN, snapN]).length (strVals (rows [logN, snapN])) := e2.out
    obtain ⟨a, cap, rfl, hst⟩ := In.strs_of_own e4
    exact ⟨a, cap, e1, hst, e3.out⟩
  have FS : Hid (∀ W (a b : Option Addr) cap, Strs W a (rows [logN, snapN]) → Strs W b (rows [logN, snapN]) → Calls Try.prog 19 #[.slice a 2 cap, .slice b 2 2] W fun e w' => e = .returned (.bool true) ∧ Below W.heap.size W w') := fun W a b cap h1 h2 => by
    have := Dsk.same_any a b cap 2 (rows [logN, snapN]) (rows [logN, snapN]) (by decide) (by decide) W h1 h2
    rw [show Dsk.same (rows [logN, snapN]) (rows [logN, snapN]) = true from decide_eq_true rfl] at this
    exact this
  go_enter Try.func8, Try.ntmps8
  go_wp2_with (first
    | (go_at_call 6; (with_reducible refine NEW.out.mono ?_); rintro e w1 ⟨rfl, HP1, HB1⟩)
    | (go_at_call 9; (with_reducible refine (O1.out _ HP1.out).mono ?_); rintro e w2 ⟨j, sa, sc, rfl, HJ2, hjw, HR2, -, HP2, HX2⟩; have HB2 := Lib.hid (bx_below HB1.out HX2.out hg' hm'); have hjg : j ≠ g := (by have := HP1.out.lt.1; omega); have hjm : j ≠ m := (by have := HP1.out.lt.2; omega); have hj' : w.heap.size ≤ j := Nat.le_trans HB1.out.size hjw)
    | (go_at_call 10; (with_reducible refine (A1.out _ j (HP2.out.below (below_al (Below.refl _ _) _)) (HJ2.out.below (below_al (Below.refl _ _) _)) hjg hjm).mono ?_); rintro e w3 ⟨rfl, HP3, HJ3, HX3⟩; have HB3 := Lib.hid (bj_below (below_al HB2.out _) HX3.out hg' hm' hj'))
    | (go_at_call 12; (with_reducible refine (A2.out _ j HP3.out HJ3.out hjg hjm).mono ?_); rintro e w4 ⟨rfl, HP4, HJ4, HX4⟩; have HB4 := Lib.hid (bj_below HB3.out HX4.out hg' hm' hj'))
    | (go_at_call 10; (with_reducible refine (A3.out _ j HP4.out HJ4.out hjg hjm).mono ?_); rintro e w5 ⟨rfl, HP5, HJ5, HX5⟩; have HB5 := Lib.hid (bj_below HB4.out HX5.out hg' hm' hj'))
    | (go_at_call 10; (with_reducible refine (A4.out _ j HP5.out HJ5.out).mono ?_); rintro e w6 ⟨rfl, hb6⟩; have HB6 := Lib.hid (below2 HB5.out hb6); have HP6 := Lib.hid (HP5.out.below hb6); have HJ6 := Lib.hid (HJ5.out.below hb6); clear hb6)
    | (go_at_call 9; (with_reducible refine (O2.out _ HP6.out).mono ?_); rintro e w7 ⟨j2, sa2, sc2, rfl, HJ7, hjw2, HR7, -, HP7, HX7⟩; have HB7 := Lib.hid (bx_below HB6.out HX7.out hg' hm'); have HK7 := Lib.hid (HJ6.out.bx HX7.out hjg hjm))
    | (go_at_call 13; (with_reducible refine (SM.out _ sa2 _ sc2 ?hs1 ?hs2).mono ?_); (case hs1 => exact (HR7.out.lie.below (below_al (below_al (Below.refl _ _) _) _))); (case hs2 => exact strs_b' _ _ _ (by simp)); rintro e w8 ⟨rfl, hb8⟩; have HB8 := Lib.hid (below2 (below_al (below_al HB7.out _) _) hb8); have HF8 := Lib.hid (below2 (below_al (below_al (Below.refl _ _) _) _) hb8); clear hb8)
    | (go_at_call 14; (with_reducible refine (gen_j _ j2 g 1 1 false (HJ7.out.below HF8.out)).mono ?_); rintro e w9 ⟨rfl, rfl⟩)
    | (go_at_call 15; (with_reducible refine (count_j _ j2 g 1 1 false (HJ7.out.below HF8.out)).mono ?_); rintro e w9 ⟨rfl, rfl⟩)
    | (go_at_call 15; (with_reducible refine (count_j _ j g 1 1 false (HK7.out.below HF8.out)).mono ?_); rintro e w9 ⟨rfl, rfl⟩)
    | (go_at_call 20; (with_reducible refine (NM.out _ (HP7.out.below HF8.out)).mono ?_); rintro e w10 ⟨na, nc, rfl, HN10, hb10⟩; have HB10 := Lib.hid (below2 HB8.out hb10); clear hb10)
    | (go_at_call 19; (with_reducible refine (FS.out _ na _ nc ?hs3 ?hs4).mono ?_); (case hs3 => exact HN10.out.below (below_al (Below.refl _ _) _)); (case hs4 => exact strs_ls _ _); rintro e w11 ⟨rfl, hb11⟩; have HB11 := Lib.hid (below2 (below_al HB10.out _) hb11); clear hb11))
  go_ret
  exact ⟨rfl, HB11.out⟩
theorem open_nil (w : World) : Calls Try.prog 9 #[.pointer none] w fun e w' => e = .returned (.tuple #[.pointer none, noSaved, .int .i64 1]) ∧ Below w.heap.size w w' := by
  go_enter Try.func9, Try.ntmps9
  go_wp2
  exact bodyPost_ret (ret_saved rfl _ _ w.heap.size _ _ _ _ _ _ rfl rfl rfl (heap_alloc_new w _)) rfl ⟨rfl, below_al (Below.refl _ _) _⟩
theorem nobody_walk (s : ByteArray) (hs : s.size ≤ maxLen) (w : World) : Calls Try.prog 4 #[.string s] w fun e w' => e = .returned (.bool true) ∧ Below w.heap.size w w' := by
  unfold maxLen at hs
  have AW : Hid (∀ W, Calls Try.prog 8 #[] W fun e w' => e = .returned (.bool true) ∧ Below W.heap.size W w') := awake_any
  by_cases h0 : 8192 < s.size
  · have d0 : decide ((8192 : Int) < (s.size : Int)) = true := decide_eq_true (by omega)
    go_enter Try.func4, Try.ntmps4
    go_wp2_with (go_at_call 8; (with_reducible refine (AW.out _).mono ?_); rintro e wa ⟨rfl, hba⟩)
    go_ret
    exact ⟨rfl, hba⟩
  · have d0 : decide ((8192 : Int) < (s.size : Int)) = false := decide_eq_false (by omega)
    have ON : Hid (∀ W, Calls Try.prog 9 #[.pointer none] W fun e w' => e = .returned (.tuple #[.pointer none, .agg #[.int .i64 0, .bool false, .string ⟨#[]⟩, .slice none 0 0], .int .i64 1]) ∧ Below W.heap.size W w') := open_nil
    have SM : Hid (∀ W, Calls Try.prog 13 #[.agg #[.int .i64 0, .bool false, .string ⟨#[]⟩, .slice none 0 0], .agg #[.int .i64 0, .bool false, .string ⟨#[]⟩, .slice none 0 0]] W fun e w' => e = .returned (.bool true) ∧ Below W.heap.size W w') := fun W => by
      have := same33_any S0 S0 none none 0 0 W (by decide) (by decide) (fun i hi => absurd hi (Nat.not_lt_zero i)) (fun i hi => absurd hi (Nat.not_lt_zero i))
      rw [decide_eq_true rfl] at this
      exact this
    go_enter Try.func4, Try.ntmps4
    go_wp2_with (first
      | (go_at_call 9; (with_reducible refine (ON.out _).mono ?_); rintro e w1 ⟨rfl, hb1⟩; have HB1 := Lib.hid hb1; clear hb1)
      | (go_at_call 13; (with_reducible refine (SM.out _).mono ?_); rintro e w2 ⟨rfl, hb2⟩; have HB2 := Lib.hid (below2 (below_al HB1.out _) hb2); clear hb2))
    obtain ⟨B, hB⟩ : ∃ B, Hid (w2.heap.size = B) := ⟨_, rfl⟩
    obtain ⟨V, hV⟩ : ∃ V, Hid ((w2.alloc (.cells #[.pointer none, .int .i64 0, .int .i64 0, .bool false] 46)).alloc (.cells #[.pointer none, .pointer (some ⟨B, 0, none⟩)] 30) = V) := ⟨_, rfl⟩
    have HBV : Hid (Below w.heap.size w V) := by rw [← hV.out]; exact below_al (below_al HB2.out _) _
    have hVs : Hid (V.heap.size = B + 2) := by show _ = _; rw [← hV.out, ← hB.out]; simp
    have z : ∀ j, V.cell? ⟨B, j, none⟩ = (#[.pointer none, .int .i64 0, .int .i64 0, .bool false] : Array Value)[j]? := fun j => by
      rw [← hV.out, ← hB.out]
      exact cell_of_row _ _ j _ _ _ (heap_alloc2_old w2 _ _)
    have u : ∀ j, V.cell? ⟨B + 1, j, none⟩ = (#[.pointer none, .pointer (some ⟨B, 0, none⟩)] : Array Value)[j]? := fun j => by
      rw [← hV.out, ← hB.out]
      exact cell_of_row _ _ j _ _ _ (heap_alloc2_new w2 _ _)
    have HF : Hid (∀ W, Below V.heap.size V W → W.cell? ⟨B + 1, 0, none⟩ = some (.pointer none) ∧ W.cell? ⟨B + 1, 1, none⟩ = some (.pointer (some ⟨B, 0, none⟩)) ∧ W.cell? ⟨B, 0, none⟩ = some (.pointer none) ∧ W.cell? ⟨B, 1, none⟩ = some (.int .i64 0) ∧ W.cell? ⟨B, 2, none⟩ = some (.int .i64 0) ∧ B + 1 < W.heap.size) := fun W hW => by
      have h1 := hVs.out
      have h2 := hW.size
      exact ⟨(hW.cell (p := ⟨B + 1, 0, none⟩) (by show B + 1 < _; omega)).trans (u 0), (hW.cell (p := ⟨B + 1, 1, none⟩) (by show B + 1 < _; omega)).trans (u 1), (hW.cell (p := ⟨B, 0, none⟩) (by show B < _; omega)).trans (z 0), (hW.cell (p := ⟨B, 1, none⟩) (by show B < _; omega)).trans (z 1), (hW.cell (p := ⟨B, 2, none⟩) (by show B < _; omega)).trans (z 2), by omega⟩
    have NA : Hid (∀ W, Calls Try.prog 10 #[.pointer none, .string s] W fun e w' => e = .returned (.int .i64 1) ∧ Below W.heap.size W w') := fun W => append_none W none (fun V _ => wakes_nil V) s
    have NS : Hid (∀ W, Calls Try.prog 12 #[.pointer none, .string s] W fun e w' => e = .returned (.int .i64 1) ∧ Below W.heap.size W w') := fun W => snap_none W none (fun V _ => wakes_nil V) s
    have ZA : Hid (∀ W, Below V.heap.size V W → Calls Try.prog 10 #[.pointer (some ⟨B, 0, none⟩), .string s] W fun e w' => e = .returned (.int .i64 1) ∧ Below W.heap.size W w') := fun W hW => append_none W _ (fun U hU => wakes_zero U B (HF.out U (below2 hW hU)).2.2.1) s
    have ZS : Hid (∀ W, Below V.heap.size V W → Calls Try.prog 12 #[.pointer (some ⟨B, 0, none⟩), .string s] W fun e w' => e = .returned (.int .i64 1) ∧ Below W.heap.size W w') := fun W hW => snap_none W _ (fun U hU => wakes_zero U B (HF.out U (below2 hW hU)).2.2.1) s
    rw [hB.out, hV.out]
    clear z u hV hB HB1 HB2
    go_loopw [7] (fun v wr => ∃ k : Nat, k ≤ 2 ∧ v = .int .i64 (k : Int) ∧ Hid (Below V.heap.size V wr)) (fun v _ => 2 - (intOf v).toNat)
    case atStart => exact ⟨0, by omega, rfl, Below.refl _ _⟩
    case round =>
      obtain ⟨k, hk, rfl, HB⟩ := hrel
      obtain ⟨y0, y1, y2, y3, y4, y5⟩ := HF.out _ HB.out
      by_cases hlt : k < 2
      · match k, hlt with
        | 0, _ =>
          go_wp2_with (first
            | (go_at_call 10; (with_reducible refine (NA.out _).mono ?_); rintro e w3 ⟨rfl, hb3⟩; have HB3 := Lib.hid (below2 HB.out hb3); clear hb3; obtain ⟨q0, q1, q2, q3, q4, q5⟩ := HF.out _ HB3.out)
            | (go_at_call 12; (with_reducible refine (NS.out _).mono ?_); rintro e w4 ⟨rfl, hb4⟩; have HB4 := Lib.hid (below2 HB3.out hb4); clear hb4; obtain ⟨r0, r1, r2, r3, r4, r5⟩ := HF.out _ HB4.out)
            | (go_at_call 14; (with_reducible refine (gen_nil _).mono ?_); rintro e w5 ⟨rfl, rfl⟩)
            | (go_at_call 15; (with_reducible refine (count_nil _).mono ?_); rintro e w6 ⟨rfl, rfl⟩))
          go_roundw
          case rel => exact ⟨1, by omega, rfl, HB4⟩
          case measure => simp [intOf]
        | 1, _ =>
          go_wp2_with (first
            | (go_at_call 10; (with_reducible refine (ZA.out _ HB.out).mono ?_); rintro e w3 ⟨rfl, hb3⟩; have HB3 := Lib.hid (below2 HB.out hb3); clear hb3; obtain ⟨q0, q1, q2, q3, q4, q5⟩ := HF.out _ HB3.out)
            | (go_at_call 12; (with_reducible refine (ZS.out _ HB3.out).mono ?_); rintro e w4 ⟨rfl, hb4⟩; have HB4 := Lib.hid (below2 HB3.out hb4); clear hb4; obtain ⟨r0, r1, r2, r3, r4, r5⟩ := HF.out _ HB4.out)
            | (go_at_call 14; (with_reducible refine (gen_zero _ B r3).mono ?_); rintro e w5 ⟨rfl, rfl⟩)
            | (go_at_call 15; (with_reducible refine (count_zero _ B r4).mono ?_); rintro e w6 ⟨rfl, rfl⟩))
          go_roundw
          case rel => exact ⟨2, by omega, rfl, HB4⟩
          case measure => simp [intOf]
      · have : k = 2 := by omega
        subst this
        go_wp2_with (go_at_call 8; (with_reducible refine (AW.out _).mono ?_); rintro e wa ⟨rfl, hba⟩; have HBa := Lib.hid (below2 (below2 HBV.out HB.out) hba))
        go_ret
        exact ⟨rfl, HBa.out⟩
end Jrn
end Go.Proofs.Yteaikleofboknaa
end
