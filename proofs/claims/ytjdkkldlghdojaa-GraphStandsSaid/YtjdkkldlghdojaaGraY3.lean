/- How many ways lead: the program's Ways whole; what the reference's Ways holds. -/
import Derived.Test.YtjdkkldlghdojaaGraY2
namespace Go.Proofs.Ytjdkkldlghdojaa
open Go.RowKit
namespace Gra
open In (Ints IsInts)
def WOut (r : Int × Int) (w : World) (e : Ending) (w' : World) : Prop := e = .returned (.tuple #[.int .i64 r.1, .int .i64 r.2]) ∧ Below w.heap.size w w'
set_option maxRecDepth 100000 in
set_option maxHeartbeats 8000000 in
theorem Ways_any (n : Int) (a : Option Addr) (cap : Nat) (l : List (Int × Int)) (f z : Int) (w : World) (ha : Prs w a l) :
    Calls Try.prog 8 #[.int .i64 n, .slice a l.length cap, .int .i64 f, .int .i64 z] w (WOut (waysRes n l f z) w) := by
  by_cases hg : Good n l
  · have CM2 : Hid (Calls Try.prog 17 #[.int .i64 n, .slice a l.length cap] w fun e w' => e = .returned (.pointer (some ⟨w.heap.size, 0, none⟩)) ∧ Hid (Below w.heap.size w w') ∧ Hid (w'.cell? ⟨w.heap.size, 0, none⟩ = some (.int .i64 n))) := (made_any n a cap l w ha).mono fun e w' ⟨h1, h2⟩ => by
      rcases h2 with ⟨_, e1, C, h3⟩ | ⟨h3, _⟩
      · exact ⟨e1, h1, h3.cell0⟩
      · exact absurd hg h3
    have CF : Hid (∀ W, W.cell? ⟨w.heap.size, 0, none⟩ = some (.int .i64 n) → Calls Try.prog 18 #[.pointer (some ⟨w.heap.size, 0, none⟩), .int .i64 f] W fun e w' => e = .returned (.bool (inW f n)) ∧ W = w') := fun W h => is_any w.heap.size n f W h
    have CZ : Hid (∀ W, W.cell? ⟨w.heap.size, 0, none⟩ = some (.int .i64 n) → Calls Try.prog 18 #[.pointer (some ⟨w.heap.size, 0, none⟩), .int .i64 z] W fun e w' => e = .returned (.bool (inW z n)) ∧ W = w') := fun W h => is_any w.heap.size n z W h
    cases hf : inW f n with
    | false =>
      have HR : Hid (waysRes n l f z = (0, 1)) := by show _ = _; unfold waysRes; rw [if_neg (fun h => by rw [hf] at h; cases h.2.1)]
      rw [HR.out]
      rw [hf] at CF
      replace hf := Lib.hid hf
      clear ha hg
      go_enter Try.func8, Try.ntmps8
      go_wp2_with (first
        | (go_at_call 17; ((with_reducible refine CM2.out.mono ?_); rintro e w1 ⟨rfl, HB1, HC1⟩))
        | (go_at_call 18; ((with_reducible refine (CF.out _ HC1.out).mono ?_); rintro e w2 ⟨rfl, rfl⟩)))
      go_ret2
      exact ⟨rfl, HB1.out⟩
    | true =>
      cases hz : inW z n with
      | false =>
        have HR : Hid (waysRes n l f z = (0, 1)) := by show _ = _; unfold waysRes; rw [if_neg (fun h => by rw [hz] at h; cases h.2.2)]
        rw [HR.out]
        rw [hf] at CF
        rw [hz] at CZ
        replace hf := Lib.hid hf
        replace hz := Lib.hid hz
        clear ha hg
        go_enter Try.func8, Try.ntmps8
        go_wp2_with (first
          | (go_at_call 17; ((with_reducible refine CM2.out.mono ?_); rintro e w1 ⟨rfl, HB1, HC1⟩))
          | (go_at_call 18; ((first | (with_reducible refine (CF.out _ HC1.out).mono ?_) | (with_reducible refine (CZ.out _ HC1.out).mono ?_)); rintro e w2 ⟨rfl, rfl⟩)))
        go_ret2
        exact ⟨rfl, HB1.out⟩
      | true =>
        by_cases hs : (ord n.toNat l).length < n.toNat
        · have HR : Hid (waysRes n l f z = (0, 9)) := by show _ = _; unfold waysRes; rw [if_pos ⟨hg, hf, hz⟩, if_pos hs]
          rw [HR.out]
          have CO : Hid (∀ w1 : World, Below w.heap.size w w1 → Calls Try.prog 19 #[.int .i64 n, .slice a l.length cap] w1 fun e w' => e = .returned (.tuple #[.pointer none, .slice none 0 0, .int .i64 9]) ∧ Hid (Below w1.heap.size w1 w')) := fun w1 hb => (ordered_any n a cap l w1 (ha.below hb)).mono fun e w' ⟨h1, h2⟩ => by
            rcases h2 with ⟨h3, _⟩ | ⟨_, _, h3⟩ | ⟨_, h3, _⟩
            · exact absurd hg h3
            · exact ⟨h3, h1⟩
            · exact absurd hs h3
          rw [hf] at CF
          rw [hz] at CZ
          replace hf := Lib.hid hf
          replace hz := Lib.hid hz
          clear ha hg hs
          go_enter Try.func8, Try.ntmps8
          go_wp2_with (first
            | (go_at_call 17; ((with_reducible refine CM2.out.mono ?_); rintro e w1 ⟨rfl, HB1, HC1⟩))
            | (go_at_call 18; ((first | (with_reducible refine (CF.out _ HC1.out).mono ?_) | (with_reducible refine (CZ.out _ HC1.out).mono ?_)); rintro e w2 ⟨rfl, rfl⟩))
            | (go_at_call 19; ((with_reducible refine (CO.out _ HB1.out).mono ?_); rintro e w2 ⟨rfl, HB2⟩)))
          go_ret2
          exact ⟨rfl, HB1.out.trans (HB2.out.mono HB1.out.size)⟩
        · have h1 := inW_yes hf
          have h2 := inW_yes hz
          obtain ⟨N, rfl⟩ : ∃ N : Nat, n = (N : Int) := ⟨n.toNat, by have := hg.1; omega⟩
          obtain ⟨F, rfl⟩ : ∃ F : Nat, f = (F : Int) := ⟨f.toNat, by omega⟩
          obtain ⟨Z, rfl⟩ : ∃ Z : Nat, z = (Z : Int) := ⟨z.toNat, by omega⟩
          rw [Int.toNat_natCast] at hs
          have HR : waysRes (N : Int) l F Z = (if waysV N l F Z ≤ MX then (waysV N l F Z, 0) else (0, 5)) := by unfold waysRes; rw [if_pos ⟨hg, hf, hz⟩, Int.toNat_natCast, if_neg hs]
          rw [HR]
          refine Ways_yes N a cap l F Z hg (by omega) (by omega) (by omega) (by omega) hs _ _ ?_ w ha
          by_cases h : waysV N l F Z ≤ MX
          · rw [if_pos h, if_pos h, if_pos h]; exact ⟨rfl, rfl⟩
          · rw [if_neg h, if_neg h, if_neg h]; exact ⟨rfl, rfl⟩
  · have HR : Hid (waysRes n l f z = (0, 1)) := by show _ = _; unfold waysRes; rw [if_neg (fun h => hg h.1)]
    rw [HR.out]
    have CM2 : Hid (Calls Try.prog 17 #[.int .i64 n, .slice a l.length cap] w fun e w' => e = .returned (.pointer none) ∧ Hid (Below w.heap.size w w')) := (made_any n a cap l w ha).mono fun e w' ⟨h1, h2⟩ => by
      rcases h2 with ⟨h3, _⟩ | ⟨_, h3⟩
      · exact absurd h3 hg
      · exact ⟨h3, h1⟩
    clear ha hg
    go_enter Try.func8, Try.ntmps8
    go_wp2_with (go_at_call 17; ((with_reducible refine CM2.out.mono ?_); rintro e w1 ⟨rfl, HB1⟩))
    go_ret2
    exact ⟨rfl, HB1.out⟩
/-- The sum of the ways of what a node needs. -/
def sF (T : Int → Int) (E : List (Int × Int)) (x : Int) : Int := ((ndsF E x).map T).sum
theorem sF_snoc (T : Int → Int) (E : List (Int × Int)) (x : Int) (i : Nat) (h : i < E.length) : sF T (E.take (i + 1)) x = if (E.getD i (0, 0)).1 = x then sF T (E.take i) x + T (E.getD i (0, 0)).2 else sF T (E.take i) x := by
  unfold sF
  rw [take_snoc E i h, ndsF_snoc]
  split
  · rw [List.map_append, List.sum_append]; simp
  · rfl
theorem sum_map_smW (T : Int → Int) (ys : List Int) (j : Nat) (h : j ≤ ys.length) : ((ys.take j).map T).sum = smW T ys j := by
  induction j with
  | zero => rfl
  | succ j ih => rw [take_snocI ys j h, List.map_append, List.sum_append, ih (by omega), smW]; simp
theorem sF_smW (T : Int → Int) (E : List (Int × Int)) (x : Int) : sF T E x = smW T (ndsF E x) (ndsF E x).length := by
  rw [← sum_map_smW T _ _ (Nat.le_refl _), List.take_length]; rfl
theorem sF_nn {T : Int → Int} (h : ∀ i, 0 ≤ T i) (E : List (Int × Int)) (x : Int) : 0 ≤ sF T E x := by
  unfold sF
  refine sum_nn fun y hy => ?_
  rw [List.mem_map] at hy
  obtain ⟨z, _, rfl⟩ := hy
  exact h z
theorem wyT_before {z : Int} {E : List (Int × Int)} {xs : List Int} (hA : ∀ k, k < xs.length → ∀ e ∈ E, e.1 = xs.getD k 0 → e.2 ∈ xs.take k) {k : Nat} (hk : k ≤ xs.length) (hz : z ∉ xs.take k) : ∀ i, i ≠ z → wyT z E xs k i = 0 := by
  induction k with
  | zero => intro i hi; unfold wyT; rw [if_neg hi]
  | succ k ih =>
    rw [take_snocI xs k hk, List.mem_append, List.mem_singleton] at hz
    have ih' := ih (by omega) (fun h => hz (.inl h))
    intro i hi
    by_cases e : i = xs.getD k 0
    · subst e
      rw [wyT_at (fun h => hz (.inr h.symm))]
      rw [smW_congr (T' := fun _ => 0) _ _ (fun j hj => ?_)]
      · generalize (ndsF E (xs.getD k 0)).length = m
        induction m with
        | zero => rfl
        | succ m ih2 => rw [smW, ih2]; rfl
      · have hm := getD_memI _ _ hj
        have := hA k hk _ (nds_mem.1 hm) rfl
        exact ih' _ (fun h => hz (.inl (by rw [← h]; exact this)))
    · rw [wyT_off e]; exact ih' i hi
theorem zero_sum {z : Int} {E : List (Int × Int)} {xs : List Int} (hA : ∀ k, k < xs.length → ∀ e ∈ E, e.1 = xs.getD k 0 → e.2 ∈ xs.take k) {k : Nat} (hk : k < xs.length) (hz : z ∉ xs.take k) (hx : xs.getD k 0 = z) : sF (wyT z E xs k) E z = 0 := by
  rw [sF_smW, smW_congr (T' := fun _ => 0) _ _ (fun j hj => ?_)]
  · generalize (ndsF E z).length = m
    induction m with
    | zero => rfl
    | succ m ih2 => rw [smW, ih2]; rfl
  · have hm := getD_memI _ _ hj
    have := hA k hk _ (nds_mem.1 hm) (by rw [hx])
    exact wyT_before hA (by omega) hz _ (fun h => hz (by rw [← h]; exact this))
/-- What the reference's arrays hold. -/
structure RInv (n : Nat) (T : Int → Int) (P : List Int) (V : Nat → Int) (O : Nat → Bool) : Prop where
  told : ∀ i, i ≤ n → (i : Int) ∈ P → Tells T V O i
  rest : ∀ i, i ≤ n → (i : Int) ∉ P → V i = 0 ∧ O i = false
structure ArrR (W : World) (a b n : Nat) (V : Nat → Int) (O : Nat → Bool) (wr : World) : Prop where
  ways : wr.rowIs a 3 n (fun i => .int .i64 (V i))
  over : wr.rowIs b 4 n (fun i => .bool (O i))
  bel : Below W.heap.size W wr
namespace ArrR
variable {W wr : World} {a b n : Nat} {V : Nat → Int} {O : Nat → Bool}
theorem drewN (h : ArrR W a b n V O wr) (q : Nat) : ArrR W a b n V O (wr.drewN q) := ⟨h.ways, h.over, below_dN h.bel q⟩
theorem drew (h : ArrR W a b n V O wr) : ArrR W a b n V O wr.drew := ⟨h.ways, h.over, h.bel.drew⟩
theorem setV (h : ArrR W a b n V O wr) (hab : b ≠ a) (ha : W.heap.size ≤ a) (x : Nat) (v : Int) : ArrR W a b n (fun i => if i = x then v else V i) O (wr.setCell ⟨a, x, none⟩ (.int .i64 v)) :=
  ⟨(h.ways.set x _).congr fun i _ => by split <;> rfl, h.over.setOther hab _, h.bel.setCell ha _⟩
theorem setO (h : ArrR W a b n V O wr) (hab : a ≠ b) (hb : W.heap.size ≤ b) (x : Nat) (v : Bool) : ArrR W a b n V (fun i => if i = x then v else O i) (wr.setCell ⟨b, x, none⟩ (.bool v)) :=
  ⟨h.ways.setOther hab _, (h.over.set x _).congr fun i _ => by split <;> rfl, h.bel.setCell hb _⟩
theorem congr {V' : Nat → Int} {O' : Nat → Bool} (h : ArrR W a b n V O wr) (hv : ∀ i, V' i = V i) (ho : ∀ i, O' i = O i) : ArrR W a b n V' O' wr := by
  rw [show V' = V from funext hv, show O' = O from funext ho]; exact h
end ArrR
theorem info4 : (Try.prog.info? 4).map (fun i => (i.zero, i.size, i.bytes)) = some (some (.bool false), 1, 1) := by kernel_rfl
theorem run_mkB (m : Nat) (hm : m ≤ 4096) (w : World) : (Instr.makeSlice 51 (.int .i64 (m : Int)) (.int .i64 (m : Int))).run Try.prog w = .ok (.slice (some ⟨w.heap.size, 0, none⟩) m m) (w.alloc (.cells (madeCells #[.bool false] m) 4)) := by
  obtain ⟨i0, hi, hz0, hz1, hz2⟩ := info_parts info4
  have := run_makeSlice (P := Try.prog) (w := w) 51 4 i0 (.bool false) Try.underlying51 hi hz0 .i64 .i64 m m (by omega) (by omega) (by rw [hz1]; omega) (by rw [hz2]; omega) (by omega)
  rw [this]
  simp [hz1, Value.cells]
theorem arrR_new (w : World) (m : Nat) : ArrR w w.heap.size (w.heap.size + 1) m (fun _ => 0) (fun _ => false) ((w.alloc (.cells (madeCells #[.int .i64 0] m) 3)).alloc (.cells (madeCells #[.bool false] m) 4)) := by
  have h2 := World.rowIs_made (w.alloc (.cells (madeCells #[.int .i64 0] m) 3)) (.bool false) m 4
  rw [show (w.alloc (.cells (madeCells #[.int .i64 0] m) 3)).heap.size = w.heap.size + 1 by simp] at h2
  exact ⟨(World.rowIs_made w (.int .i64 0) m 3).alloc _, h2, ((Below.refl _ _).alloc (Nat.le_refl _) _).alloc (by simp) _⟩
theorem full_mem {n : Nat} {E : List (Int × Int)} {out : List Int} (h : OrdOk n E out) (hl : n ≤ out.length) (x : Nat) (h1 : 1 ≤ x) (h2 : x ≤ n) : (x : Int) ∈ out := by
  by_cases hm : (x : Int) ∈ out
  · exact hm
  · exfalso
    have hok : ((x : Int) :: out).Nodup := List.nodup_cons.2 ⟨hm, h.nodup⟩
    have := nodup_le n _ hok (fun y hy => by
      rcases List.mem_cons.1 hy with rfl | hy
      · omega
      · exact h.range y hy)
    rw [List.length_cons] at this
    omega
/-- One need more is told. -/
theorem tell_more {S A2 : Int} {t : Int} {A B : Bool} {VX VY : Int} (hA : A = true ↔ MX < S) (hV : A = false → VX = S) (hVX : 0 ≤ VX ∧ VX ≤ MX) (ht : 0 ≤ t) (hS : 0 ≤ S) (hB : B = true ↔ MX < t) (hY : B = false → VY = t) (h2 : A2 = S + t) :
    ((A || B || decide (MX - VX < VY)) = true ↔ MX < A2) ∧ ((A || B || decide (MX - VX < VY)) = false → VX + VY = A2 ∧ VX + VY ≤ MX) := by
  subst h2
  cases A with
  | true => simp; have := hA.1 rfl; omega
  | false =>
    have h3 := hV rfl
    have h4 : ¬ MX < S := fun h => by have := hA.2 h; cases this
    cases B with
    | true => simp; have := hB.1 rfl; omega
    | false =>
      have h5 := hY rfl
      have h6 : ¬ MX < t := fun h => by have := hB.2 h; cases this
      subst h3
      subst h5
      simp
      omega
end Gra
end Go.Proofs.Ytjdkkldlghdojaa
