/- Texts put together: AskH, AskK. -/
import Derived.Test.YtlhalhilnkneeaaGreatDoorM24
import Derived.Laws.Rows
import Derived.Test.YtlhalhilnkneeaaGreatDoorM21
import Derived.Test.YtlhalhilnkneeaaGreatDoorM18
set_option linter.all false
section
set_option maxRecDepth 100000
namespace Go.Proofs.YtlhalhilnkneeaaGreatDoor
open Go.RowKit Go.Great Go.Sort
namespace Asm
open Pen (bs)
open In (strVals Strs)
open Rec (below2 below_al below_dN Stk Stks stkVals)
open Cmd (Gives Snum CmdIn fi fn nm place chkV Cok Lies Stand Eqv zeroC kindOf load_cmd store_cmd ret_cmd setRow_cmd GivesC setV stand_new val_get size_val cmdB putV Clear takeV GivesT)
def cntArr (f : Nat → Int) : Array Value := #[.int .i64 (f 0), .int .i64 (f 1), .int .i64 (f 2), .int .i64 (f 3), .int .i64 (f 4), .int .i64 (f 5), .int .i64 (f 6), .int .i64 (f 7), .int .i64 (f 8), .int .i64 (f 9), .int .i64 (f 10), .int .i64 (f 11), .int .i64 (f 12), .int .i64 (f 13), .int .i64 (f 14), .int .i64 (f 15), .int .i64 (f 16), .int .i64 (f 17), .int .i64 (f 18), .int .i64 (f 19), .int .i64 (f 20), .int .i64 (f 21), .int .i64 (f 22), .int .i64 (f 23), .int .i64 (f 24), .int .i64 (f 25)]
theorem cnt_get (f : Nat → Int) (i : Nat) (hi : i < 26) : (cntArr f)[i]? = some (.int .i64 (f i)) := by
  match i, hi with
  | 0, _ => rfl
  | 1, _ => rfl
  | 2, _ => rfl
  | 3, _ => rfl
  | 4, _ => rfl
  | 5, _ => rfl
  | 6, _ => rfl
  | 7, _ => rfl
  | 8, _ => rfl
  | 9, _ => rfl
  | 10, _ => rfl
  | 11, _ => rfl
  | 12, _ => rfl
  | 13, _ => rfl
  | 14, _ => rfl
  | 15, _ => rfl
  | 16, _ => rfl
  | 17, _ => rfl
  | 18, _ => rfl
  | 19, _ => rfl
  | 20, _ => rfl
  | 21, _ => rfl
  | 22, _ => rfl
  | 23, _ => rfl
  | 24, _ => rfl
  | 25, _ => rfl
  | n + 26, h => omega
/-- Counts that stand in a block. -/
def CntAt (w : World) (g : Nat) (f : Nat → Int) : Prop := w.rowIs g 43 26 (fun i => .int .i64 (f i))
theorem CntAt.heap {w : World} {g : Nat} {f : Nat → Int} (h : CntAt w g f) : w.heap[g]? = some (.cells (cntArr f) 43 (0, 0)) := by
  obtain ⟨cs, hs, hg, hc⟩ := h
  rw [hs]
  have e : cs = cntArr f := by
    apply Array.ext_getElem?
    intro i
    by_cases hi : i < 26
    · rw [hc i hi, cnt_get f i hi]
    · rw [Array.getElem?_eq_none (by omega), Array.getElem?_eq_none (by show 26 ≤ i; omega)]
  rw [e]
theorem CntAt.below {w w' : World} {g : Nat} {f : Nat → Int} (h : CntAt w g f) (hb : Below w.heap.size w w') : CntAt w' g f := World.rowIs.of_block h (hb.block g (World.rowIs.lt h))
theorem CntAt.set {w : World} {g : Nat} {f : Nat → Int} (h : CntAt w g f) (k : Nat) (n : Int) : CntAt (w.setCell ⟨g, k, none⟩ (.int .i64 n)) g (fun i => if i = k then n else f i) := by
  refine World.rowIs.congr (World.rowIs.set h k _) fun i hi => ?_
  by_cases h0 : i = k
  · rw [if_pos h0]; simp only [if_pos h0]
  · rw [if_neg h0]; simp only [if_neg h0]
theorem cnt_new {w : World} {g : Nat} (hg : w.heap.size = g) (f : Nat → Int) : CntAt (w.alloc (.cells (cntArr f) 43)) g f := by
  subst hg
  exact World.rowIs_alloc w (cntArr f) 43 _ fun i hi => cnt_get f i hi
theorem cnt_size (f : Nat → Int) : (Tryz.prog.info? 43).map (·.size) = some (cntArr f).size := by kernel_rfl
/-- The place of a command's kind. -/
def kx (c : CmdIn) : Nat := if c.kind < 1 ∨ 25 < c.kind then 0 else c.kind.toNat
def cntF (l : List CmdIn) (i : Nat) : Int := ((l.filter fun c => decide (kx c = i)).length : Int)
theorem cntF_snoc (l : List CmdIn) (c : CmdIn) : cntF (l ++ [c]) = fun i => if i = kx c then cntF l (kx c) + 1 else cntF l i := by
  funext i
  unfold cntF
  rw [List.filter_append, List.length_append]
  by_cases h : kx c = i
  · subst h
    simp
  · rw [if_neg (fun e => h e.symm)]
    simp [h]
theorem cntF_le (l : List CmdIn) (i : Nat) : 0 ≤ cntF l i ∧ cntF l i ≤ l.length := by
  unfold cntF
  have := List.length_filter_le (fun c => decide (kx c = i)) l
  omega
theorem kx_lt (c : CmdIn) : kx c < 26 := by
  unfold kx
  split <;> omega
/-- What lies while commands are counted. -/
structure KS (w W : World) (g2 g3 : Nat) (f : Nat → Int) : Prop where
  bel : Below w.heap.size w W
  cnt : CntAt W g3 f
  res : CntAt W g2 (fun _ => 0)
  num : w.heap.size ≤ g2 ∧ w.heap.size ≤ g3 ∧ g2 ≠ g3
theorem KS.below {w W V : World} {g2 g3 : Nat} {f : Nat → Int} (h : KS w W g2 g3 f) (hb : Below W.heap.size W V) : KS w V g2 g3 f := ⟨below2 h.bel hb, h.cnt.below hb, h.res.below hb, h.num⟩
theorem KS.set {w W : World} {g2 g3 : Nat} {f : Nat → Int} (h : KS w W g2 g3 f) (k : Nat) (n : Int) : KS w (W.setCell ⟨g3, k, none⟩ (.int .i64 n)) g2 g3 (fun i => if i = k then n else f i) :=
  ⟨h.bel.setCell (by exact h.num.2.1) _, h.cnt.set k n, World.rowIs.setOther h.res (a := ⟨g3, k, none⟩) h.num.2.2 _, h.num⟩
theorem ks_new (w : World) : KS w ((w.alloc (.cells (cntArr fun _ => 0) 43)).alloc (.cells (cntArr fun _ => 0) 43)) w.heap.size (w.heap.size + 1) (cntF []) := by
  have hb : ∀ (W : World) o, Below W.heap.size W (W.alloc o) := fun W o => below_al (Below.refl _ _) _
  refine ⟨below2 (hb _ _) (hb _ _), ?_, (cnt_new rfl _).below (hb _ _), by omega⟩
  exact cnt_new (w := w.alloc (.cells (cntArr fun _ => 0) 43)) (by simp) (fun _ => 0)
set_option maxHeartbeats 4000000 in
theorem counts_any (a : Option Addr) (cap : Nat) (l : List CmdIn) (n : Nat) (hn : l.length = n) (hb : n ≤ 1000000) (w : World) (ha : Cmds w a l) : Calls Tryz.prog 22 #[.slice a n cap] w fun e w' => e = .returned (.agg (cntArr (cntF l))) ∧ Below w.heap.size w w' := by
  have HN := Lib.hid hn
  have HA := Lib.hid ha
  have HK0 := Lib.hid (ks_new w)
  clear hn ha
  go_enter Tryz.func22, Tryz.ntmps22
  go_upto_region 2 with fail
  refine Cmd.wp_named fun W0 hW0 => ?_
  have HK1 : Hid (KS w W0 w.heap.size (w.heap.size + 1) (cntF [])) := by rw [hW0]; exact HK0.out
  clear hW0 HK0
  obtain ⟨g2, hg2⟩ : ∃ g, Hid (w.heap.size = g) := ⟨_, rfl⟩
  obtain ⟨g3, hg3⟩ : ∃ g, Hid (w.heap.size + 1 = g) := ⟨_, rfl⟩
  rw [hg3.out, hg2.out] at HK1
  rw [hg3.out, hg2.out]
  go_wp2
  go_loopw [8] (fun i wr => ∃ k : Nat, k ≤ n ∧ i = .int .i64 (k : Int) ∧ Hid (KS w wr g2 g3 (cntF (l.take k)))) (fun i _ => n - (intOf i).toNat)
  case atStart => exact ⟨0, Nat.zero_le _, rfl, HK1.out⟩
  case round =>
    obtain ⟨k, hkN, rfl, HK⟩ := hrel
    by_cases hlt : k < n
    · have dk : decide ((k : Int) < (n : Int)) = true := decide_eq_true (by omega)
      have hlt1 : (k : Int) < (n : Int) := by omega
      have hkl : k < l.length := by rw [HN.out]; exact hlt
      obtain ⟨b, off, rfl, hbl, hr, -⟩ := (Cmds.below HA.out HK.out.bel) k hkl
      have HR := Lib.hid hr
      have HCN : Hid (cntF (l.take (k + 1)) = _) := (congrArg cntF (take_next l k hkl)).trans (cntF_snoc _ _)
      have hle := cntF_le (l.take k) (kx (l.getD k zeroC))
      have htk : (l.take k).length ≤ k := by rw [List.length_take]; omega
      clear hr
      generalize l.getD k zeroC = c at *
      generalize cntF (l.take k) = f at *
      have HZ : Hid ((wr.alloc (.cells zeroC.val 41)).heap[wr.heap.size]? = some (.cells zeroC.val 41 (0, 0))) := Own.heap_new _ _
      go_upto_region 5 with (first
        | (refine load_at rfl (.tmp 10) rfl _ _ rfl c HR.out ?_)
        | (refine store_cmd rfl (.tmp 5) (.tmp 11) rfl rfl wr.heap.size c zeroC rfl rfl HZ.out ?_))
      refine Cmd.wp_named fun V hV => ?_
      have hV1 : V = (wr.alloc (.cells zeroC.val 41)).setRow wr.heap.size c.val := hV
      obtain ⟨hs3, hb3⟩ := box_new wr c
      rw [← hV1] at hs3 hb3
      obtain ⟨g9, hg9⟩ : ∃ g, Hid (wr.heap.size = g) := ⟨_, rfl⟩
      rw [hg9.out] at hs3 ⊢
      have HKV := Lib.hid (HK.out.below hb3)
      have c0 := hs3.three.1
      clear hV hV1 hb3 hs3
      have HX : Hid (∃ x : Nat, x < 26 ∧ kx c = x) := ⟨kx c, kx_lt c, rfl⟩
      obtain ⟨x, hx26, hxc⟩ := HX.out
      have cx := World.rowIs.cell HKV.out.cnt hx26
      have fx : V.frozen? ⟨g3, x, none⟩ = false := World.rowIs.frozen HKV.out.cnt x
      have HKS := Lib.hid (HKV.out.set x (f x + 1))
      have HCN2 : Hid (cntF (l.take (k + 1)) = fun i => if i = x then f x + 1 else f i) := by show _ = _; rw [HCN.out, hxc]
      rw [hxc] at hle
      have hwr : wrap64 (f x + 1) = f x + 1 := by unfold wrap64; omega
      obtain ⟨K, hK⟩ : ∃ K, c.kind = K := ⟨_, rfl⟩
      rw [hK] at c0
      have hxk : x = if K < 1 ∨ 25 < K then 0 else K.toNat := by rw [← hxc, ← hK]; rfl
      clear HX hxc hK
      by_cases h1 : K < 1
      · have d1 : decide (K < 1) = true := decide_eq_true h1
        rw [if_pos (Or.inl h1)] at hxk
        subst hxk
        go_wp2
        go_roundw
        case rel => exact ⟨k + 1, by omega, by go_num, by rw [HCN2.out]; exact HKS.out⟩
        case measure => simp [intOf]; omega
      · have d1 : decide (K < 1) = false := decide_eq_false h1
        by_cases h2 : 25 < K
        · have d2 : decide (25 < K) = true := decide_eq_true h2
          rw [if_pos (Or.inr h2)] at hxk
          subst hxk
          go_wp2
          go_roundw
          case rel => exact ⟨k + 1, by omega, by go_num, by rw [HCN2.out]; exact HKS.out⟩
          case measure => simp [intOf]; omega
        · have d2 : decide (25 < K) = false := decide_eq_false h2
          rw [if_neg (by omega)] at hxk
          obtain rfl : K = (x : Int) := by omega
          have hx0 : (0 : Int) ≤ (x : Int) := by omega
          have hx1 : (x : Int) < 26 := by omega
          clear hxk
          go_wp2
          go_roundw
          case rel => exact ⟨k + 1, by omega, by go_num, by rw [HCN2.out]; exact HKS.out⟩
          case measure => simp [intOf]; omega
    · have dk : decide ((k : Int) < (n : Int)) = false := decide_eq_false (by omega)
      have hlt1 : ¬ (k : Int) < (n : Int) := by omega
      have htk : l.take k = l := List.take_of_length_le (by rw [HN.out]; omega)
      rw [htk] at HK
      have HHR := Lib.hid HK.out.res.heap
      have HHC := Lib.hid HK.out.cnt.heap
      go_wp2_with (first
        | (refine wpList_load_row rfl 43 (.tmp 3) rfl g3 rfl 43 (cntArr (cntF l)) (0, 0) _ HHC.out Tryz.underlying43 rfl (cnt_size _) ?_)
        | (refine wpList_store_rowTo rfl 43 (.tmp 2) (.tmp 31) rfl rfl g2 (cntArr (cntF l)) rfl rfl 43 (cntArr fun _ => 0) HHR.out (cnt_size _) rfl (by simp [cntArr, Value.oneCell']) ?_))
      try simp only [Exit.inBlock, Exit.then]
      have hf : (wr.setRow g2 (cntArr (cntF l))).heap[g2]? = some (.cells (cntArr (cntF l)) 43 (0, 0)) := setRow_heap wr g2 _ _ _ _ HHR.out
      refine bodyPost_ret (v := .agg (cntArr (cntF l))) (results_cell_row rfl _ _ g2 43 _ (0, 0) _ rfl hf Tryz.underlying43 rfl (cnt_size _)) rfl ⟨rfl, ?_⟩
      exact HK.out.bel.grown (setRow_grown _ _ _) HK.out.bel.size (fun j hj => by cases hj; exact HK.out.num.1)
set_option maxHeartbeats 4000000 in
theorem refCounts_any (a : Option Addr) (cap : Nat) (l : List CmdIn) (n : Nat) (hn : l.length = n) (hb : n ≤ 1000000) (w : World) (ha : Cmds w a l) : Calls Tryz.prog 23 #[.slice a n cap] w fun e w' => e = .returned (.agg (cntArr (cntF l))) ∧ Below w.heap.size w w' := by
  have HN := Lib.hid hn
  have HA := Lib.hid ha
  have HK0 := Lib.hid (ks_new w)
  clear hn ha
  go_enter Tryz.func23, Tryz.ntmps23
  go_upto_region 2 with fail
  refine Cmd.wp_named fun W0 hW0 => ?_
  have HK1 : Hid (KS w W0 w.heap.size (w.heap.size + 1) (cntF [])) := by rw [hW0]; exact HK0.out
  clear hW0 HK0
  obtain ⟨g2, hg2⟩ : ∃ g, Hid (w.heap.size = g) := ⟨_, rfl⟩
  obtain ⟨g3, hg3⟩ : ∃ g, Hid (w.heap.size + 1 = g) := ⟨_, rfl⟩
  rw [hg3.out, hg2.out] at HK1
  rw [hg3.out, hg2.out]
  go_wp2
  go_loopw [4] (fun i wr => ∃ k : Nat, k ≤ n ∧ i = .int .i64 (k : Int) ∧ Hid (KS w wr g2 g3 (cntF (l.take k)))) (fun i _ => n - (intOf i).toNat)
  case atStart => exact ⟨0, Nat.zero_le _, rfl, HK1.out⟩
  case round =>
    obtain ⟨k, hkN, rfl, HK⟩ := hrel
    by_cases hlt : k < n
    · have dk : decide ((k : Int) < (n : Int)) = true := decide_eq_true (by omega)
      have hlt1 : (k : Int) < (n : Int) := by omega
      have hkl : k < l.length := by rw [HN.out]; exact hlt
      obtain ⟨b, off, rfl, hbl, hr, -⟩ := (Cmds.below HA.out HK.out.bel) k hkl
      have HR := Lib.hid hr
      have HCN : Hid (cntF (l.take (k + 1)) = _) := (congrArg cntF (take_next l k hkl)).trans (cntF_snoc _ _)
      have hle := cntF_le (l.take k) (kx (l.getD k zeroC))
      have htk : (l.take k).length ≤ k := by rw [List.length_take]; omega
      clear hr
      generalize l.getD k zeroC = c at *
      generalize cntF (l.take k) = f at *
      have c0 : wr.cell? ⟨b, off + k * 22, none⟩ = some (.int .i64 c.kind) := HR.out 0 _ rfl
      have HKV := HK
      have HX : Hid (∃ x : Nat, x < 26 ∧ kx c = x) := ⟨kx c, kx_lt c, rfl⟩
      obtain ⟨x, hx26, hxc⟩ := HX.out
      have cx := World.rowIs.cell HKV.out.cnt hx26
      have fx : wr.frozen? ⟨g3, x, none⟩ = false := World.rowIs.frozen HKV.out.cnt x
      have HKS := Lib.hid (HKV.out.set x (f x + 1))
      have HCN2 : Hid (cntF (l.take (k + 1)) = fun i => if i = x then f x + 1 else f i) := by show _ = _; rw [HCN.out, hxc]
      rw [hxc] at hle
      have hwr : wrap64 (f x + 1) = f x + 1 := by unfold wrap64; omega
      obtain ⟨K, hK⟩ : ∃ K, c.kind = K := ⟨_, rfl⟩
      rw [hK] at c0
      have hxk : x = if K < 1 ∨ 25 < K then 0 else K.toNat := by rw [← hxc, ← hK]; rfl
      clear HX hxc hK
      by_cases h1 : K < 1
      · have d1 : decide (K < 1) = true := decide_eq_true h1
        rw [if_pos (Or.inl h1)] at hxk
        subst hxk
        go_wp2
        go_roundw
        case rel => exact ⟨k + 1, by omega, by go_num, by rw [HCN2.out]; exact HKS.out⟩
        case measure => simp [intOf]; omega
      · have d1 : decide (K < 1) = false := decide_eq_false h1
        by_cases h2 : 25 < K
        · have d2 : decide (25 < K) = true := decide_eq_true h2
          rw [if_pos (Or.inr h2)] at hxk
          subst hxk
          go_wp2
          go_roundw
          case rel => exact ⟨k + 1, by omega, by go_num, by rw [HCN2.out]; exact HKS.out⟩
          case measure => simp [intOf]; omega
        · have d2 : decide (25 < K) = false := decide_eq_false h2
          rw [if_neg (by omega)] at hxk
          obtain rfl : K = (x : Int) := by omega
          have hx0 : (0 : Int) ≤ (x : Int) := by omega
          have hx1 : (x : Int) < 26 := by omega
          clear hxk
          go_wp2
          go_roundw
          case rel => exact ⟨k + 1, by omega, by go_num, by rw [HCN2.out]; exact HKS.out⟩
          case measure => simp [intOf]; omega
    · have dk : decide ((k : Int) < (n : Int)) = false := decide_eq_false (by omega)
      have hlt1 : ¬ (k : Int) < (n : Int) := by omega
      have htk : l.take k = l := List.take_of_length_le (by rw [HN.out]; omega)
      rw [htk] at HK
      have HHR := Lib.hid HK.out.res.heap
      have HHC := Lib.hid HK.out.cnt.heap
      go_wp2_with (first
        | (refine wpList_load_row rfl 43 (.tmp 3) rfl g3 rfl 43 (cntArr (cntF l)) (0, 0) _ HHC.out Tryz.underlying43 rfl (cnt_size _) ?_)
        | (refine wpList_store_rowTo rfl 43 (.tmp 2) (.tmp 29) rfl rfl g2 (cntArr (cntF l)) rfl rfl 43 (cntArr fun _ => 0) HHR.out (cnt_size _) rfl (by simp [cntArr, Value.oneCell']) ?_))
      try simp only [Exit.inBlock, Exit.then]
      have hf : (wr.setRow g2 (cntArr (cntF l))).heap[g2]? = some (.cells (cntArr (cntF l)) 43 (0, 0)) := setRow_heap wr g2 _ _ _ _ HHR.out
      refine bodyPost_ret (v := .agg (cntArr (cntF l))) (results_cell_row rfl _ _ g2 43 _ (0, 0) _ rfl hf Tryz.underlying43 rfl (cnt_size _)) rfl ⟨rfl, ?_⟩
      exact HK.out.bel.grown (setRow_grown _ _ _) HK.out.bel.size (fun j hj => by cases hj; exact HK.out.num.1)
/-- Few commands of few stacks. -/
def FewL (l : List CmdIn) (m : Nat) : Prop := l.length ≤ m ∧ ∀ c ∈ l, c.gives.length ≤ 12 ∧ c.wants.length ≤ 12
def FewRes (l : List CmdIn) (m : Nat) (w : World) (e : Ending) (w' : World) : Prop := (∃ b, e = .returned (.bool b) ∧ Hid (b = true ↔ FewL l m)) ∧ Below w.heap.size w w'
set_option maxHeartbeats 2000000 in
theorem few_any (a : Option Addr) (cap : Nat) (l : List CmdIn) (n m : Nat) (hn : l.length = n) (hm : m ≤ 1000) (w : World) (ha : Cmds w a l) : Calls Tryz.prog 13 #[.slice a n cap, .int .i64 (m : Int)] w (FewRes l m w) := by
  have HN := Lib.hid hn
  have HA := Lib.hid ha
  clear hn ha
  go_enter Tryz.func13, Tryz.ntmps13
  go_wp2
  go_loopw [5] (fun i wr => ∃ k : Nat, k ≤ n ∧ k ≤ m ∧ i = .int .i64 (k : Int) ∧ Hid (Below w.heap.size w wr) ∧ Hid (∀ j, j < k → (l.getD j zeroC).gives.length ≤ 12 ∧ (l.getD j zeroC).wants.length ≤ 12)) (fun i _ => m - (intOf i).toNat)
  case atStart => exact ⟨0, Nat.zero_le _, Nat.zero_le _, rfl, Below.refl _ _, fun j hj => absurd hj (Nat.not_lt_zero j)⟩
  case round =>
    obtain ⟨k, hkN, hkM, rfl, HB, HF⟩ := hrel
    have fin : k = n → n ≤ m → FewL l m := fun h1 h2 => ⟨by rw [HN.out]; exact h2, fun c hc => by
      obtain ⟨j, hj, e⟩ := List.getElem_of_mem hc
      have := HF.out j (by have := HN.out; omega)
      rw [List.getD_eq_getElem?_getD, List.getElem?_eq_getElem hj, Option.getD_some, e] at this
      exact this⟩
    have HFIN := Lib.hid fin
    clear fin
    by_cases hlt : k < n
    · have dk : decide ((k : Int) < (n : Int)) = true := decide_eq_true (by omega)
      have hlt1 : (k : Int) < (n : Int) := by omega
      by_cases hlm : k < m
      · have dm : decide ((k : Int) < (m : Int)) = true := decide_eq_true (by omega)
        have hlm1 : (k : Int) < (m : Int) := by omega
        have hkl : k < l.length := by rw [HN.out]; exact hlt
        obtain ⟨b, off, rfl, hbl, hr, -⟩ := (Cmds.below HA.out HB.out) k hkl
        have HNX : Hid ((l.getD k zeroC).gives.length ≤ 12 ∧ (l.getD k zeroC).wants.length ≤ 12 → ∀ j, j < k + 1 → (l.getD j zeroC).gives.length ≤ 12 ∧ (l.getD j zeroC).wants.length ≤ 12) := fun h j hj => by
          rcases Nat.lt_or_ge j k with h1 | h1
          · exact HF.out j h1
          · obtain rfl : j = k := by omega
            exact h
        have HQ : Hid (FewL l m → (l.getD k zeroC).gives.length ≤ 12 ∧ (l.getD k zeroC).wants.length ≤ 12) := fun h => h.2 _ (getD_in hkl)
        have c1 : wr.cell? ⟨b, off + k * 22 + 20, none⟩ = some (.slice (l.getD k zeroC).ga (l.getD k zeroC).gives.length (l.getD k zeroC).gc) := hr 20 _ rfl
        have c2 : wr.cell? ⟨b, off + k * 22 + 21, none⟩ = some (.slice (l.getD k zeroC).wa (l.getD k zeroC).wants.length (l.getD k zeroC).wc) := hr 21 _ rfl
        clear hr
        generalize (l.getD k zeroC).gives.length = G at *
        generalize (l.getD k zeroC).wants.length = X at *
        by_cases hg : 12 < G
        · have dg : decide ((12 : Int) < (G : Int)) = true := decide_eq_true (by omega)
          have hg1 : (12 : Int) < (G : Int) := by omega
          go_wp2
          go_ret
          exact ⟨⟨false, rfl, ⟨fun h => (by cases h), fun h => absurd (HQ.out h).1 (by omega)⟩⟩, HB.out⟩
        · have dg : decide ((12 : Int) < (G : Int)) = false := decide_eq_false (by omega)
          have hg1 : ¬ (12 : Int) < (G : Int) := by omega
          by_cases hx : 12 < X
          · have dx : decide ((12 : Int) < (X : Int)) = true := decide_eq_true (by omega)
            have hx1 : (12 : Int) < (X : Int) := by omega
            go_wp2
            go_ret
            exact ⟨⟨false, rfl, ⟨fun h => (by cases h), fun h => absurd (HQ.out h).2 (by omega)⟩⟩, HB.out⟩
          · have dx : decide ((12 : Int) < (X : Int)) = false := decide_eq_false (by omega)
            have hx1 : ¬ (12 : Int) < (X : Int) := by omega
            have HNY := Lib.hid (HNX.out ⟨by omega, by omega⟩)
            go_wp2
            go_roundw
            case rel => exact ⟨k + 1, by omega, by omega, by go_num, HB, HNY⟩
            case measure => simp [intOf]; omega
      · have dm : decide ((k : Int) < (m : Int)) = false := decide_eq_false (by omega)
        have hlm1 : ¬ (k : Int) < (m : Int) := by omega
        have dn : decide ((n : Int) ≤ (m : Int)) = false := decide_eq_false (by omega)
        have hn1 : ¬ (n : Int) ≤ (m : Int) := by omega
        go_wp2
        go_ret
        exact ⟨⟨false, rfl, ⟨fun h => (by cases h), fun h => absurd h.1 (by have := HN.out; omega)⟩⟩, HB.out⟩
    · have dk : decide ((k : Int) < (n : Int)) = false := decide_eq_false (by omega)
      have hlt1 : ¬ (k : Int) < (n : Int) := by omega
      have dn : decide ((n : Int) ≤ (m : Int)) = true := decide_eq_true (by omega)
      have hn1 : (n : Int) ≤ (m : Int) := by omega
      go_wp2
      go_ret
      exact ⟨⟨true, rfl, ⟨fun _ => HFIN.out (by omega) (by omega), fun _ => rfl⟩⟩, HB.out⟩
theorem few_yes (a : Option Addr) (cap : Nat) (l : List CmdIn) (n m : Nat) (hn : l.length = n) (hm : m ≤ 1000) (h : FewL l m) (w : World) (ha : Cmds w a l) : Calls Tryz.prog 13 #[.slice a n cap, .int .i64 (m : Int)] w fun e w' => e = .returned (.bool true) ∧ Below w.heap.size w w' :=
  (few_any a cap l n m hn hm w ha).mono fun e w' ⟨⟨b, h1, h2⟩, h3⟩ => ⟨by rw [h1, h2.out.2 h], h3⟩
theorem few_no (a : Option Addr) (cap : Nat) (l : List CmdIn) (n m : Nat) (hn : l.length = n) (hm : m ≤ 1000) (h : ¬ FewL l m) (w : World) (ha : Cmds w a l) : Calls Tryz.prog 13 #[.slice a n cap, .int .i64 (m : Int)] w fun e w' => e = .returned (.bool false) ∧ Below w.heap.size w w' :=
  (few_any a cap l n m hn hm w ha).mono fun e w' ⟨⟨b, h1, h2⟩, h3⟩ => ⟨by
    cases b with
    | true => exact absurd (h2.out.1 rfl) h
    | false => exact h1, h3⟩
end Asm
end Go.Proofs.YtlhalhilnkneeaaGreatDoor
end
section
namespace Go.Proofs.YtlhalhilnkneeaaGreatDoor
open Go.RowKit Go.WideShapes Go.WideElems Go.ChangeAt Go.ChangeShapes
namespace Asm
open Rec (Stk Stks)
open Pen (I64)
open Cmd (CmdIn Lies Cok Clear IsCmd cmd_cells slice_stks WfI zeroC)
section
variable {H : Type} {enc : TypeId × Value → H} {W : World} {base n : Nat} {spare : Nat → Bool} {held : Bool}
set_option maxRecDepth 100000 in
set_option maxHeartbeats 2000000 in
theorem cmd_of {cs : List Value} {y : DataW H × List MemPlace} (hl : cs.length = 22) (hf : DataW.trod enc Tryz.prog W base spare held n 41 cs = some y) : ∃ c : CmdIn, cs = c.val.toList ∧ IsCmd W (.agg c.val) c := by
  match cs, hl with
  | [c0, c1, c2, c3, c4, c5, c6, c7, c8, c9, c10, c11, c12, c13, c14, c15, c16, c17, c18, c19, c20, c21], _ =>
    obtain ⟨xs, n, _, hx, _, hlen, hg⟩ := DataW.trod_struct Tryz.underlying41 hf
    match xs, hlen with
    | [y0, y1, y2, y3, y4, y5, y6, y7, y8, y9, y10, y11, y12, y13, y14, y15, y16, y17, y18, y19, y20, y21], _ =>
      have k3 := cmd_cells.1
      have k22 := cmd_cells.2.1
      have g0 := hg 0 _ rfl
      have g1 := hg 1 _ rfl
      have g2 := hg 2 _ rfl
      have g3 := hg 3 _ rfl
      have g4 := hg 4 _ rfl
      have g5 := hg 5 _ rfl
      have g6 := hg 6 _ rfl
      have g7 := hg 7 _ rfl
      have g8 := hg 8 _ rfl
      have g9 := hg 9 _ rfl
      have g10 := hg 10 _ rfl
      have g11 := hg 11 _ rfl
      have g12 := hg 12 _ rfl
      have g13 := hg 13 _ rfl
      have g14 := hg 14 _ rfl
      have g15 := hg 15 _ rfl
      have g16 := hg 16 _ rfl
      have g17 := hg 17 _ rfl
      have g18 := hg 18 _ rfl
      have g19 := hg 19 _ rfl
      have g20 := hg 20 _ rfl
      have g21 := hg 21 _ rfl
      simp [k3, k22] at g0 g1 g2 g3 g4 g5 g6 g7 g8 g9 g10 g11 g12 g13 g14 g15 g16 g17 g18 g19 g20 g21
      obtain ⟨z0, e0, -, w0⟩ := DataW.trod_int Tryz.underlying3 g0
      obtain ⟨z1, e1, -, w1⟩ := DataW.trod_int Tryz.underlying3 g1
      obtain ⟨z2, e2, -, w2⟩ := DataW.trod_int Tryz.underlying3 g2
      obtain ⟨z3, e3, -, w3⟩ := DataW.trod_int Tryz.underlying3 g3
      obtain ⟨z4, e4, -, w4⟩ := DataW.trod_int Tryz.underlying3 g4
      obtain ⟨z5, e5, -, w5⟩ := DataW.trod_int Tryz.underlying3 g5
      obtain ⟨z6, e6, -, w6⟩ := DataW.trod_int Tryz.underlying3 g6
      obtain ⟨z7, e7, -, w7⟩ := DataW.trod_int Tryz.underlying3 g7
      obtain ⟨z8, e8, -, w8⟩ := DataW.trod_int Tryz.underlying3 g8
      obtain ⟨z9, e9, -, w9⟩ := DataW.trod_int Tryz.underlying3 g9
      obtain ⟨z10, e10, -, w10⟩ := DataW.trod_int Tryz.underlying3 g10
      obtain ⟨z11, e11, -, w11⟩ := DataW.trod_int Tryz.underlying3 g11
      obtain ⟨z12, e12, -, w12⟩ := DataW.trod_int Tryz.underlying3 g12
      obtain ⟨z13, e13, -, w13⟩ := DataW.trod_int Tryz.underlying3 g13
      obtain ⟨z14, e14, -, w14⟩ := DataW.trod_int Tryz.underlying3 g14
      obtain ⟨z15, e15, -, w15⟩ := DataW.trod_int Tryz.underlying3 g15
      obtain ⟨z16, e16, -, w16⟩ := DataW.trod_int Tryz.underlying3 g16
      obtain ⟨z17, e17, -, w17⟩ := DataW.trod_int Tryz.underlying3 g17
      obtain ⟨z18, e18, -, w18⟩ := DataW.trod_int Tryz.underlying3 g18
      obtain ⟨z19, e19, -, w19⟩ := DataW.trod_int Tryz.underlying3 g19
      simp at e0 e1 e2 e3 e4 e5 e6 e7 e8 e9 e10 e11 e12 e13 e14 e15 e16 e17 e18 e19
      obtain ⟨ga, gl, gc, rfl, hgl, hgb, hgc⟩ := slice_stks g20
      obtain ⟨wa, wl, wc, rfl, hwl, hwb, hwc⟩ := slice_stks g21
      subst e0 e1 e2 e3 e4 e5 e6 e7 e8 e9 e10 e11 e12 e13 e14 e15 e16 e17 e18 e19
      refine ⟨⟨z0, fun i => [z1, z2, z3, z4, z5, z6, z7, z8, z9, z10, z11, z12, z13, z14, z15, z16, z17, z18, z19].getD i 0, gl, ga, gc, wl, wa, wc⟩, rfl, rfl, ⟨hgb, hwb⟩, WfI.i64 w0, fun i hi => ?_, fun i hi => ⟨WfI.i64 (hgc i hi).1, WfI.i64 (hgc i hi).2⟩, fun i hi => ⟨WfI.i64 (hwc i hi).1, WfI.i64 (hwc i hi).2⟩, fun i hi => ?_⟩
      · match i, hi with
        | 0, _ => exact WfI.i64 w1
        | 1, _ => exact WfI.i64 w2
        | 2, _ => exact WfI.i64 w3
        | 3, _ => exact WfI.i64 w4
        | 4, _ => exact WfI.i64 w5
        | 5, _ => exact WfI.i64 w6
        | 6, _ => exact WfI.i64 w7
        | 7, _ => exact WfI.i64 w8
        | 8, _ => exact WfI.i64 w9
        | 9, _ => exact WfI.i64 w10
        | 10, _ => exact WfI.i64 w11
        | 11, _ => exact WfI.i64 w12
        | 12, _ => exact WfI.i64 w13
        | 13, _ => exact WfI.i64 w14
        | 14, _ => exact WfI.i64 w15
        | 15, _ => exact WfI.i64 w16
        | 16, _ => exact WfI.i64 w17
        | 17, _ => exact WfI.i64 w18
        | 18, _ => exact WfI.i64 w19
        | n + 19, h => omega
      · show [z1, z2, z3, z4, z5, z6, z7, z8, z9, z10, z11, z12, z13, z14, z15, z16, z17, z18, z19].getD i 0 = 0
        rw [List.getD_eq_getElem?_getD, List.getElem?_eq_none (by simpa using hi)]
        rfl
theorem slice_cmds {v : Value} {y : DataW H × List MemPlace} (h : DataW.trod enc Tryz.prog W base spare held n 23 [v] = some y) : ∃ a l cap, v = .slice a l.length cap ∧ l.length ≤ cap ∧ l.length ≤ maxLen ∧ Cmds W a l ∧ ∀ i, i < l.length → IsCmd W (.agg (l.getD i zeroC).val) (l.getD i zeroC) := by
  rcases Go.Deep.open_slice Tryz.underlying23 h with ⟨hcs, _⟩ | ⟨x, len, cap, m, n', D, Pl, hcs, _, hl, hm, hmm, _, hcell⟩
  · simp at hcs
    subst hcs
    exact ⟨none, [], 0, rfl, Nat.zero_le _, Nat.zero_le _, fun i hi => absurd hi (Nat.not_lt_zero i), fun i hi => absurd hi (Nat.not_lt_zero i)⟩
  · simp at hcs
    subst hcs
    have hlz : len ≤ m := by rw [hmm]; split <;> omega
    have each : ∀ i, i < m → ∃ b : CmdIn, IsCmd W (.agg b.val) b ∧ ∀ j, j < 22 → W.cell? (x.add (i * 22 + j)) = b.val.toList[j]? := fun i hi => by
      obtain ⟨cs', h1, h2⟩ := hcell i hi
      rw [cmd_cells.2.2.2] at h1
      obtain ⟨_, hlen, hc⟩ := World.cells?_some h1
      obtain ⟨b, hb, hbc⟩ := cmd_of hlen h2
      refine ⟨b, hbc, fun j hj => ?_⟩
      have := hc j hj
      rw [Go.Deep.add_add] at this
      rw [this, ← hb]
    haveI : Inhabited CmdIn := ⟨zeroC⟩
    obtain ⟨B, hB⟩ := Go.Deep.choose_lt each
    have hll : ((List.range len).map B).length = len := by simp
    have eachL : ∀ i, i < len → ((List.range len).map B).getD i zeroC = B i := fun i hi => by simp [List.getD, hi]
    refine ⟨some x, (List.range len).map B, cap, by rw [hll], by rw [hll]; exact hl, by rw [hll]; omega, fun i hi => ?_, fun i hi => ?_⟩
    · rw [hll] at hi
      have hc := (hB i (by omega)).2
      obtain ⟨b, off, rfl, hb, hj⟩ := Cmd.at_addr ⟨_, by have := (hB 0 (by omega)).2 0 (by omega); simpa [CmdIn.val] using this⟩
      refine ⟨b, off, rfl, hb, fun j v hv => ?_, ?_⟩
      · rw [eachL i hi] at hv
        have hj22 : j < 22 := by
          rcases Nat.lt_or_ge j 22 with h | h
          · exact h
          · rw [List.getElem?_eq_none (by rw [val_len]; exact h)] at hv; cases hv
        have := hc j hj22
        rw [hj] at this
        rw [Nat.add_assoc, this, hv]
      · rw [eachL i hi]
        exact (hB i (by omega)).1.lies
    · rw [hll] at hi
      rw [eachL i hi]
      exact (hB i (by omega)).1
end
/-- The commands that came in. -/
structure IsCmds (W : World) (v : Value) (l : List CmdIn) : Prop where
  val : ∃ a cap, v = .slice a l.length cap ∧ l.length ≤ cap ∧ Cmds W a l
  len : l.length ≤ maxLen
  each : ∀ c ∈ l, (c.gives.length ≤ 100 ∧ c.wants.length ≤ 100 → Cok c) ∧ Clear c
set_option maxRecDepth 100000 in
theorem isCmds_of {H : Type} {enc : TypeId × Value → H} {W : World} {r : Reach} {b0 : Nat} {v : Value} {d : DataW H} {p : List MemPlace} {base : Nat} {spare held : _}
    (hv : Value.okWide Tryz.prog W r b0 23 v) (h : DataW.Trod enc Tryz.prog W base spare held 23 v d p) : ∃ l, IsCmds W v l := by
  obtain ⟨a0, len, cap0, rfl⟩ := okWide_slice Tryz.underlying23 hv
  obtain ⟨fuel, hf⟩ := h
  obtain ⟨a, l, cap, e, h0, h1, h2, h3⟩ := slice_cmds hf
  refine ⟨l, ⟨a, cap, e, h0, h2⟩, h1, fun c hc => ?_⟩
  obtain ⟨i, hi, e⟩ := List.getElem_of_mem hc
  have := h3 i hi
  rw [List.getD_eq_getElem?_getD, List.getElem?_eq_getElem hi, Option.getD_some, e] at this
  exact ⟨this.cok, this.clear⟩
end Asm
end Go.Proofs.YtlhalhilnkneeaaGreatDoor
end
