/- Texts put together: CmdT2. -/
import Derived.Test.YtlhalhilnkneeaaGreatDoorM15
import Derived.Test.YtlhalhilnkneeaaGreatDoorM12
set_option linter.all false
section
namespace Go.Proofs.YtlhalhilnkneeaaGreatDoor
open Go.RowKit Go.Great
namespace Cmd
open Pen (bs bs_append uintB intB I64 intS uintS doneS)
open In (Strs)
open Cat (Rd Rs QP QR Bx rrU_any rrI_any rrD_any rrNew rrBad)
open Rec (below2 below_al below_dN Stk Stks stkVals stkVals_append stks_of_own list_pair pair_new)
/-- A command is stored whole, in a region that draws its order. -/
theorem one_store_cmd {o : Oper} {a : Act} {w : World} {K : Act → World → Prop} {Q : Exit → Act → World → Prop} (x y : Operand) (ho : o.op = .store 41 x y) (hd : o.dst = none)
    (g : Nat) (c c0 : CmdIn) (hx : a.eval x = .pointer (some ⟨g, 0, none⟩)) (hy : a.eval y = .agg c.val) (hg : w.heap[g]? = some (.cells c0.val 41 (0, 0)))
    (h : K a (w.setRow g c.val)) : o.wp Tryz.prog a w K Q :=
  wp_store_row 41 x y ho g c.val hx hy 41 c0.val hg (size_val c) rfl (by simp [CmdIn.val, Value.oneCell']) (by rw [hd]; exact h)
theorem Stand.giv {w : World} {g : Nat} {c : CmdIn} (h : Stand w g c) (l : List Stk) (a : Option Addr) (n : Nat) : Stand (w.setCell ⟨g, 20, none⟩ (.slice a l.length n)) g { c with gives := l, ga := a, gc := n } := by
  refine World.rowIs.congr (World.rowIs.set h 20 _) fun i hi => ?_
  unfold CmdIn.cell
  simp only
  by_cases h0 : i = 20
  · subst h0; rfl
  · simp only [if_neg h0]
theorem Stand.wan {w : World} {g : Nat} {c : CmdIn} (h : Stand w g c) (l : List Stk) (a : Option Addr) (n : Nat) : Stand (w.setCell ⟨g, 21, none⟩ (.slice a l.length n)) g { c with wants := l, wa := a, wc := n } := by
  refine World.rowIs.congr (World.rowIs.set h 21 _) fun i hi => ?_
  unfold CmdIn.cell
  simp only
  by_cases h0 : i = 21
  · subst h0; rfl
  · simp only [if_neg h0]
theorem bare_lies {k : Int} {f : Nat → Int} {c : CmdIn} (h : Eqv c (bare k f)) (W : World) : Lies W c := by
  have g1 : c.gives = [] := h.gives
  have g2 : c.wants = [] := h.wants
  refine ⟨?_, ?_⟩
  · rw [g1]
    exact fun i hi => by simp at hi
  · rw [g2]
    exact fun i hi => by simp at hi
theorem bx_below {n : Nat} {E : Nat → Prop} {a b c : World} (h : Bx n E a b) (hb : Below b.heap.size b c) (hn : n ≤ b.heap.size) : Bx n E a c := h.below hn hb
theorem bx_setRow {n : Nat} {E : Nat → Prop} {a b : World} (h : Bx n E a b) (g : Nat) (hg : n ≤ g ∨ E g) (cs : Array Value) : Bx n E a (b.setRow g cs) :=
  ⟨by rw [setRow_os]; exact h.os, by rw [setRow_tape]; exact h.tape, by rw [setRow_output]; exact h.output, by rw [setRow_size]; exact h.size, fun k hk hne => (setRow_other b g k cs (fun e => by rcases hg with h1 | h1; omega; exact hne (e ▸ h1))).trans (h.block k hk hne)⟩
theorem lt_of_heap {w : World} {g : Nat} {o : Obj} (h : w.heap[g]? = some o) : g < w.heap.size := (Array.getElem?_eq_some_iff.1 h).1
theorem Stand.setRow_other {w : World} {g : Nat} {c : CmdIn} (h : Stand w g c) {q : Nat} (hq : g ≠ q) (cs : Array Value) : Stand (w.setRow q cs) g c := World.rowIs.of_block h (Go.setRow_other w q g cs hq)
theorem cell_setRow_other {w : World} {p : Addr} {v : Value} (h : w.cell? p = some v) {q : Nat} (hq : p.block ≠ q) (cs : Array Value) : (w.setRow q cs).cell? p = some v := by
  unfold World.cell? at h ⊢
  rw [Go.setRow_other w q p.block cs hq]
  exact h
theorem rd_setRow {T : TypeId} {Q : (Nat → Value) → Cat.Left → Prop} {w : World} {g : Nat} {o : Cat.Left} (h : Rd T Q w g o) {q : Nat} (hq : g ≠ q) (cs : Array Value) : Rd T Q (w.setRow q cs) g o := h.of_block (Go.setRow_other w q g cs hq)
theorem wpAnyU_named {P : Program} {md : Region.Mode} {ops : Array Oper} {Q : Exit → Act → World → Prop} {S : World → Prop} {D : Nat → Bool} {fuel : Nat} {listed : Array Bool} {a : Act} {w : World} (h : ∀ W, W = w → Ord.wpAnyU P md ops Q S D fuel listed a W) : Ord.wpAnyU P md ops Q S D fuel listed a w := h w rfl
theorem stS_none : (stS none).2 = none := by
  unfold stS
  exact tkS_none _
theorem stks_setRow {w : World} {a : Option Addr} {l : List Stk} (h : Stks w a l) {g : Nat} (hp : ∀ x, a = some x → l.length = 0 ∨ x.block ≠ g) (cs : Array Value) : Stks (w.setRow g cs) a l := by
  by_cases h0 : l.length = 0
  · intro i hi
    omega
  · exact Stks.setRow h (fun x hx => (hp x hx).resolve_left h0) cs
theorem done_none : doneS none = false := rfl
set_option maxRecDepth 100000 in
set_option maxHeartbeats 8000000 in
theorem refTake_any (s : ByteArray) (hs : s.size ≤ 1000000000) (w : World) : Calls Tryz.prog 43 #[.string s] w (GivesT (takeV s.data.toList) w) := by
  obtain ⟨u, hu⟩ : ∃ u, Hid (uintS 25 (some s.data.toList) = u) := ⟨_, rfl⟩
  have HN : Hid (Rd 121 QR ((w.alloc (.cells zeroC.val 41)).alloc (.cells #[.string s, .int .i64 0, .bool false] 121)) (w.heap.size + 1) (some s.data.toList)) := by
    have h := rrNew s hs (w.alloc (.cells zeroC.val 41))
    rw [show (w.alloc (.cells zeroC.val 41)).heap.size = w.heap.size + 1 from by simp] at h
    exact h
  have CU : Hid (∀ g o most W, Rd 121 QR W g o → Calls Tryz.prog 91 #[.pointer (some ⟨g, 0, none⟩), .int .i64 most] W (Rs 121 QR W g (uintS most o))) := fun g o most W h => rrU_any g o most W h
  have CI : Hid (∀ g o W, Rd 121 QR W g o → Calls Tryz.prog 92 #[.pointer (some ⟨g, 0, none⟩)] W (Rs 121 QR W g (intS o))) := fun g o W h => rrI_any g o W h
  have CE : Hid (∀ g o W, Rd 121 QR W g o → Calls Tryz.prog 94 #[.pointer (some ⟨g, 0, none⟩)] W fun e w' => e = .returned (.bool (doneS o)) ∧ Below W.heap.size W w') := fun g o W h => rrD_any g o W h
  have CST : Hid (∀ g o W, Rd 121 QR W g o → Calls Tryz.prog 93 #[.pointer (some ⟨g, 0, none⟩)] W (GivesR g o W)) := fun g o W h => takeStacks_any g o W h
  have CF : Hid (∀ W, Calls Tryz.prog 59 #[.int .i64 u.1] W (Gives (fn u.1) W)) := fun W => refFields_any u.1 W
  have CSET : Hid (∀ I (c : CmdIn) (f : Nat → Int) n, Eqv c (bare u.1 f) → I < 19 → ∀ W, Calls Tryz.prog 60 #[.agg c.val, .string (nm I), .int .i64 n] W fun e w' => ∃ c', e = .returned (.tuple #[.agg c'.val, .bool true]) ∧ Hid (Eqv c' (bare u.1 fun j => if j = I then n else f j)) ∧ Hid (Below W.heap.size W w')) := fun I c f n hc hI W => by
    have hp : place (nm I) = some I := place_nm hI
    refine (refSet_any c (nm I) n W (bare_lies hc W)).mono ?_
    rintro e w' ⟨c', e1, h2, h3, h4⟩
    have e2 : setV c (nm I) n = c.set I n := by unfold setV; rw [hp]
    rw [e2] at h2
    rw [hp] at e1
    refine ⟨c', e1, ?_, h4⟩
    have h5 := h2.out
    refine ⟨h5.kind.trans hc.kind, h5.num.trans ?_, h5.gives.trans hc.gives, h5.wants.trans hc.wants⟩
    funext j
    show (if j = I then n else c.num j) = (if j = I then n else f j)
    rw [hc.num]
    rfl
  unfold Rs at *
  obtain ⟨m, hm⟩ : ∃ m, Hid ((fn u.1).length = m) := ⟨_, rfl⟩
  have HFI : Hid ((fi u.1).length = m) := by show _ = _; have := hm.out; unfold fn at this; rwa [List.length_map] at this
  have hm1 : m ≤ 11 := by rw [← HFI.out]; exact fi_len u.1
  obtain ⟨R, hR⟩ : ∃ R, Hid (tkN (fi u.1) (fun _ => 0) u.2 = R) := ⟨_, rfl⟩
  obtain ⟨TV, hTV⟩ : ∃ t, Hid (takeV s.data.toList = t) := ⟨_, rfl⟩
  have HGET : Hid (∀ k, k < m → (fn u.1).getD k ByteArray.empty = nm ((fi u.1).getD k 0) ∧ (fi u.1).getD k 0 < 19) := fun k hk => fn_get u.1 k (by rw [HFI.out]; exact hk)
  rw [hTV.out]
  clear hs
  go_enter Tryz.func43, Tryz.ntmps43
  go_upto_region 3 with (first
    | (go_at_call 91; (refine (CU.out _ _ 25 _ HN.out).mono ?_); rintro e w2 ⟨rfl, HR2, HG2⟩; rw [hu.out] at HR2 ⊢)
    | (refine wpList_buildTo rfl 41 _ rfl (some 15) rfl (bare u.1 fun _ => 0).val (by as_aux_lemma => kernel_rfl) ?_)
    | (refine store_cmd rfl (.tmp 5) (.tmp 15) rfl rfl w2.heap.size (bare u.1 fun _ => 0) zeroC rfl rfl (heap_alloc_new w2 _) ?_))
  refine wp_named fun W0 hW0 => ?_
  have HS0 : Hid (Stand W0 w2.heap.size (bare u.1 fun _ => 0)) := by rw [hW0]; exact stand_of_heap (setRow_cmd _ (c0 := zeroC) (heap_alloc_new w2 _))
  have HB20 : Hid (Below w2.heap.size w2 W0) := by rw [hW0]; exact below_setRow (below_al (Below.refl _ _) _) _ (Nat.le_refl _) _
  clear hW0
  have hs2 : w.heap.size + 2 ≤ w2.heap.size := by have := HG2.out.size; simp at this; omega
  have HZ0 : Hid (W0.heap[w.heap.size]? = some (.cells zeroC.val 41 (0, 0))) := (HB20.out.block _ (by omega)).trans ((HG2.out.block _ (by simp; omega) (fun e => by have := Option.some.inj e; omega)).trans ((heap_alloc_old _ _ (by simp)).trans (heap_alloc_new w _)))
  have HR0 := Lib.hid (HR2.out.below HB20.out)
  have HW2 : Hid (Below w.heap.size w w2) := (below_al (below_al (Below.refl w.heap.size w) _) _).grown HG2.out (by simp; omega) (fun k hk => by cases hk; omega)
  have HW0 : Hid (Below w.heap.size w W0) := HW2.out.trans (HB20.out.mono (by omega))
  have hgl : w.heap.size + 1 < w2.heap.size := by omega
  have hgl0 : w2.heap.size < W0.heap.size := World.rowIs.lt HS0.out
  have hA : w.heap.size < w.heap.size + 1 := by omega
  clear HR2 HG2 HB20 hs2 HW2 HN
  generalize w.heap.size + 1 = g at *
  generalize w2.heap.size = gb at *
  obtain ⟨b0, -, -⟩ := HS0.out.three
  have b0' : W0.cell? ⟨gb, 0, none⟩ = some (.int .i64 u.1) := b0
  clear b0
  go_wp2_with (go_at_call 59; (with_reducible refine (CF.out _).mono ?_); rintro e w3 ⟨a3, k3, rfl, HF3, HB3, HFAR⟩; rw [hm.out])
  have HS3 := Lib.hid (HS0.out.below HB3.out)
  have HR3 := Lib.hid (HR0.out.below HB3.out)
  have hs3 : W0.heap.size ≤ w3.heap.size := HB3.out.size
  have HZ3 : Hid (w3.heap[w.heap.size]? = some (.cells zeroC.val 41 (0, 0))) := (HB3.out.block _ (by omega)).trans HZ0.out
  have HW3 := Lib.hid (below2 HW0.out HB3.out)
  go_loopw [7] (fun i wr => ∃ (k : Nat) (f : Nat → Int) (o : Cat.Left) (c : CmdIn), k ≤ m ∧ i = .int .i64 k ∧ Hid (tkN ((fi u.1).drop k) f o = R) ∧ Hid (Eqv c (bare u.1 f)) ∧ Hid (Stand wr gb c) ∧ Hid (Rd 121 QR wr g o) ∧ Hid (Bx w3.heap.size (fun k => k = g ∨ k = gb) w3 wr)) (fun i _ => m - (intOf i).toNat)
  case atStart => exact ⟨0, fun _ => 0, u.2, bare u.1 fun _ => 0, by omega, rfl, hR, Eqv.refl _, HS3, HR3, Bx.refl _ _ _⟩
  case round =>
    obtain ⟨k, f, o, c, hk, rfl, HTK, HEC, HSr, HRr, HXr⟩ := hrel
    have hsr : w3.heap.size ≤ wr.heap.size := HXr.out.size
    by_cases hlt : k < m
    · obtain ⟨b2, off2, rfl, hbl2, hc2⟩ := HF3.out k (by rw [hm.out]; exact hlt)
      obtain ⟨e1, hi19⟩ := HGET.out k hlt
      rw [e1] at hc2
      have hfar : W0.heap.size ≤ b2 := HFAR.out _ rfl
      have hcr := HXr.out.keep hbl2 (by omega) hc2
      have HTK' : Hid (tkN ((fi u.1).drop (k + 1)) (fun j => if j = (fi u.1).getD k 0 then (intS o).1 else f j) (intS o).2 = R) := by
        have hlt' : k < (fi u.1).length := by rw [HFI.out]; exact hlt
        have h := HTK.out
        rw [List.drop_eq_getElem_cons hlt'] at h
        rw [show (fi u.1).getD k 0 = (fi u.1)[k] from by rw [List.getD_eq_getElem?_getD, List.getElem?_eq_getElem hlt']; rfl]
        exact h
      clear HTK e1 hc2
      have hlt1 : (k : Int) < (m : Int) := by omega
      have d1 : decide ((k : Int) < (m : Int)) = true := decide_eq_true hlt1
      have hk0 : (0 : Int) ≤ k := by omega
      generalize (fi u.1).getD k 0 = I at *
      obtain ⟨r, hr⟩ : ∃ r, Hid (intS o = r) := ⟨_, rfl⟩
      rw [hr.out] at HTK'
      go_upto_region 7 with fail
      have hsW : Stand wr.drew gb c ∧ wr.drew.cell? ⟨b2, off2 + k, none⟩ = some (.string (nm I)) := ⟨World.rowIs.drew HSr.out, hcr⟩
      have RW := Lib.hid (Rd.drew HRr.out)
      have BW := Lib.hid (Bx.drew HXr.out)
      have hzW : w3.heap.size ≤ wr.drew.heap.size := hsr
      have hb2g : b2 ≠ g := by omega
      have hgbg : g ≠ gb := by omega
      refine Ord.wp_region_U (fun W' => Stand W' gb c ∧ W'.cell? ⟨b2, off2 + k, none⟩ = some (.string (nm I))) [] (by kernel_rfl) ?_
      have hHeld := hsW
      refine Ord.wpAnyU_take (i := 0) (v := .agg c.val) rfl (by kernel_rfl) (by kernel_rfl) (by kernel_rfl) (by kernel_rfl) (by kernel_rfl) (by kernel_rfl) (by kernel_rfl) (fun _ _ _ h => h) (Or.inl ⟨by rfl, ?_⟩) hHeld ?_
      · exact fun W2 hS2 => run_load_cmd (.tmp 5) rfl rfl hS2.1
      try simp only [Act.put, List.setIfInBounds_toArray, List.set_cons_zero, List.set_cons_succ]
      refine Ord.wpAnyU_take (i := 1) (v := ?_) rfl (by kernel_rfl) (by kernel_rfl) (by kernel_rfl) (by kernel_rfl) (by kernel_rfl) (by kernel_rfl) (by kernel_rfl) (fun _ _ _ h => h) (Or.inl ⟨by rfl, ?_⟩) hHeld ?_
      rotate_left
      · intro w hSw; (try dsimp only at hSw); go_simp; (try with_reducible rfl)
      try simp only [Act.put, List.setIfInBounds_toArray, List.set_cons_zero, List.set_cons_succ]
      refine Ord.wpAnyU_take (i := 2) (v := ?_) rfl (by kernel_rfl) (by kernel_rfl) (by kernel_rfl) (by kernel_rfl) (by kernel_rfl) (by kernel_rfl) (by kernel_rfl) (fun _ _ _ h => h) (Or.inl ⟨by rfl, ?_⟩) hHeld ?_
      rotate_left
      · intro w hSw; (try dsimp only at hSw); go_simp; (try with_reducible rfl)
      try simp only [Act.put, List.setIfInBounds_toArray, List.set_cons_zero, List.set_cons_succ]
      refine Ord.wpAnyU_take (i := 3) (v := ?_) rfl (by kernel_rfl) (by kernel_rfl) (by kernel_rfl) (by kernel_rfl) (by kernel_rfl) (by kernel_rfl) (by kernel_rfl) (fun _ _ _ h => h) (Or.inl ⟨by rfl, ?_⟩) hHeld ?_
      rotate_left
      · intro w hSw; (try dsimp only at hSw); go_simp; (try with_reducible rfl)
      try simp only [Act.put, List.setIfInBounds_toArray, List.set_cons_zero, List.set_cons_succ]
      refine Ord.wpAnyU_take (i := 4) (v := ?_) rfl (by kernel_rfl) (by kernel_rfl) (by kernel_rfl) (by kernel_rfl) (by kernel_rfl) (by kernel_rfl) (by kernel_rfl) (fun _ _ _ h => h) (Or.inl ⟨by rfl, ?_⟩) hHeld ?_
      rotate_left
      · intro w hSw; (try dsimp only at hSw); go_simp; (try with_reducible rfl)
      try simp only [Act.put, List.setIfInBounds_toArray, List.set_cons_zero, List.set_cons_succ]
      refine Ord.wpAnyU_take (i := 5) (v := ?_) rfl (by kernel_rfl) (by kernel_rfl) (by kernel_rfl) (by kernel_rfl) (by kernel_rfl) (by kernel_rfl) (by kernel_rfl) (fun _ _ _ h => h) (Or.inl ⟨by rfl, ?_⟩) hHeld ?_
      rotate_left
      · intro w hSw; (try dsimp only at hSw); go_simp; (try with_reducible rfl)
      try simp only [Act.put, List.setIfInBounds_toArray, List.set_cons_zero, List.set_cons_succ]
      refine Ord.wpAnyU_two (i := 6) (j := 11) (by kernel_rfl) rfl rfl (fun K hK => ?_) (fun K hK => ?_)
      · go_simp
        go_wp2_with (go_at_call 92; (with_reducible refine (CI.out _ _ _ RW.out).mono ?_); rintro e w5 ⟨rfl, Rw5, HG5⟩; rw [hr.out] at Rw5 ⊢)
        have hsw5 : _ ∧ _ := ⟨row_grown hsW.1 HG5.out (fun e => hgbg (Option.some.inj e)), cell_grown HG5.out (Nat.lt_of_lt_of_le hbl2 hzW) (fun e => hb2g (Option.some.inj e).symm) hsW.2⟩
        have hzw5 : w3.heap.size ≤ w5.heap.size := Nat.le_trans hzW HG5.out.size
        have Bw5 : Hid (Bx w3.heap.size (fun k => k = g ∨ k = gb) w3 w5) := BW.out.grown HG5.out hzW (fun k e => .inr (.inl (by cases e; rfl)))
        refine hK.out _ _ (fun _ => hsw5) ?_
        clear hK K
        try simp only [Act.put, List.setIfInBounds_toArray, List.set_cons_zero, List.set_cons_succ]
        refine Ord.wpAnyU_two (i := 7) (j := 11) (by kernel_rfl) rfl rfl (fun K hK => ?_) (fun K hK => ?_)
        · go_simp
          go_wp2_with (go_at_call 60; (with_reducible refine (CSET.out I c f _ HEC.out hi19 _).mono ?_); rintro e w6 ⟨c', rfl, HEC6, HB6⟩)
          have hsw6 : _ ∧ _ := ⟨Stand.below hsw5.1 HB6.out, (HB6.out.cell (p := ⟨b2, off2 + k, none⟩) (Nat.lt_of_lt_of_le hbl2 hzw5)).trans hsw5.2⟩
          have hzw6 : w3.heap.size ≤ w6.heap.size := Nat.le_trans hzw5 HB6.out.size
          have Rw6 := Lib.hid (Rw5.out.below HB6.out)
          have Bw6 : Hid (Bx w3.heap.size (fun k => k = g ∨ k = gb) w3 w6) := Bw5.out.below hzw5 HB6.out
          refine hK.out _ _ (fun _ => hsw6) ?_
          clear hK K
          try simp only [Act.put, List.setIfInBounds_toArray, List.set_cons_zero, List.set_cons_succ]
          have hHeld := hsw6
          refine Ord.wpAnyU_take (i := 8) (v := ?_) rfl (by kernel_rfl) (by kernel_rfl) (by kernel_rfl) (by kernel_rfl) (by kernel_rfl) (by kernel_rfl) (by kernel_rfl) (fun _ _ _ h => h) (Or.inl ⟨by rfl, ?_⟩) hHeld ?_
          rotate_left
          · intro w hSw; (try dsimp only at hSw); go_simp; (try with_reducible rfl)
          try simp only [Act.put, List.setIfInBounds_toArray, List.set_cons_zero, List.set_cons_succ]
          refine Ord.wpAnyU_take (i := 9) (v := ?_) rfl (by kernel_rfl) (by kernel_rfl) (by kernel_rfl) (by kernel_rfl) (by kernel_rfl) (by kernel_rfl) (by kernel_rfl) (fun _ _ _ h => h) (Or.inl ⟨by rfl, ?_⟩) hHeld ?_
          rotate_left
          · intro w hSw; (try dsimp only at hSw); go_simp; (try with_reducible rfl)
          try simp only [Act.put, List.setIfInBounds_toArray, List.set_cons_zero, List.set_cons_succ]
          refine Ord.wpAnyU_take (i := 10) (v := ?_) rfl (by kernel_rfl) (by kernel_rfl) (by kernel_rfl) (by kernel_rfl) (by kernel_rfl) (by kernel_rfl) (by kernel_rfl) (fun _ _ _ h => h) (Or.inl ⟨by rfl, ?_⟩) hHeld ?_
          rotate_left
          · intro w hSw; (try dsimp only at hSw); go_simp; (try with_reducible rfl)
          try simp only [Act.put, List.setIfInBounds_toArray, List.set_cons_zero, List.set_cons_succ]
          refine Ord.wpAnyU_one (i := 11) (by kernel_rfl) rfl (fun K hK => ?_)
          go_simp
          have hswA : _ ∧ _ := ⟨Stand.below hsw6.1 (below_al (Below.refl w6.heap.size w6) (.cells zeroC.val 41)), ((below_al (Below.refl w6.heap.size w6) (.cells zeroC.val 41)).cell (p := ⟨b2, off2 + k, none⟩) (Nat.lt_of_lt_of_le hbl2 hzw6)).trans hsw6.2⟩
          refine hK.out _ _ (fun _ => hswA) ?_
          clear hK K
          try simp only [Act.put, List.setIfInBounds_toArray, List.set_cons_zero, List.set_cons_succ]
          refine wpAnyU_named fun wA hwA => ?_
          have hA : wA = (w6.alloc (.cells zeroC.val 41)) := hwA
          clear hwA
          have RwA := Lib.hid (Rw6.out.alloc (.cells zeroC.val 41))
          have BwA := Lib.hid (Bw6.out.alloc hzw6 (.cells zeroC.val 41))
          have hzwA : w3.heap.size ≤ (w6.alloc (.cells zeroC.val 41)).heap.size := Nat.le_trans hzw6 (below_al (Below.refl w6.heap.size w6) (.cells zeroC.val 41)).size
          have ZwA := Lib.hid (heap_alloc_new w6 (.cells zeroC.val 41))
          have hg8 : w3.heap.size ≤ w6.heap.size := hzw6
          rw [← hA] at hswA RwA BwA hzwA ZwA
          clear hA
          generalize w6.heap.size = g8 at *
          refine Ord.wpAnyU_one (i := 12) (by kernel_rfl) rfl (fun K hK => ?_)
          rw [if_pos (by rfl)]
          refine one_store_cmd (.tmp 8) (.tmp 34) rfl rfl g8 c' zeroC rfl rfl ZwA.out ?_
          refine hK.out _ _ (fun _ => ⟨Stand.setRow_other hswA.1 (by omega) _, cell_setRow_other hswA.2 (show b2 ≠ g8 by omega) _⟩) ?_
          clear hK K
          try simp only [Act.put, List.setIfInBounds_toArray, List.set_cons_zero, List.set_cons_succ]
          refine Ord.wpAnyU_one (i := 13) (by kernel_rfl) rfl (fun K hK => ?_)
          go_simp
          refine hK.out _ _ (fun _ => ⟨Stand.setRow_other hswA.1 (by omega) _, cell_setRow_other hswA.2 (show b2 ≠ g8 by omega) _⟩) ?_
          clear hK K
          try simp only [Act.put, List.setIfInBounds_toArray, List.set_cons_zero, List.set_cons_succ]
          refine Ord.wpAnyU_done (by kernel_rfl) ?_ _
          have HS8 : Hid (Stand (wA.setRow g8 c'.val) g8 c') := stand_of_heap (setRow_cmd c' (c0 := zeroC) ZwA.out)
          have HSb : Hid (Stand (wA.setRow g8 c'.val) gb c) := Stand.setRow_other hswA.1 (by omega) _
          have HR8 : Hid (Rd 121 QR (wA.setRow g8 c'.val) g r.2) := rd_setRow RwA.out (by omega) _
          have HX8 := Lib.hid (bx_setRow BwA.out g8 (.inl hg8) c'.val)
          generalize wA.setRow g8 c'.val = w8 at *
          go_upto_region 8 with fail
          apply wp_region_lit
          refine load_cmd rfl (.tmp 8) rfl g8 rfl c' HS8.out ?_
          refine store_cmd rfl (.tmp 5) (.tmp 36) rfl rfl gb c' c rfl rfl HSb.out.heap ?_
          refine wpl_named fun w9 hw9 => ?_
          have HS9 : Hid (Stand w9 gb c') := by rw [hw9]; exact stand_of_heap (setRow_cmd c' HSb.out.heap)
          have HR9 : Hid (Rd 121 QR w9 g r.2) := by rw [hw9]; exact rd_setRow HR8.out hgbg _
          have HX9 : Hid (Bx w3.heap.size (fun k => k = g ∨ k = gb) w3 w9) := by rw [hw9]; exact bx_setRow HX8.out gb (.inr (.inr rfl)) _
          clear hw9
          go_wp2
          go_roundw
          case rel => exact ⟨k + 1, _, r.2, c', by omega, by go_num, HTK', HEC6, HS9, HR9, HX9⟩
          case measure => simp [intOf]; omega
        · go_simp
          have hswA : _ ∧ _ := ⟨Stand.below hsw5.1 (below_al (Below.refl w5.heap.size w5) (.cells zeroC.val 41)), ((below_al (Below.refl w5.heap.size w5) (.cells zeroC.val 41)).cell (p := ⟨b2, off2 + k, none⟩) (Nat.lt_of_lt_of_le hbl2 hzw5)).trans hsw5.2⟩
          refine hK.out _ _ (fun _ => hswA) ?_
          clear hK K
          try simp only [Act.put, List.setIfInBounds_toArray, List.set_cons_zero, List.set_cons_succ]
          refine wpAnyU_named fun wA hwA => ?_
          have hA : wA = (w5.alloc (.cells zeroC.val 41)) := hwA
          clear hwA
          have RwA := Lib.hid (Rw5.out.alloc (.cells zeroC.val 41))
          have BwA := Lib.hid (Bw5.out.alloc hzw5 (.cells zeroC.val 41))
          have hzwA : w3.heap.size ≤ (w5.alloc (.cells zeroC.val 41)).heap.size := Nat.le_trans hzw5 (below_al (Below.refl w5.heap.size w5) (.cells zeroC.val 41)).size
          have ZwA := Lib.hid (heap_alloc_new w5 (.cells zeroC.val 41))
          have hg8 : w3.heap.size ≤ w5.heap.size := hzw5
          rw [← hA] at hswA RwA BwA hzwA ZwA
          clear hA
          generalize w5.heap.size = g8 at *
          refine Ord.wpAnyU_one (i := 7) (by kernel_rfl) rfl (fun K hK => ?_)
          go_simp
          go_wp2_with (go_at_call 60; (with_reducible refine (CSET.out I c f _ HEC.out hi19 _).mono ?_); rintro e w6 ⟨c', rfl, HEC6, HB6⟩)
          have hsw6 : _ ∧ _ := ⟨Stand.below hswA.1 HB6.out, (HB6.out.cell (p := ⟨b2, off2 + k, none⟩) (Nat.lt_of_lt_of_le hbl2 hzwA)).trans hswA.2⟩
          have hzw6 : w3.heap.size ≤ w6.heap.size := Nat.le_trans hzwA HB6.out.size
          have Rw6 := Lib.hid (RwA.out.below HB6.out)
          have Bw6 : Hid (Bx w3.heap.size (fun k => k = g ∨ k = gb) w3 w6) := BwA.out.below hzwA HB6.out
          have Zw6 : Hid (w6.heap[g8]? = some (.cells zeroC.val 41 (0, 0))) := (HB6.out.block g8 (lt_of_heap ZwA.out)).trans ZwA.out
          refine hK.out _ _ (fun _ => hsw6) ?_
          clear hK K
          try simp only [Act.put, List.setIfInBounds_toArray, List.set_cons_zero, List.set_cons_succ]
          have hHeld := hsw6
          refine Ord.wpAnyU_take (i := 8) (v := ?_) rfl (by kernel_rfl) (by kernel_rfl) (by kernel_rfl) (by kernel_rfl) (by kernel_rfl) (by kernel_rfl) (by kernel_rfl) (fun _ _ _ h => h) (Or.inl ⟨by rfl, ?_⟩) hHeld ?_
          rotate_left
          · intro w hSw; (try dsimp only at hSw); go_simp; (try with_reducible rfl)
          try simp only [Act.put, List.setIfInBounds_toArray, List.set_cons_zero, List.set_cons_succ]
          refine Ord.wpAnyU_take (i := 9) (v := ?_) rfl (by kernel_rfl) (by kernel_rfl) (by kernel_rfl) (by kernel_rfl) (by kernel_rfl) (by kernel_rfl) (by kernel_rfl) (fun _ _ _ h => h) (Or.inl ⟨by rfl, ?_⟩) hHeld ?_
          rotate_left
          · intro w hSw; (try dsimp only at hSw); go_simp; (try with_reducible rfl)
          try simp only [Act.put, List.setIfInBounds_toArray, List.set_cons_zero, List.set_cons_succ]
          refine Ord.wpAnyU_take (i := 10) (v := ?_) rfl (by kernel_rfl) (by kernel_rfl) (by kernel_rfl) (by kernel_rfl) (by kernel_rfl) (by kernel_rfl) (by kernel_rfl) (fun _ _ _ h => h) (Or.inl ⟨by rfl, ?_⟩) hHeld ?_
          rotate_left
          · intro w hSw; (try dsimp only at hSw); go_simp; (try with_reducible rfl)
          try simp only [Act.put, List.setIfInBounds_toArray, List.set_cons_zero, List.set_cons_succ]
          refine Ord.wpAnyU_one (i := 12) (by kernel_rfl) rfl (fun K hK => ?_)
          rw [if_pos (by rfl)]
          refine one_store_cmd (.tmp 8) (.tmp 34) rfl rfl g8 c' zeroC rfl rfl Zw6.out ?_
          refine hK.out _ _ (fun _ => ⟨Stand.setRow_other hsw6.1 (by omega) _, cell_setRow_other hsw6.2 (show b2 ≠ g8 by omega) _⟩) ?_
          clear hK K
          try simp only [Act.put, List.setIfInBounds_toArray, List.set_cons_zero, List.set_cons_succ]
          refine Ord.wpAnyU_one (i := 13) (by kernel_rfl) rfl (fun K hK => ?_)
          go_simp
          refine hK.out _ _ (fun _ => ⟨Stand.setRow_other hsw6.1 (by omega) _, cell_setRow_other hsw6.2 (show b2 ≠ g8 by omega) _⟩) ?_
          clear hK K
          try simp only [Act.put, List.setIfInBounds_toArray, List.set_cons_zero, List.set_cons_succ]
          refine Ord.wpAnyU_done (by kernel_rfl) ?_ _
          have HS8 : Hid (Stand (w6.setRow g8 c'.val) g8 c') := stand_of_heap (setRow_cmd c' (c0 := zeroC) Zw6.out)
          have HSb : Hid (Stand (w6.setRow g8 c'.val) gb c) := Stand.setRow_other hsw6.1 (by omega) _
          have HR8 : Hid (Rd 121 QR (w6.setRow g8 c'.val) g r.2) := rd_setRow Rw6.out (by omega) _
          have HX8 := Lib.hid (bx_setRow Bw6.out g8 (.inl hg8) c'.val)
          generalize w6.setRow g8 c'.val = w8 at *
          go_upto_region 8 with fail
          apply wp_region_lit
          refine load_cmd rfl (.tmp 8) rfl g8 rfl c' HS8.out ?_
          refine store_cmd rfl (.tmp 5) (.tmp 36) rfl rfl gb c' c rfl rfl HSb.out.heap ?_
          refine wpl_named fun w9 hw9 => ?_
          have HS9 : Hid (Stand w9 gb c') := by rw [hw9]; exact stand_of_heap (setRow_cmd c' HSb.out.heap)
          have HR9 : Hid (Rd 121 QR w9 g r.2) := by rw [hw9]; exact rd_setRow HR8.out hgbg _
          have HX9 : Hid (Bx w3.heap.size (fun k => k = g ∨ k = gb) w3 w9) := by rw [hw9]; exact bx_setRow HX8.out gb (.inr (.inr rfl)) _
          clear hw9
          go_wp2
          go_roundw
          case rel => exact ⟨k + 1, _, r.2, c', by omega, by go_num, HTK', HEC6, HS9, HR9, HX9⟩
          case measure => simp [intOf]; omega
      · go_simp
        have hswA : _ ∧ _ := ⟨Stand.below hsW.1 (below_al (Below.refl wr.drew.heap.size wr.drew) (.cells zeroC.val 41)), ((below_al (Below.refl wr.drew.heap.size wr.drew) (.cells zeroC.val 41)).cell (p := ⟨b2, off2 + k, none⟩) (Nat.lt_of_lt_of_le hbl2 hzW)).trans hsW.2⟩
        refine hK.out _ _ (fun _ => hswA) ?_
        clear hK K
        try simp only [Act.put, List.setIfInBounds_toArray, List.set_cons_zero, List.set_cons_succ]
        refine wpAnyU_named fun wA hwA => ?_
        have hA : wA = (wr.drew.alloc (.cells zeroC.val 41)) := hwA
        clear hwA
        have RwA := Lib.hid (RW.out.alloc (.cells zeroC.val 41))
        have BwA := Lib.hid (BW.out.alloc hzW (.cells zeroC.val 41))
        have hzwA : w3.heap.size ≤ (wr.drew.alloc (.cells zeroC.val 41)).heap.size := Nat.le_trans hzW (below_al (Below.refl wr.drew.heap.size wr.drew) (.cells zeroC.val 41)).size
        have ZwA := Lib.hid (heap_alloc_new wr.drew (.cells zeroC.val 41))
        have hg8 : w3.heap.size ≤ wr.drew.heap.size := hzW
        rw [← hA] at hswA RwA BwA hzwA ZwA
        clear hA
        (replace ZwA : Hid (wA.heap[wr.heap.size]? = some (.cells zeroC.val 41 (0, 0))) := ZwA); (replace hg8 : w3.heap.size ≤ wr.heap.size := hg8); generalize wr.heap.size = g8 at *
        refine Ord.wpAnyU_one (i := 6) (by kernel_rfl) rfl (fun K hK => ?_)
        go_simp
        go_wp2_with (go_at_call 92; (with_reducible refine (CI.out _ _ _ RwA.out).mono ?_); rintro e w5 ⟨rfl, Rw5, HG5⟩; rw [hr.out] at Rw5 ⊢)
        have hsw5 : _ ∧ _ := ⟨row_grown hswA.1 HG5.out (fun e => hgbg (Option.some.inj e)), cell_grown HG5.out (Nat.lt_of_lt_of_le hbl2 hzwA) (fun e => hb2g (Option.some.inj e).symm) hswA.2⟩
        have hzw5 : w3.heap.size ≤ w5.heap.size := Nat.le_trans hzwA HG5.out.size
        have Bw5 : Hid (Bx w3.heap.size (fun k => k = g ∨ k = gb) w3 w5) := BwA.out.grown HG5.out hzwA (fun k e => .inr (.inl (by cases e; rfl)))
        have Zw5 : Hid (w5.heap[g8]? = some (.cells zeroC.val 41 (0, 0))) := (HG5.out.block g8 (lt_of_heap ZwA.out) (fun e => by have := Option.some.inj e; omega)).trans ZwA.out
        refine hK.out _ _ (fun _ => hsw5) ?_
        clear hK K
        try simp only [Act.put, List.setIfInBounds_toArray, List.set_cons_zero, List.set_cons_succ]
        refine Ord.wpAnyU_one (i := 7) (by kernel_rfl) rfl (fun K hK => ?_)
        go_simp
        go_wp2_with (go_at_call 60; (with_reducible refine (CSET.out I c f _ HEC.out hi19 _).mono ?_); rintro e w6 ⟨c', rfl, HEC6, HB6⟩)
        have hsw6 : _ ∧ _ := ⟨Stand.below hsw5.1 HB6.out, (HB6.out.cell (p := ⟨b2, off2 + k, none⟩) (Nat.lt_of_lt_of_le hbl2 hzw5)).trans hsw5.2⟩
        have hzw6 : w3.heap.size ≤ w6.heap.size := Nat.le_trans hzw5 HB6.out.size
        have Rw6 := Lib.hid (Rw5.out.below HB6.out)
        have Bw6 : Hid (Bx w3.heap.size (fun k => k = g ∨ k = gb) w3 w6) := Bw5.out.below hzw5 HB6.out
        have Zw6 : Hid (w6.heap[g8]? = some (.cells zeroC.val 41 (0, 0))) := (HB6.out.block g8 (lt_of_heap Zw5.out)).trans Zw5.out
        refine hK.out _ _ (fun _ => hsw6) ?_
        clear hK K
        try simp only [Act.put, List.setIfInBounds_toArray, List.set_cons_zero, List.set_cons_succ]
        have hHeld := hsw6
        refine Ord.wpAnyU_take (i := 8) (v := ?_) rfl (by kernel_rfl) (by kernel_rfl) (by kernel_rfl) (by kernel_rfl) (by kernel_rfl) (by kernel_rfl) (by kernel_rfl) (fun _ _ _ h => h) (Or.inl ⟨by rfl, ?_⟩) hHeld ?_
        rotate_left
        · intro w hSw; (try dsimp only at hSw); go_simp; (try with_reducible rfl)
        try simp only [Act.put, List.setIfInBounds_toArray, List.set_cons_zero, List.set_cons_succ]
        refine Ord.wpAnyU_take (i := 9) (v := ?_) rfl (by kernel_rfl) (by kernel_rfl) (by kernel_rfl) (by kernel_rfl) (by kernel_rfl) (by kernel_rfl) (by kernel_rfl) (fun _ _ _ h => h) (Or.inl ⟨by rfl, ?_⟩) hHeld ?_
        rotate_left
        · intro w hSw; (try dsimp only at hSw); go_simp; (try with_reducible rfl)
        try simp only [Act.put, List.setIfInBounds_toArray, List.set_cons_zero, List.set_cons_succ]
        refine Ord.wpAnyU_take (i := 10) (v := ?_) rfl (by kernel_rfl) (by kernel_rfl) (by kernel_rfl) (by kernel_rfl) (by kernel_rfl) (by kernel_rfl) (by kernel_rfl) (fun _ _ _ h => h) (Or.inl ⟨by rfl, ?_⟩) hHeld ?_
        rotate_left
        · intro w hSw; (try dsimp only at hSw); go_simp; (try with_reducible rfl)
        try simp only [Act.put, List.setIfInBounds_toArray, List.set_cons_zero, List.set_cons_succ]
        refine Ord.wpAnyU_one (i := 12) (by kernel_rfl) rfl (fun K hK => ?_)
        rw [if_pos (by rfl)]
        refine one_store_cmd (.tmp 8) (.tmp 34) rfl rfl g8 c' zeroC rfl rfl Zw6.out ?_
        refine hK.out _ _ (fun _ => ⟨Stand.setRow_other hsw6.1 (by omega) _, cell_setRow_other hsw6.2 (show b2 ≠ g8 by omega) _⟩) ?_
        clear hK K
        try simp only [Act.put, List.setIfInBounds_toArray, List.set_cons_zero, List.set_cons_succ]
        refine Ord.wpAnyU_one (i := 13) (by kernel_rfl) rfl (fun K hK => ?_)
        go_simp
        refine hK.out _ _ (fun _ => ⟨Stand.setRow_other hsw6.1 (by omega) _, cell_setRow_other hsw6.2 (show b2 ≠ g8 by omega) _⟩) ?_
        clear hK K
        try simp only [Act.put, List.setIfInBounds_toArray, List.set_cons_zero, List.set_cons_succ]
        refine Ord.wpAnyU_done (by kernel_rfl) ?_ _
        have HS8 : Hid (Stand (w6.setRow g8 c'.val) g8 c') := stand_of_heap (setRow_cmd c' (c0 := zeroC) Zw6.out)
        have HSb : Hid (Stand (w6.setRow g8 c'.val) gb c) := Stand.setRow_other hsw6.1 (by omega) _
        have HR8 : Hid (Rd 121 QR (w6.setRow g8 c'.val) g r.2) := rd_setRow Rw6.out (by omega) _
        have HX8 := Lib.hid (bx_setRow Bw6.out g8 (.inl hg8) c'.val)
        generalize w6.setRow g8 c'.val = w8 at *
        go_upto_region 8 with fail
        apply wp_region_lit
        refine load_cmd rfl (.tmp 8) rfl g8 rfl c' HS8.out ?_
        refine store_cmd rfl (.tmp 5) (.tmp 36) rfl rfl gb c' c rfl rfl HSb.out.heap ?_
        refine wpl_named fun w9 hw9 => ?_
        have HS9 : Hid (Stand w9 gb c') := by rw [hw9]; exact stand_of_heap (setRow_cmd c' HSb.out.heap)
        have HR9 : Hid (Rd 121 QR w9 g r.2) := by rw [hw9]; exact rd_setRow HR8.out hgbg _
        have HX9 : Hid (Bx w3.heap.size (fun k => k = g ∨ k = gb) w3 w9) := by rw [hw9]; exact bx_setRow HX8.out gb (.inr (.inr rfl)) _
        clear hw9
        go_wp2
        go_roundw
        case rel => exact ⟨k + 1, _, r.2, c', by omega, by go_num, HTK', HEC6, HS9, HR9, HX9⟩
        case measure => simp [intOf]; omega
    · have hke : k = m := by omega
      have n1 : ¬ (k : Int) < (m : Int) := by omega
      have d1 : decide ((k : Int) < (m : Int)) = false := decide_eq_false n1
      have HRe : Hid ((f, o) = R) := by
        have h := HTK.out
        rw [hke, ← HFI.out, List.drop_length] at h
        exact h
      subst hke
      clear HTK HF3 HFAR HR3 HS3 HR0 HS0
      obtain ⟨k0, -, -⟩ := HSr.out.three
      have k0' : wr.cell? ⟨gb, 0, none⟩ = some (.int .i64 u.1) := by rw [k0, HEC.out.kind]; rfl
      clear k0
      have HZr : Hid (wr.heap[w.heap.size]? = some (.cells zeroC.val 41 (0, 0))) := (HXr.out.block _ (by omega) (by omega)).trans HZ3.out
      have HWr : Hid (Below w.heap.size w wr) := by
        have hx := HXr.out
        exact HW3.out.trans ⟨hx.os, hx.tape, hx.output, hx.size, fun j hj => hx.block j (by omega) (by omega)⟩
      have hgr : gb < wr.heap.size := by omega
      by_cases h14 : u.1 = 14
      · have d14 : (u.1 == 14) = true := beq_iff_eq.2 h14
        have hRe := HRe.out
        subst hRe
        have HRD : Hid (rdC s.data.toList = (⟨u.1, f, (stS o).1, none, 0, (stS (stS o).2).1, none, 0⟩, (stS (stS o).2).2)) := by
          show _ = _
          unfold rdC
          rw [hu.out]
          dsimp only
          rw [hR.out, if_pos h14]
        obtain ⟨o1, ho1⟩ : ∃ o1, Hid (stS o = o1) := ⟨_, rfl⟩
        obtain ⟨o2, ho2⟩ : ∃ o2, Hid (stS o1.2 = o2) := ⟨_, rfl⟩
        rw [ho1.out, ho2.out] at HRD
        unfold GivesR at CST
        go_upto_region 12 with (first
          | (go_at_call 93; (with_reducible refine (CST.out _ _ _ HRr.out).mono ?_); rintro e w5 ⟨a1, cap1, l1, rfl, HK1, HR5, HX5, HF5, HE5, hl5⟩; rw [ho1.out] at HR5 HE5; have HS5 : Hid (Stand w5 gb c) := World.rowIs.of_block HSr.out (HX5.out.block gb hgr (by omega)); have c20 := (HS5.out.three).2.1; have f20 := num_frozen HS5.out 20; have hz5 : wr.heap.size ≤ w5.heap.size := HX5.out.size; have HR5' := Lib.hid (HR5.out.set (a := ⟨gb, 20, none⟩) (by show gb ≠ g; omega) (.slice a1 l1.length cap1)))
          | (go_at_call 93; (with_reducible refine (CST.out _ _ _ HR5'.out).mono ?_); rintro e w6 ⟨a2, cap2, l2, rfl, HK2, HR6, HX6, HF6, HE6, hl6⟩; rw [ho2.out] at HR6 HE6; have HS6 : Hid (Stand w6 gb _) := World.rowIs.of_block (Stand.giv HS5.out l1 a1 cap1) (HX6.out.block gb (by simp; omega) (by omega)); have c21 := (HS6.out.three).2.2; have f21 := num_frozen HS6.out 21))
        refine wp_named fun WX hWX => ?_
        obtain ⟨c2, hc2⟩ : ∃ c2 : CmdIn, Hid (c2 = ⟨c.kind, c.num, l1, a1, cap1, l2, a2, cap2⟩) := ⟨_, rfl⟩
        have HSX : Hid (Stand WX gb c2) := by rw [hWX, hc2.out]; exact Stand.wan HS6.out l2 a2 cap2
        have HRX : Hid (Rd 121 QR WX g o2.2) := by rw [hWX]; exact HR6.out.set (by show gb ≠ g; omega) _
        have hgbg : gb ≠ g := by omega
        have HLX : Hid (Lies WX c2) := by
          rw [hWX, hc2.out]
          refine ⟨Stks.setCell (Stks.bx (Stks.setCell HK1.out (fun x hx => by have := HF5.out x hx; show x.block ≠ gb; omega) _) HX6.out (fun x hx => by have := HF5.out x hx; omega)) (fun x hx => by have := HF5.out x hx; show x.block ≠ gb; omega) _, Stks.setCell HK2.out (fun x hx => by have := HF6.out x hx; simp at this; show x.block ≠ gb; omega) _⟩
        have HBX : Hid (Bx wr.heap.size (fun k => k = g ∨ k = gb) wr WX) := by
          rw [hWX]
          have B1 : Bx wr.heap.size (fun k => k = g ∨ k = gb) wr w5 := HX5.out.mono (Nat.le_refl _) (fun k _ e => Or.inl e)
          have B2 : Bx wr.heap.size (fun k => k = g ∨ k = gb) wr (w5.setCell ⟨gb, 20, none⟩ (.slice a1 l1.length cap1)) := B1.set _ _ (.inr (.inr rfl))
          have B3 : Bx wr.heap.size (fun k => k = g ∨ k = gb) (w5.setCell ⟨gb, 20, none⟩ (.slice a1 l1.length cap1)) w6 := HX6.out.mono (by simp; omega) (fun k _ e => Or.inl e)
          exact (B2.trans B3).set _ _ (.inr (.inr rfl))
        clear hWX
        have HZX : Hid (WX.heap[w.heap.size]? = some (.cells zeroC.val 41 (0, 0))) := (HBX.out.block _ (by omega) (by omega)).trans HZr.out
        have HWX : Hid (Below w.heap.size w WX) := by
          have hx := HBX.out
          exact HWr.out.trans ⟨hx.os, hx.tape, hx.output, hx.size, fun j hj => hx.block j (by omega) (by omega)⟩
        have HEQ : Hid (doneS o2.2 = true → Eqv c2 ⟨u.1, f, o1.1, none, 0, o2.1, none, 0⟩) := fun hd => by
          have m2 : o2.2 ≠ none := fun e => by rw [e, done_none] at hd; cases hd
          have m1 : o1.2 ≠ none := fun e => m2 (by rw [← ho2.out, e]; exact stS_none)
          rw [hc2.out, HE6 m2, HE5 m1]
          exact ⟨HEC.out.kind, HEC.out.num, rfl, rfl⟩
        have HFG : Hid (∀ x, c2.ga = some x → c2.gives.length = 0 ∨ w.heap.size < x.block) := fun x hx => .inr (by rw [hc2.out] at hx; have := HF5.out x hx; omega)
        have HFW : Hid (∀ x, c2.wa = some x → c2.wants.length = 0 ∨ w.heap.size < x.block) := fun x hx => .inr (by rw [hc2.out] at hx; have := HF6.out x hx; simp at this; omega)
        clear HK1 HR5 HX5 HF5 HE5 hl5 HS5 c20 f20 hz5 HR5' HK2 HR6 HX6 HF6 HE6 hl6 HS6 c21 f21 hc2 HBX HSr HRr HXr HZr HWr HEC k0' HZ3 HW3 HZ0 HW0 CST ho1 ho2
        skip
        have hDm : Hid (∀ d, doneS o2.2 = d → (d = true ∧ k ≠ 0 → TV = ((⟨u.1, f, o1.1, none, 0, o2.1, none, 0⟩ : CmdIn), 0)) ∧ (¬ (d = true ∧ k ≠ 0) → TV = (zeroC, 2))) := fun d hd => by
          have hne : fi u.1 ≠ [] ↔ k ≠ 0 := by rw [← HFI.out]; simp
          refine ⟨fun q => ?_, fun q => ?_⟩
          · rw [← hTV.out]; unfold takeV; rw [HRD.out, hu.out]; exact if_pos ⟨hd.trans q.1, hne.2 q.2⟩
          · rw [← hTV.out]; unfold takeV; rw [HRD.out, hu.out]; exact if_neg fun hq => q ⟨hd.symm.trans hq.1, hne.1 hq.2⟩
        have CEX : Hid (Calls Tryz.prog 94 #[.pointer (some ⟨g, 0, none⟩)] WX fun e w' => e = .returned (.bool (doneS o2.2)) ∧ Below WX.heap.size WX w') := CE.out _ _ _ HRX.out
        obtain ⟨d, hd⟩ : ∃ d, doneS o2.2 = d := ⟨_, rfl⟩
        rw [hd] at CEX
        obtain ⟨hT1, hT2⟩ := hDm.out d hd
        have HT1 := Lib.hid hT1
        have HT2 := Lib.hid hT2
        clear hT1 hT2 hDm
        cases d with
        | false =>
          have HTV := Lib.hid (HT2.out (by simp))
          go_wp2_with (first
            | (go_at_call 94; (with_reducible refine CEX.out.mono ?_); rintro e w8 ⟨rfl, hb8⟩; have HZY : Hid (w8.heap[w.heap.size]? = some (.cells zeroC.val 41 (0, 0))) := (hb8.block _ (lt_of_heap HZX.out)).trans HZX.out; have HWY := Lib.hid (below2 HWX.out hb8); have HSY := Lib.hid (HSX.out.below hb8); have HLY := Lib.hid (HLX.out.below hb8); clear hb8)
            | (refine wpList_buildTo rfl 41 _ rfl (some 54) rfl zeroC.val (by as_aux_lemma => kernel_rfl) ?_)
            | (refine store_cmd rfl (.tmp 2) (.tmp 54) rfl rfl w.heap.size zeroC zeroC rfl rfl HZY.out ?_))
          try simp only [Exit.inBlock, Exit.then]
          refine bodyPost_ret (v := .tuple #[.agg zeroC.val, .int .i64 2]) (ret_cmd rfl _ _ w.heap.size zeroC _ rfl rfl (setRow_cmd _ HZY.out)) rfl ⟨zeroC, by rw [HTV.out], by show Eqv _ _; rw [HTV.out]; exact Eqv.refl _, Lies.zero _, ?_, fun x hx => (by rcases hx with ⟨h, -⟩ | ⟨h, -⟩ <;> exact absurd rfl h)⟩
          exact below_setRow HWY.out _ (Nat.le_refl _) _
        | true =>
          by_cases hk0 : k = 0
          · have HTV := Lib.hid (HT2.out (by simp [hk0]))
            have dk : ((k : Int) == 0) = true := beq_iff_eq.2 (by omega)
            have hk0' : (k : Int) = 0 := by omega
            go_wp2_with (first
              | (go_at_call 94; (with_reducible refine CEX.out.mono ?_); rintro e w8 ⟨rfl, hb8⟩; have HZY : Hid (w8.heap[w.heap.size]? = some (.cells zeroC.val 41 (0, 0))) := (hb8.block _ (lt_of_heap HZX.out)).trans HZX.out; have HWY := Lib.hid (below2 HWX.out hb8); have HSY := Lib.hid (HSX.out.below hb8); have HLY := Lib.hid (HLX.out.below hb8); clear hb8)
              | (refine wpList_buildTo rfl 41 _ rfl (some 54) rfl zeroC.val (by as_aux_lemma => kernel_rfl) ?_)
              | (refine store_cmd rfl (.tmp 2) (.tmp 54) rfl rfl w.heap.size zeroC zeroC rfl rfl HZY.out ?_))
            try simp only [Exit.inBlock, Exit.then]
            refine bodyPost_ret (v := .tuple #[.agg zeroC.val, .int .i64 2]) (ret_cmd rfl _ _ w.heap.size zeroC _ rfl rfl (setRow_cmd _ HZY.out)) rfl ⟨zeroC, by rw [HTV.out], by show Eqv _ _; rw [HTV.out]; exact Eqv.refl _, Lies.zero _, ?_, fun x hx => (by rcases hx with ⟨h, -⟩ | ⟨h, -⟩ <;> exact absurd rfl h)⟩
            exact below_setRow HWY.out _ (Nat.le_refl _) _
          · have HTV := Lib.hid (HT1.out ⟨rfl, hk0⟩)
            have hk0' : ¬ (k : Int) = 0 := by omega
            have dk : ((k : Int) == 0) = false := beq_eq_false_iff_ne.2 hk0'
            have HEQX := Lib.hid (HEQ.out hd)
            go_wp2_with (first
              | (go_at_call 94; (with_reducible refine CEX.out.mono ?_); rintro e w8 ⟨rfl, hb8⟩; have HZY : Hid (w8.heap[w.heap.size]? = some (.cells zeroC.val 41 (0, 0))) := (hb8.block _ (lt_of_heap HZX.out)).trans HZX.out; have HWY := Lib.hid (below2 HWX.out hb8); have HSY := Lib.hid (HSX.out.below hb8); have HLY := Lib.hid (HLX.out.below hb8); clear hb8)
              | (refine load_cmd rfl (.tmp 5) rfl gb rfl (c2) HSY.out ?_)
              | (refine store_cmd rfl (.tmp 2) (.tmp 55) rfl rfl w.heap.size (c2) zeroC rfl rfl HZY.out ?_))
            try simp only [Exit.inBlock, Exit.then]
            refine bodyPost_ret (v := .tuple #[.agg (c2).val, .int .i64 0]) (ret_cmd rfl _ _ w.heap.size (c2) _ rfl rfl (setRow_cmd _ HZY.out)) rfl ⟨c2, by rw [HTV.out], by show Eqv _ _; rw [HTV.out]; exact HEQX.out, ⟨stks_setRow HLY.out.g (fun x hx => (HFG.out x hx).imp id Nat.ne_of_gt) _, stks_setRow HLY.out.w (fun x hx => (HFW.out x hx).imp id Nat.ne_of_gt) _⟩, ?_, fun x hx => (by rcases hx with ⟨h0, h⟩ | ⟨h0, h⟩ <;> first | exact (HFG.out x h).elim (fun e => absurd (List.length_eq_zero_iff.1 e) h0) Nat.le_of_lt | exact (HFW.out x h).elim (fun e => absurd (List.length_eq_zero_iff.1 e) h0) Nat.le_of_lt)⟩
            exact below_setRow HWY.out _ (Nat.le_refl _) _
      · have d14 : (u.1 == 14) = false := beq_eq_false_iff_ne.2 h14
        have hRe := HRe.out
        subst hRe
        have HRD : Hid (rdC s.data.toList = (bare u.1 f, o)) := by show _ = _; unfold rdC; rw [hu.out]; dsimp only; rw [hR.out, if_neg h14]; rfl
        have HSX := HSr
        have HRX := HRr
        have HZX := HZr
        have HWX := HWr
        have HLX : Hid (Lies wr c) := bare_lies HEC.out wr
        have HEQ : Hid (doneS o = true → Eqv c (bare u.1 f)) := fun _ => HEC.out
        have HFG : Hid (∀ x, c.ga = some x → c.gives.length = 0 ∨ w.heap.size < x.block) := fun x hx => .inl (by rw [HEC.out.gives]; rfl)
        have HFW : Hid (∀ x, c.wa = some x → c.wants.length = 0 ∨ w.heap.size < x.block) := fun x hx => .inl (by rw [HEC.out.wants]; rfl)
        skip
        have hDm : Hid (∀ d, doneS o = d → (d = true ∧ k ≠ 0 → TV = (bare u.1 f, 0)) ∧ (¬ (d = true ∧ k ≠ 0) → TV = (zeroC, 2))) := fun d hd => by
          have hne : fi u.1 ≠ [] ↔ k ≠ 0 := by rw [← HFI.out]; simp
          refine ⟨fun q => ?_, fun q => ?_⟩
          · rw [← hTV.out]; unfold takeV; rw [HRD.out, hu.out]; exact if_pos ⟨hd.trans q.1, hne.2 q.2⟩
          · rw [← hTV.out]; unfold takeV; rw [HRD.out, hu.out]; exact if_neg fun hq => q ⟨hd.symm.trans hq.1, hne.1 hq.2⟩
        have CEX : Hid (Calls Tryz.prog 94 #[.pointer (some ⟨g, 0, none⟩)] wr fun e w' => e = .returned (.bool (doneS o)) ∧ Below wr.heap.size wr w') := CE.out _ _ _ HRX.out
        obtain ⟨d, hd⟩ : ∃ d, doneS o = d := ⟨_, rfl⟩
        rw [hd] at CEX
        obtain ⟨hT1, hT2⟩ := hDm.out d hd
        have HT1 := Lib.hid hT1
        have HT2 := Lib.hid hT2
        clear hT1 hT2 hDm
        cases d with
        | false =>
          have HTV := Lib.hid (HT2.out (by simp))
          go_wp2_with (first
            | (go_at_call 94; (with_reducible refine CEX.out.mono ?_); rintro e w8 ⟨rfl, hb8⟩; have HZY : Hid (w8.heap[w.heap.size]? = some (.cells zeroC.val 41 (0, 0))) := (hb8.block _ (lt_of_heap HZX.out)).trans HZX.out; have HWY := Lib.hid (below2 HWX.out hb8); have HSY := Lib.hid (HSX.out.below hb8); have HLY := Lib.hid (HLX.out.below hb8); clear hb8)
            | (refine wpList_buildTo rfl 41 _ rfl (some 54) rfl zeroC.val (by as_aux_lemma => kernel_rfl) ?_)
            | (refine store_cmd rfl (.tmp 2) (.tmp 54) rfl rfl w.heap.size zeroC zeroC rfl rfl HZY.out ?_))
          try simp only [Exit.inBlock, Exit.then]
          refine bodyPost_ret (v := .tuple #[.agg zeroC.val, .int .i64 2]) (ret_cmd rfl _ _ w.heap.size zeroC _ rfl rfl (setRow_cmd _ HZY.out)) rfl ⟨zeroC, by rw [HTV.out], by show Eqv _ _; rw [HTV.out]; exact Eqv.refl _, Lies.zero _, ?_, fun x hx => (by rcases hx with ⟨h, -⟩ | ⟨h, -⟩ <;> exact absurd rfl h)⟩
          exact below_setRow HWY.out _ (Nat.le_refl _) _
        | true =>
          by_cases hk0 : k = 0
          · have HTV := Lib.hid (HT2.out (by simp [hk0]))
            have dk : ((k : Int) == 0) = true := beq_iff_eq.2 (by omega)
            have hk0' : (k : Int) = 0 := by omega
            go_wp2_with (first
              | (go_at_call 94; (with_reducible refine CEX.out.mono ?_); rintro e w8 ⟨rfl, hb8⟩; have HZY : Hid (w8.heap[w.heap.size]? = some (.cells zeroC.val 41 (0, 0))) := (hb8.block _ (lt_of_heap HZX.out)).trans HZX.out; have HWY := Lib.hid (below2 HWX.out hb8); have HSY := Lib.hid (HSX.out.below hb8); have HLY := Lib.hid (HLX.out.below hb8); clear hb8)
              | (refine wpList_buildTo rfl 41 _ rfl (some 54) rfl zeroC.val (by as_aux_lemma => kernel_rfl) ?_)
              | (refine store_cmd rfl (.tmp 2) (.tmp 54) rfl rfl w.heap.size zeroC zeroC rfl rfl HZY.out ?_))
            try simp only [Exit.inBlock, Exit.then]
            refine bodyPost_ret (v := .tuple #[.agg zeroC.val, .int .i64 2]) (ret_cmd rfl _ _ w.heap.size zeroC _ rfl rfl (setRow_cmd _ HZY.out)) rfl ⟨zeroC, by rw [HTV.out], by show Eqv _ _; rw [HTV.out]; exact Eqv.refl _, Lies.zero _, ?_, fun x hx => (by rcases hx with ⟨h, -⟩ | ⟨h, -⟩ <;> exact absurd rfl h)⟩
            exact below_setRow HWY.out _ (Nat.le_refl _) _
          · have HTV := Lib.hid (HT1.out ⟨rfl, hk0⟩)
            have hk0' : ¬ (k : Int) = 0 := by omega
            have dk : ((k : Int) == 0) = false := beq_eq_false_iff_ne.2 hk0'
            have HEQX := Lib.hid (HEQ.out hd)
            go_wp2_with (first
              | (go_at_call 94; (with_reducible refine CEX.out.mono ?_); rintro e w8 ⟨rfl, hb8⟩; have HZY : Hid (w8.heap[w.heap.size]? = some (.cells zeroC.val 41 (0, 0))) := (hb8.block _ (lt_of_heap HZX.out)).trans HZX.out; have HWY := Lib.hid (below2 HWX.out hb8); have HSY := Lib.hid (HSX.out.below hb8); have HLY := Lib.hid (HLX.out.below hb8); clear hb8)
              | (refine load_cmd rfl (.tmp 5) rfl gb rfl (c) HSY.out ?_)
              | (refine store_cmd rfl (.tmp 2) (.tmp 55) rfl rfl w.heap.size (c) zeroC rfl rfl HZY.out ?_))
            try simp only [Exit.inBlock, Exit.then]
            refine bodyPost_ret (v := .tuple #[.agg (c).val, .int .i64 0]) (ret_cmd rfl _ _ w.heap.size (c) _ rfl rfl (setRow_cmd _ HZY.out)) rfl ⟨c, by rw [HTV.out], by show Eqv _ _; rw [HTV.out]; exact HEQX.out, ⟨stks_setRow HLY.out.g (fun x hx => (HFG.out x hx).imp id Nat.ne_of_gt) _, stks_setRow HLY.out.w (fun x hx => (HFW.out x hx).imp id Nat.ne_of_gt) _⟩, ?_, fun x hx => (by rcases hx with ⟨h0, h⟩ | ⟨h0, h⟩ <;> first | exact (HFG.out x h).elim (fun e => absurd (List.length_eq_zero_iff.1 e) h0) Nat.le_of_lt | exact (HFW.out x h).elim (fun e => absurd (List.length_eq_zero_iff.1 e) h0) Nat.le_of_lt)⟩
            exact below_setRow HWY.out _ (Nat.le_refl _) _
end Cmd
end Go.Proofs.YtlhalhilnkneeaaGreatDoor
end
