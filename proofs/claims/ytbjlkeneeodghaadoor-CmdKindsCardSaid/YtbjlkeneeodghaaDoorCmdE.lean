/- A command's bytes: the program's walk. -/
import Derived.Test.YtbjlkeneeodghaaDoorCmdD
set_option linter.unusedSimpArgs false
set_option linter.unusedVariables false
namespace Go.Proofs.YtbjlkeneeodghaaDoor
open Go.RowKit Go.Great
namespace Cmd
open Pen (bs bs_append uintB intB I64)
open In (Strs)
open Rec (below2 below_al below_dN Stk Stks stkVals)
/-- The numbers' bytes at some places. -/
def numB (c : CmdIn) (l : List Nat) : List UInt8 := l.flatMap fun i => intB (c.num i)
theorem numB_succ (c : CmdIn) (l : List Nat) (k : Nat) (h : k < l.length) : numB c (l.take (k + 1)) = numB c (l.take k) ++ intB (c.num (l.getD k 0)) := by
  have e : l.take (k + 1) = l.take k ++ [l.getD k 0] := by
    rw [List.take_add_one]
    congr 1
    rw [List.getElem?_eq_getElem h, List.getD_eq_getElem?_getD, List.getElem?_eq_getElem h]
    rfl
  rw [e]
  simp [numB]
theorem numB_len (c : CmdIn) (l : List Nat) : (numB c l).length ≤ 10 * l.length := by
  induction l with
  | nil => simp [numB]
  | cons x l ih =>
    have e : numB c (x :: l) = intB (c.num x) ++ numB c l := by simp [numB]
    have h1 := Pen.intB_len (c.num x)
    rw [e, List.length_append, List.length_cons]
    omega
/-- A command's bytes. -/
def cmdB (c : CmdIn) : List UInt8 := uintB c.kind ++ numB c (fi c.kind) ++ (if c.kind = 14 then stkB c.gives ++ stkB c.wants else [])
/-- What Put answers. -/
def putV (c : CmdIn) : List UInt8 × Int := if chkV c = 0 then (cmdB c, 0) else ([], 1)
/-- All its numbers are numbers. -/
structure Cok (c : CmdIn) : Prop where
  kind : I64 c.kind
  num : ∀ i, i < 19 → I64 (c.num i)
  gives : Snum c.gives
  wants : Snum c.wants
  few : c.gives.length ≤ 100 ∧ c.wants.length ≤ 100
theorem fn_get (kind : Int) (k : Nat) (h : k < (fi kind).length) : (fn kind).getD k ByteArray.empty = nm ((fi kind).getD k 0) ∧ (fi kind).getD k 0 < 19 := by
  have e : (fi kind).getD k 0 = (fi kind)[k] := by rw [List.getD_eq_getElem?_getD, List.getElem?_eq_getElem h]; rfl
  refine ⟨?_, by rw [e]; exact fi_small kind _ (List.getElem_mem h)⟩
  unfold fn
  rw [e, List.getD_eq_getElem?_getD, List.getElem?_map, List.getElem?_eq_getElem h]
  rfl
theorem chkV_01 (c : CmdIn) : chkV c = 0 ∨ chkV c = 1 := by
  unfold chkV
  split
  · exact Or.inr rfl
  · split
    · exact Or.inr rfl
    · exact Or.inl rfl
theorem arr_0 (X Y : Value) (w : World) (hx : X.oneCell' = true) (hy : Y.oneCell' = true) : True := trivial
/-- The stacks of the k-th part. -/
def partL (c : CmdIn) (k : Nat) : List Stk := if k = 0 then c.gives else c.wants
def partsB (c : CmdIn) (k : Nat) : List UInt8 := if k = 0 then [] else if k = 1 then stkB c.gives else stkB c.gives ++ stkB c.wants
set_option maxRecDepth 100000 in
set_option maxHeartbeats 4000000 in
theorem put_any (c : CmdIn) (w : World) (ht : Tab w) (hl : Lies w c) (hc : Cok c) : Calls Tryd.prog 9 #[.agg c.val] w fun e w' => e = .returned (.tuple #[.string (bs (putV c).1), .int .i64 (putV c).2]) ∧ Below w.heap.size w w' := by
  have HT := Lib.hid ht
  have HL := Lib.hid hl
  have HC := Lib.hid hc
  have hk2 : c.kind ≤ 9223372036854775807 := hc.kind.2
  have HST := Lib.hid (stand_new (w := w) rfl c)
  have CK : Hid (∀ W, Tab W → Calls Tryd.prog 14 #[.agg c.val] W fun e w' => e = .returned (.int .i64 (chkV c)) ∧ Below W.heap.size W w') := fun W h => check_any c W h hc.few
  have CF : Hid (∀ W, Tab W → Calls Tryd.prog 21 #[.int .i64 c.kind] W (Gives (fn c.kind) W)) := fun W h => fields_any c.kind W h
  have CD : Hid (∀ g i W, i < 19 → Calls Tryd.prog 29 #[.pointer (some ⟨g, 0, none⟩), .string (nm i)] W fun e w' => e = .returned (.pointer (some ⟨g, 1 + i, none⟩)) ∧ W = w') := fun g i W hi => by have := field_any g (nm i) W; rw [place_nm hi] at this; exact this
  have CU : Hid (∀ x : Int, x ≤ 9223372036854775807 → ∀ W, Calls Tryd.prog 27 #[.int .i64 x] W fun e w' => e = .returned (.string (bs (uintB x))) ∧ Below W.heap.size W w') := fun x hx W => Pen.uint_any x hx W
  have CI : Hid (∀ x, I64 x → ∀ W, Calls Tryd.prog 28 #[.int .i64 x] W fun e w' => e = .returned (.string (bs (intB x))) ∧ Below W.heap.size W w') := fun x hx W => Pen.int_any x hx W
  clear ht hl hc
  rcases chkV_01 c with h0 | h1
  · have HV : Hid (putV c = (cmdB c, 0)) := by show _ = _; unfold putV; rw [if_pos h0]
    rw [HV.out]
    rw [h0] at CK
    clear h0 HV
    go_enter Tryd.func9, Tryd.ntmps9
    go_upto_region 1 with fail
    apply wp_region_lit
    refine load_cmd rfl (.tmp 1) rfl w.heap.size rfl c HST.out ?_
    obtain ⟨m, hm⟩ : ∃ m, Hid ((fn c.kind).length = m) := ⟨_, rfl⟩
    have HFI : Hid ((fi c.kind).length = m) := by show _ = _; have := hm.out; unfold fn at this; rwa [List.length_map] at this
    have hm1 : m ≤ 11 := by rw [← HFI.out]; exact fi_len c.kind
    go_wp2_with (first
      | (go_at_call 14; (with_reducible refine (CK.out _ (HT.out.below (below_al (Below.refl _ _) _))).mono ?_); rintro e w1 ⟨rfl, hb1⟩; have HB1 := Lib.hid hb1; clear hb1; have HS1 := Lib.hid (HST.out.below HB1.out); have HW1 := Lib.hid (below2 (below_al (Below.refl w.heap.size w) _) HB1.out); obtain ⟨b0, -, -⟩ := HS1.out.three)
      | (go_at_call 27; (with_reducible refine (CU.out _ hk2 _).mono ?_); rintro e w2 ⟨rfl, hb2⟩; have HB2 := Lib.hid hb2; clear hb2; have HS2 := Lib.hid (HS1.out.below HB2.out); have HW2 := Lib.hid (below2 HW1.out HB2.out); obtain ⟨p0, -, -⟩ := HS2.out.three)
      | (go_at_call 21; (with_reducible refine (CF.out _ (HT.out.below HW2.out)).mono ?_); rintro e w3 ⟨a3, k3, rfl, HF3, HB3, -⟩; rw [hm.out]; have HS3 := Lib.hid (HS2.out.below HB3.out); have HW3 := Lib.hid (below2 HW2.out HB3.out)))
    have HS0 : Hid (bs (uintB c.kind) = bs (uintB c.kind ++ numB c ((fi c.kind).take 0))) := by show _ = _; simp [numB]
    have HSS : Hid (∀ k, k < m → uintB c.kind ++ numB c ((fi c.kind).take (k + 1)) = (uintB c.kind ++ numB c ((fi c.kind).take k)) ++ intB (c.num ((fi c.kind).getD k 0))) := fun k hk => by rw [numB_succ c (fi c.kind) k (by rw [HFI.out]; exact hk)]; simp
    have HSE : Hid (uintB c.kind ++ numB c ((fi c.kind).take m) = uintB c.kind ++ numB c (fi c.kind)) := by show _ = _; rw [← HFI.out, List.take_length]
    have HSL : Hid (∀ k, k ≤ m → (uintB c.kind ++ numB c ((fi c.kind).take k)).length ≤ 300) := fun k hk => by
      have h1 := uintB_len c.kind
      have h2 := numB_len c ((fi c.kind).take k)
      rw [List.length_take] at h2
      rw [List.length_append]
      omega
    go_loopw [5, 24] (fun s i wr => ∃ k : Nat, k ≤ m ∧ i = .int .i64 k ∧ s = .string (bs (uintB c.kind ++ numB c ((fi c.kind).take k))) ∧ Hid (Below w3.heap.size w3 wr)) (fun _ i _ => m - (intOf i).toNat)
    case atStart => exact ⟨0, by omega, rfl, by rw [← HS0.out], Below.refl _ _⟩
    case round =>
      obtain ⟨k, hk, rfl, rfl, hb⟩ := hrel
      by_cases hlt : k < m
      · obtain ⟨b2, off2, rfl, hbl2, hc2⟩ := (Strs.below HF3.out hb.out) k (by rw [hm.out]; exact hlt)
        obtain ⟨e1, hi19⟩ := fn_get c.kind k (by rw [HFI.out]; exact hlt)
        rw [e1] at hc2
        have cx := (HS3.out.below hb.out).num _ hi19
        have HI := Lib.hid (HC.out.num _ hi19)
        have HX := Lib.hid (HSS.out k hlt)
        have hlen := HSL.out k hk
        clear e1
        have hlt1 : (k : Int) < (m : Int) := by omega
        have d1 : decide ((k : Int) < (m : Int)) = true := decide_eq_true hlt1
        have hk0 : (0 : Int) ≤ k := by omega
        generalize (fi c.kind).getD k 0 = I at *
        generalize uintB c.kind ++ numB c ((fi c.kind).take k) = S at *
        have q1 := bs_append S (intB (c.num I))
        have z1 := fits (A := S) (B := intB (c.num I)) (by omega) (by have := Pen.intB_len (c.num I); omega)
        clear hlen
        generalize c.num I = X at *
        go_wp2_with (first
          | (go_at_call 29; (with_reducible refine (CD.out _ I _ hi19).mono ?_); rintro e w4 ⟨rfl, rfl⟩)
          | (go_at_call 28; (with_reducible refine (CI.out X HI.out _).mono ?_); rintro e w5 ⟨rfl, HB5⟩))
        go_roundw
        case rel => exact ⟨k + 1, by omega, by go_num, by rw [HX.out], below2 hb.out HB5⟩
        case measure => simp [intOf]; omega
      · have hke : k = m := by omega
        have n1 : ¬ (k : Int) < (m : Int) := by omega
        have d1 : decide ((k : Int) < (m : Int)) = false := decide_eq_false n1
        subst hke
        have HWr := Lib.hid (HW3.out.trans (hb.out.mono HW3.out.size))
        have HSr := Lib.hid (HS3.out.below hb.out)
        have HLr := Lib.hid (HL.out.below HWr.out)
        obtain ⟨b0', b20, b21⟩ := HSr.out.three
        rw [HSE.out]
        have hlen := HSL.out k (Nat.le_refl _)
        rw [HSE.out] at hlen
        by_cases h14 : c.kind = 14
        · have d14 : (c.kind != 14) = false := by rw [h14]; rfl
          have HR : Hid (cmdB c = uintB c.kind ++ numB c (fi c.kind) ++ (stkB c.gives ++ stkB c.wants)) := by show _ = _; unfold cmdB; rw [if_pos h14]
          generalize uintB c.kind ++ numB c (fi c.kind) = P at *
          clear h14
          go_wp2
          go_loopw [5, 45] (fun s i wq => ∃ k : Nat, k ≤ 2 ∧ i = .int .i64 k ∧ s = .string (bs (P ++ partsB c k)) ∧ Hid (Below wr.heap.size wr wq)) (fun _ i _ => 2 - (intOf i).toNat)
          case atStart => exact ⟨0, by omega, rfl, by rw [show partsB c 0 = [] from rfl, List.append_nil], Below.refl _ _⟩
          case round =>
            obtain ⟨j, hj, rfl, rfl, hbq⟩ := hrel
            by_cases hlt2 : j < 2
            · have HLq := Lib.hid (HLr.out.below hbq.out)
              have hpart : ∃ (l : List Stk) (a : Option Addr) (cc n : Nat), Hid (l.length = n) ∧ n ≤ 100 ∧ Hid (Snum l) ∧ Hid (Stks wr a l) ∧ Hid (∀ w, Sem.run Tryd.prog (Instr.index 50 (.agg #[.slice c.ga c.gives.length c.gc, .slice c.wa c.wants.length c.wc]) (.int .i64 (j : Int))) w = Result.ok (.slice a n cc) w) ∧ Hid (P ++ partsB c (j + 1) = P ++ partsB c j ++ uintB n ++ stksB l) ∧ (partsB c j).length ≤ 3000 := by
                match j, hlt2 with
                | 0, _ => exact ⟨c.gives, c.ga, c.gc, c.gives.length, rfl, HC.out.few.1, HC.out.gives, HLq.out.g, fun w => by kernel_rfl, by show _ = _; simp [partsB, stkB], by simp [partsB]⟩
                | 1, _ => exact ⟨c.wants, c.wa, c.wc, c.wants.length, rfl, HC.out.few.2, HC.out.wants, HLq.out.w, fun w => by kernel_rfl, by show _ = _; simp [partsB, stkB], by have h1 := uintB_len c.gives.length; have h2 := stksB_len c.gives; have h3 := HC.out.few.1; show (stkB c.gives).length ≤ 3000; unfold stkB; rw [List.length_append]; omega⟩
              obtain ⟨l, a, cc, n, HN, hn, HI, HA, HIX, HPE, hpl⟩ := hpart
              have hix := HIX.out
              have hltj : (j : Int) < 2 := by omega
              have dj : decide ((j : Int) < 2) = true := decide_eq_true hltj
              have hn63 : (n : Int) ≤ 9223372036854775807 := by omega
              have hSl : (P ++ partsB c j).length ≤ 3300 := by rw [List.length_append]; omega
              clear hpl
              generalize P ++ partsB c j = S at *
              have q1 := bs_append S (uintB n)
              have z1 := fits (A := S) (B := uintB n) (by omega) (by have := uintB_len n; omega)
              have hS2l : (S ++ uintB n).length ≤ 3310 := by have := uintB_len n; rw [List.length_append]; omega
              go_wp2_with (go_at_call 27; (with_reducible refine (CU.out _ hn63 _).mono ?_); rintro e w4 ⟨rfl, hb4⟩; have HB4 := Lib.hid hb4; clear hb4)
              have HA4 := Lib.hid (Stks.below HA.out HB4.out)
              have HS0' : Hid (bs (S ++ uintB n) = bs (S ++ uintB n ++ stksB (l.take 0))) := by show _ = _; simp [stksB]
              have HSS' : Hid (∀ k, k < n → S ++ uintB n ++ stksB (l.take (k + 1)) = (S ++ uintB n ++ stksB (l.take k)) ++ (intB (l.getD k (0, 0)).1 ++ intB (l.getD k (0, 0)).2)) := fun k hk => by rw [stksB_succ l k (by rw [HN.out]; exact hk)]; simp
              have HSE' : Hid (S ++ uintB n ++ stksB (l.take n) = S ++ uintB n ++ stksB l) := by show _ = _; rw [← HN.out, List.take_length]
              have HSL' : Hid (∀ k, k ≤ n → (S ++ uintB n ++ stksB (l.take k)).length ≤ 6000) := fun k hk => by
                have h2 := stksB_len (l.take k)
                rw [List.length_take] at h2
                rw [List.length_append]
                omega
              go_loopw [5, 55] (fun s i wz => ∃ q : Nat, q ≤ n ∧ i = .int .i64 q ∧ s = .string (bs (S ++ uintB n ++ stksB (l.take q))) ∧ Hid (Below w4.heap.size w4 wz)) (fun _ i _ => n - (intOf i).toNat)
              case atStart => exact ⟨0, by omega, rfl, by rw [← HS0'.out], Below.refl _ _⟩
              case round =>
                obtain ⟨q, hq, rfl, rfl, hbz⟩ := hrel
                by_cases hltq : q < n
                · obtain ⟨b, off, rfl, hbl, hc, hd⟩ := (Stks.below HA4.out hbz.out) q (by rw [HN.out]; exact hltq)
                  obtain ⟨i1, i2⟩ := HI.out q (by rw [HN.out]; exact hltq)
                  have HX' := Lib.hid (HSS'.out q hltq)
                  have hlen := HSL'.out q hq
                  have HI1 := Lib.hid i1
                  have HI2 := Lib.hid i2
                  clear i1 i2
                  have hlt1 : (q : Int) < (n : Int) := by omega
                  have d1 : decide ((q : Int) < (n : Int)) = true := decide_eq_true hlt1
                  have hk0 : (0 : Int) ≤ q := by omega
                  generalize (l.getD q (0, 0)).1 = X at *
                  generalize (l.getD q (0, 0)).2 = Y at *
                  generalize S ++ uintB n ++ stksB (l.take q) = R at *
                  have q3 := bs_append (intB X) (intB Y)
                  have q4 := bs_append R (intB X ++ intB Y)
                  have z3 := fits (A := intB X) (B := intB Y) (by have := Pen.intB_len X; omega) (by have := Pen.intB_len Y; omega)
                  have z4 := fits (A := R) (B := intB X ++ intB Y) (by omega) (by have := Pen.intB_len X; have := Pen.intB_len Y; rw [List.length_append]; omega)
                  clear hlen
                  go_wp2
                  refine wp_named fun WX hWX => ?_
                  have hH0 : WX.drew.cell? ⟨wr.heap.size, 0, none⟩ = some (.int .i64 X) ∧ WX.drew.cell? ⟨wr.heap.size, 1, none⟩ = some (.int .i64 Y) := by rw [hWX]; constructor <;> simp [go_sem]
                  have HBX : Hid (Below wr.heap.size wr WX) := by rw [hWX]; exact below_al (Below.refl _ _) _
                  have hbl' : wr.heap.size < WX.drew.heap.size := by rw [hWX]; simp
                  clear hWX
                  refine Ord.wp_region_U (fun W' => W'.cell? ⟨wr.heap.size, 0, none⟩ = some (.int .i64 X) ∧ W'.cell? ⟨wr.heap.size, 1, none⟩ = some (.int .i64 Y)) [] (by kernel_rfl) ?_
                  have hHeld := hH0
                  refine Ord.wpAnyU_take (i := 0) (v := ?_) rfl (by kernel_rfl) (by kernel_rfl) (by kernel_rfl) (by kernel_rfl) (by kernel_rfl) (by kernel_rfl) (by kernel_rfl) (fun _ _ _ h => h) (Or.inl ⟨by rfl, ?_⟩) hHeld ?_
                  rotate_left
                  · intro w hSw; (try dsimp only at hSw); go_simp; (try with_reducible rfl)
                  try simp only [Act.put, List.setIfInBounds_toArray, List.set_cons_zero, List.set_cons_succ]
                  refine Ord.wpAnyU_take (i := 1) (v := ?_) rfl (by kernel_rfl) (by kernel_rfl) (by kernel_rfl) (by kernel_rfl) (by kernel_rfl) (by kernel_rfl) (by kernel_rfl) (fun _ _ _ h => h) (Or.inl ⟨by rfl, ?_⟩) hHeld ?_
                  rotate_left
                  · intro w hSw; (try dsimp only at hSw); go_simp; (try with_reducible rfl)
                  try simp only [Act.put, List.setIfInBounds_toArray, List.set_cons_zero, List.set_cons_succ]
                  refine Ord.wpAnyU_take (i := 2) (v := ?_) rfl (by kernel_rfl) (by kernel_rfl) (by kernel_rfl) (by kernel_rfl) (by kernel_rfl) (by kernel_rfl) (by kernel_rfl) (fun _ _ _ h => h) (Or.inl ⟨by rfl, ?_⟩) hHeld ?_
                  rotate_left
                  · intro w hSw; (try dsimp only at hSw); go_simp; (try with_reducible rfl)
                  try simp only [Act.put, List.setIfInBounds_toArray, List.set_cons_zero, List.set_cons_succ]
                  refine Ord.wpAnyU_take (i := 4) (v := ?_) rfl (by kernel_rfl) (by kernel_rfl) (by kernel_rfl) (by kernel_rfl) (by kernel_rfl) (by kernel_rfl) (by kernel_rfl) (fun _ _ _ h => h) (Or.inl ⟨by rfl, ?_⟩) hHeld ?_
                  rotate_left
                  · intro w hSw; (try dsimp only at hSw); go_simp; (try with_reducible rfl)
                  try simp only [Act.put, List.setIfInBounds_toArray, List.set_cons_zero, List.set_cons_succ]
                  refine Ord.wpAnyU_take (i := 5) (v := ?_) rfl (by kernel_rfl) (by kernel_rfl) (by kernel_rfl) (by kernel_rfl) (by kernel_rfl) (by kernel_rfl) (by kernel_rfl) (fun _ _ _ h => h) (Or.inl ⟨by rfl, ?_⟩) hHeld ?_
                  rotate_left
                  · intro w hSw; (try dsimp only at hSw); go_simp; (try with_reducible rfl)
                  try simp only [Act.put, List.setIfInBounds_toArray, List.set_cons_zero, List.set_cons_succ]
                  refine Ord.wpAnyU_one (i := 3) (by kernel_rfl) rfl (fun K hK => ?_)
                  go_simp
                  go_wp2_with ((go_at_call 28; (with_reducible refine (CI.out X HI1.out _).mono ?_); rintro e w5 ⟨rfl, hb5⟩; have HB5 := Lib.hid hb5; clear hb5; have hs5 : _ ∧ _ := ⟨(HB5.out.cell (p := ⟨wr.heap.size, 0, none⟩) hbl').trans hH0.1, (HB5.out.cell (p := ⟨wr.heap.size, 1, none⟩) hbl').trans hH0.2⟩; have hl5 : wr.heap.size < w5.heap.size := Nat.lt_of_lt_of_le hbl' HB5.out.size))
                  refine hK.out _ _ (fun _ => hs5) ?_
                  clear hK K
                  try simp only [Act.put, List.setIfInBounds_toArray, List.set_cons_zero, List.set_cons_succ]
                  refine Ord.wpAnyU_one (i := 6) (by kernel_rfl) rfl (fun K hK => ?_)
                  go_simp
                  go_wp2_with ((go_at_call 28; (with_reducible refine (CI.out Y HI2.out _).mono ?_); rintro e w6 ⟨rfl, hb6⟩; have HB6 := Lib.hid hb6; clear hb6; have hs6 : _ ∧ _ := ⟨(HB6.out.cell (p := ⟨wr.heap.size, 0, none⟩) hl5).trans hs5.1, (HB6.out.cell (p := ⟨wr.heap.size, 1, none⟩) hl5).trans hs5.2⟩; have hl6 : wr.heap.size < w6.heap.size := Nat.lt_of_lt_of_le hl5 HB6.out.size))
                  refine hK.out _ _ (fun _ => hs6) ?_
                  clear hK K
                  try simp only [Act.put, List.setIfInBounds_toArray, List.set_cons_zero, List.set_cons_succ]
                  refine Ord.wpAnyU_one (i := 7) (by kernel_rfl) rfl (fun K hK => ?_)
                  go_simp
                  refine hK.out _ _ (fun _ => hs6) ?_
                  clear hK K
                  try simp only [Act.put, List.setIfInBounds_toArray, List.set_cons_zero, List.set_cons_succ]
                  refine Ord.wpAnyU_one (i := 8) (by kernel_rfl) rfl (fun K hK => ?_)
                  go_simp
                  refine hK.out _ _ (fun _ => hs6) ?_
                  clear hK K
                  try simp only [Act.put, List.setIfInBounds_toArray, List.set_cons_zero, List.set_cons_succ]
                  refine Ord.wpAnyU_one (i := 9) (by kernel_rfl) rfl (fun K hK => ?_)
                  go_simp
                  refine hK.out _ _ (fun _ => hs6) ?_
                  clear hK K
                  try simp only [Act.put, List.setIfInBounds_toArray, List.set_cons_zero, List.set_cons_succ]
                  refine Ord.wpAnyU_done (by kernel_rfl) ?_ _
                  go_wp2
                  go_roundw
                  case rel => exact ⟨q + 1, by omega, by go_num, by rw [HX'.out], below2 hbz.out (below2 (below_dN HBX.out 1) (below2 HB5.out HB6.out))⟩
                  case measure => simp [intOf]; omega
                · have hqe : q = n := by omega
                  have n2 : ¬ (q : Int) < (n : Int) := by omega
                  have d2 : decide ((q : Int) < (n : Int)) = false := decide_eq_false n2
                  subst hqe
                  go_wp2
                  go_roundw
                  case rel => exact ⟨j + 1, by omega, by go_num, by rw [HPE.out, HSE'.out], below2 hbq.out (below2 HB4.out hbz.out)⟩
                  case measure => simp [intOf]; omega
            · have hje : j = 2 := by omega
              have n2 : ¬ (j : Int) < 2 := by omega
              have d2 : decide ((j : Int) < 2) = false := decide_eq_false n2
              have HR2 : Hid (P ++ partsB c j = cmdB c) := by show _ = _; rw [hje, HR.out]; rfl
              clear hje
              go_wp2
              go_ret2
              exact ⟨by rw [← HR2.out]; rfl, below2 HWr.out hbq.out⟩
        · have d14 : (c.kind != 14) = true := bne_iff_ne.2 h14
          have HR : Hid (cmdB c = uintB c.kind ++ numB c (fi c.kind)) := by show _ = _; unfold cmdB; rw [if_neg h14, List.append_nil]
          go_wp2
          go_ret2
          exact ⟨by rw [HR.out]; rfl, HWr.out⟩
  · have HV : Hid (putV c = ([], 1)) := by show _ = _; unfold putV; rw [if_neg (by rw [h1]; decide)]
    rw [HV.out]
    rw [h1] at CK
    clear h1 HV
    go_enter Tryd.func9, Tryd.ntmps9
    go_upto_region 1 with fail
    apply wp_region_lit
    refine load_cmd rfl (.tmp 1) rfl w.heap.size rfl c HST.out ?_
    go_wp2_with (go_at_call 14; (with_reducible refine (CK.out _ (HT.out.below (below_al (Below.refl _ _) _))).mono ?_); rintro e w1 ⟨rfl, hb1⟩; have HB1 := Lib.hid hb1; clear hb1)
    all_goals go_ret2
    all_goals exact ⟨rfl, below2 (below_al (Below.refl w.heap.size w) _) HB1.out⟩
end Cmd
end Go.Proofs.YtbjlkeneeodghaaDoor
