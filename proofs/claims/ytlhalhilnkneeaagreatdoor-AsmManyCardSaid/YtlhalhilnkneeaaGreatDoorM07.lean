/- Texts put together: CmdE, CmdH, CmdI, CmdL. -/
import Derived.Test.YtlhalhilnkneeaaGreatDoorM06
import Derived.Deep.RegionLaw
import Derived.Deep.AppendLies
set_option linter.all false
section
namespace Go.Proofs.YtlhalhilnkneeaaGreatDoor
open Go.RowKit Go.Great
namespace Cmd
open Pen (bs bs_append uintB intB I64)
open In (Strs)
open Rec (below2 below_al below_dN Stk Stks stkVals)
/-- The numbers' bytes at some places. -/
def numB (c : CmdIn) (l : List Nat) : List UInt8 := l.flatMap fun i => intB (c.num i)
theorem numB_succ (c : CmdIn) (l : List Nat) (k : Nat) (h : k < l.length) : numB c (l.take (k + 1)) = numB c (l.take k) ++ intB (c.num (l.getD k 0)) := by
  have e : l.take (k + 1) = l.take k ++ [l.getD k 0] := by
    rw [List.take_add_one]
    congr 1
    rw [List.getElem?_eq_getElem h, List.getD_eq_getElem?_getD, List.getElem?_eq_getElem h]
    rfl
  rw [e]
  simp [numB]
theorem numB_len (c : CmdIn) (l : List Nat) : (numB c l).length ≤ 10 * l.length := by
  induction l with
  | nil => simp [numB]
  | cons x l ih =>
    have e : numB c (x :: l) = intB (c.num x) ++ numB c l := by simp [numB]
    have h1 := Pen.intB_len (c.num x)
    rw [e, List.length_append, List.length_cons]
    omega
/-- A command's bytes. -/
def cmdB (c : CmdIn) : List UInt8 := uintB c.kind ++ numB c (fi c.kind) ++ (if c.kind = 14 then stkB c.gives ++ stkB c.wants else [])
/-- What Put answers. -/
def putV (c : CmdIn) : List UInt8 × Int := if chkV c = 0 then (cmdB c, 0) else ([], 1)
/-- All its numbers are numbers. -/
structure Cok (c : CmdIn) : Prop where
  kind : I64 c.kind
  num : ∀ i, i < 19 → I64 (c.num i)
  gives : Snum c.gives
  wants : Snum c.wants
  few : c.gives.length ≤ 100 ∧ c.wants.length ≤ 100
theorem fn_get (kind : Int) (k : Nat) (h : k < (fi kind).length) : (fn kind).getD k ByteArray.empty = nm ((fi kind).getD k 0) ∧ (fi kind).getD k 0 < 19 := by
  have e : (fi kind).getD k 0 = (fi kind)[k] := by rw [List.getD_eq_getElem?_getD, List.getElem?_eq_getElem h]; rfl
  refine ⟨?_, by rw [e]; exact fi_small kind _ (List.getElem_mem h)⟩
  unfold fn
  rw [e, List.getD_eq_getElem?_getD, List.getElem?_map, List.getElem?_eq_getElem h]
  rfl
theorem chkV_01 (c : CmdIn) : chkV c = 0 ∨ chkV c = 1 := by
  unfold chkV
  split
  · exact Or.inr rfl
  · split
    · exact Or.inr rfl
    · exact Or.inl rfl
theorem arr_0 (X Y : Value) (w : World) (hx : X.oneCell' = true) (hy : Y.oneCell' = true) : True := trivial
/-- The stacks of the k-th part. -/
def partL (c : CmdIn) (k : Nat) : List Stk := if k = 0 then c.gives else c.wants
def partsB (c : CmdIn) (k : Nat) : List UInt8 := if k = 0 then [] else if k = 1 then stkB c.gives else stkB c.gives ++ stkB c.wants
set_option maxRecDepth 100000 in
set_option maxHeartbeats 4000000 in
theorem put_any (c : CmdIn) (w : World) (ht : Tab w) (hl : Lies w c) (hc : Cok c) : Calls Tryz.prog 35 #[.agg c.val] w fun e w' => e = .returned (.tuple #[.string (bs (putV c).1), .int .i64 (putV c).2]) ∧ Below w.heap.size w w' := by
  have HT := Lib.hid ht
  have HL := Lib.hid hl
  have HC := Lib.hid hc
  have hk2 : c.kind ≤ 9223372036854775807 := hc.kind.2
  have HST := Lib.hid (stand_new (w := w) rfl c)
  have CK : Hid (∀ W, Tab W → Calls Tryz.prog 63 #[.agg c.val] W fun e w' => e = .returned (.int .i64 (chkV c)) ∧ Below W.heap.size W w') := fun W h => check_any c W h hc.few
  have CF : Hid (∀ W, Tab W → Calls Tryz.prog 65 #[.int .i64 c.kind] W (Gives (fn c.kind) W)) := fun W h => fields_any c.kind W h
  have CD : Hid (∀ g i W, i < 19 → Calls Tryz.prog 74 #[.pointer (some ⟨g, 0, none⟩), .string (nm i)] W fun e w' => e = .returned (.pointer (some ⟨g, 1 + i, none⟩)) ∧ W = w') := fun g i W hi => by have := field_any g (nm i) W; rw [place_nm hi] at this; exact this
  have CU : Hid (∀ x : Int, x ≤ 9223372036854775807 → ∀ W, Calls Tryz.prog 72 #[.int .i64 x] W fun e w' => e = .returned (.string (bs (uintB x))) ∧ Below W.heap.size W w') := fun x hx W => Pen.uint_any x hx W
  have CI : Hid (∀ x, I64 x → ∀ W, Calls Tryz.prog 73 #[.int .i64 x] W fun e w' => e = .returned (.string (bs (intB x))) ∧ Below W.heap.size W w') := fun x hx W => Pen.int_any x hx W
  clear ht hl hc
  rcases chkV_01 c with h0 | h1
  · have HV : Hid (putV c = (cmdB c, 0)) := by show _ = _; unfold putV; rw [if_pos h0]
    rw [HV.out]
    rw [h0] at CK
    clear h0 HV
    go_enter Tryz.func35, Tryz.ntmps35
    go_upto_region 1 with fail
    apply wp_region_lit
    refine load_cmd rfl (.tmp 1) rfl w.heap.size rfl c HST.out ?_
    obtain ⟨m, hm⟩ : ∃ m, Hid ((fn c.kind).length = m) := ⟨_, rfl⟩
    have HFI : Hid ((fi c.kind).length = m) := by show _ = _; have := hm.out; unfold fn at this; rwa [List.length_map] at this
    have hm1 : m ≤ 11 := by rw [← HFI.out]; exact fi_len c.kind
    go_wp2_with (first
      | (go_at_call 63; (with_reducible refine (CK.out _ (HT.out.below (below_al (Below.refl _ _) _))).mono ?_); rintro e w1 ⟨rfl, hb1⟩; have HB1 := Lib.hid hb1; clear hb1; have HS1 := Lib.hid (HST.out.below HB1.out); have HW1 := Lib.hid (below2 (below_al (Below.refl w.heap.size w) _) HB1.out); obtain ⟨b0, -, -⟩ := HS1.out.three)
      | (go_at_call 72; (with_reducible refine (CU.out _ hk2 _).mono ?_); rintro e w2 ⟨rfl, hb2⟩; have HB2 := Lib.hid hb2; clear hb2; have HS2 := Lib.hid (HS1.out.below HB2.out); have HW2 := Lib.hid (below2 HW1.out HB2.out); obtain ⟨p0, -, -⟩ := HS2.out.three)
      | (go_at_call 65; (with_reducible refine (CF.out _ (HT.out.below HW2.out)).mono ?_); rintro e w3 ⟨a3, k3, rfl, HF3, HB3, -⟩; rw [hm.out]; have HS3 := Lib.hid (HS2.out.below HB3.out); have HW3 := Lib.hid (below2 HW2.out HB3.out)))
    have HS0 : Hid (bs (uintB c.kind) = bs (uintB c.kind ++ numB c ((fi c.kind).take 0))) := by show _ = _; simp [numB]
    have HSS : Hid (∀ k, k < m → uintB c.kind ++ numB c ((fi c.kind).take (k + 1)) = (uintB c.kind ++ numB c ((fi c.kind).take k)) ++ intB (c.num ((fi c.kind).getD k 0))) := fun k hk => by rw [numB_succ c (fi c.kind) k (by rw [HFI.out]; exact hk)]; simp
    have HSE : Hid (uintB c.kind ++ numB c ((fi c.kind).take m) = uintB c.kind ++ numB c (fi c.kind)) := by show _ = _; rw [← HFI.out, List.take_length]
    have HSL : Hid (∀ k, k ≤ m → (uintB c.kind ++ numB c ((fi c.kind).take k)).length ≤ 300) := fun k hk => by
      have h1 := uintB_len c.kind
      have h2 := numB_len c ((fi c.kind).take k)
      rw [List.length_take] at h2
      rw [List.length_append]
      omega
    go_loopw [5, 24] (fun s i wr => ∃ k : Nat, k ≤ m ∧ i = .int .i64 k ∧ s = .string (bs (uintB c.kind ++ numB c ((fi c.kind).take k))) ∧ Hid (Below w3.heap.size w3 wr)) (fun _ i _ => m - (intOf i).toNat)
    case atStart => exact ⟨0, by omega, rfl, by rw [← HS0.out], Below.refl _ _⟩
    case round =>
      obtain ⟨k, hk, rfl, rfl, hb⟩ := hrel
      by_cases hlt : k < m
      · obtain ⟨b2, off2, rfl, hbl2, hc2⟩ := (Strs.below HF3.out hb.out) k (by rw [hm.out]; exact hlt)
        obtain ⟨e1, hi19⟩ := fn_get c.kind k (by rw [HFI.out]; exact hlt)
        rw [e1] at hc2
        have cx := (HS3.out.below hb.out).num _ hi19
        have HI := Lib.hid (HC.out.num _ hi19)
        have HX := Lib.hid (HSS.out k hlt)
        have hlen := HSL.out k hk
        clear e1
        have hlt1 : (k : Int) < (m : Int) := by omega
        have d1 : decide ((k : Int) < (m : Int)) = true := decide_eq_true hlt1
        have hk0 : (0 : Int) ≤ k := by omega
        generalize (fi c.kind).getD k 0 = I at *
        generalize uintB c.kind ++ numB c ((fi c.kind).take k) = S at *
        have q1 := bs_append S (intB (c.num I))
        have z1 := fits (A := S) (B := intB (c.num I)) (by omega) (by have := Pen.intB_len (c.num I); omega)
        clear hlen
        generalize c.num I = X at *
        go_wp2_with (first
          | (go_at_call 74; (with_reducible refine (CD.out _ I _ hi19).mono ?_); rintro e w4 ⟨rfl, rfl⟩)
          | (go_at_call 73; (with_reducible refine (CI.out X HI.out _).mono ?_); rintro e w5 ⟨rfl, HB5⟩))
        go_roundw
        case rel => exact ⟨k + 1, by omega, by go_num, by rw [HX.out], below2 hb.out HB5⟩
        case measure => simp [intOf]; omega
      · have hke : k = m := by omega
        have n1 : ¬ (k : Int) < (m : Int) := by omega
        have d1 : decide ((k : Int) < (m : Int)) = false := decide_eq_false n1
        subst hke
        have HWr := Lib.hid (HW3.out.trans (hb.out.mono HW3.out.size))
        have HSr := Lib.hid (HS3.out.below hb.out)
        have HLr := Lib.hid (HL.out.below HWr.out)
        obtain ⟨b0', b20, b21⟩ := HSr.out.three
        rw [HSE.out]
        have hlen := HSL.out k (Nat.le_refl _)
        rw [HSE.out] at hlen
        by_cases h14 : c.kind = 14
        · have d14 : (c.kind != 14) = false := by rw [h14]; rfl
          have HR : Hid (cmdB c = uintB c.kind ++ numB c (fi c.kind) ++ (stkB c.gives ++ stkB c.wants)) := by show _ = _; unfold cmdB; rw [if_pos h14]
          generalize uintB c.kind ++ numB c (fi c.kind) = P at *
          clear h14
          go_wp2
          go_loopw [5, 45] (fun s i wq => ∃ k : Nat, k ≤ 2 ∧ i = .int .i64 k ∧ s = .string (bs (P ++ partsB c k)) ∧ Hid (Below wr.heap.size wr wq)) (fun _ i _ => 2 - (intOf i).toNat)
          case atStart => exact ⟨0, by omega, rfl, by rw [show partsB c 0 = [] from rfl, List.append_nil], Below.refl _ _⟩
          case round =>
            obtain ⟨j, hj, rfl, rfl, hbq⟩ := hrel
            by_cases hlt2 : j < 2
            · have HLq := Lib.hid (HLr.out.below hbq.out)
              have hpart : ∃ (l : List Stk) (a : Option Addr) (cc n : Nat), Hid (l.length = n) ∧ n ≤ 100 ∧ Hid (Snum l) ∧ Hid (Stks wr a l) ∧ Hid (∀ w, Sem.run Tryz.prog (Instr.index 104 (.agg #[.slice c.ga c.gives.length c.gc, .slice c.wa c.wants.length c.wc]) (.int .i64 (j : Int))) w = Result.ok (.slice a n cc) w) ∧ Hid (P ++ partsB c (j + 1) = P ++ partsB c j ++ uintB n ++ stksB l) ∧ (partsB c j).length ≤ 3000 := by
                match j, hlt2 with
                | 0, _ => exact ⟨c.gives, c.ga, c.gc, c.gives.length, rfl, HC.out.few.1, HC.out.gives, HLq.out.g, fun w => by kernel_rfl, by show _ = _; simp [partsB, stkB], by simp [partsB]⟩
                | 1, _ => exact ⟨c.wants, c.wa, c.wc, c.wants.length, rfl, HC.out.few.2, HC.out.wants, HLq.out.w, fun w => by kernel_rfl, by show _ = _; simp [partsB, stkB], by have h1 := uintB_len c.gives.length; have h2 := stksB_len c.gives; have h3 := HC.out.few.1; show (stkB c.gives).length ≤ 3000; unfold stkB; rw [List.length_append]; omega⟩
              obtain ⟨l, a, cc, n, HN, hn, HI, HA, HIX, HPE, hpl⟩ := hpart
              have hix := HIX.out
              have hltj : (j : Int) < 2 := by omega
              have dj : decide ((j : Int) < 2) = true := decide_eq_true hltj
              have hn63 : (n : Int) ≤ 9223372036854775807 := by omega
              have hSl : (P ++ partsB c j).length ≤ 3300 := by rw [List.length_append]; omega
              clear hpl
              generalize P ++ partsB c j = S at *
              have q1 := bs_append S (uintB n)
              have z1 := fits (A := S) (B := uintB n) (by omega) (by have := uintB_len n; omega)
              have hS2l : (S ++ uintB n).length ≤ 3310 := by have := uintB_len n; rw [List.length_append]; omega
              go_wp2_with (go_at_call 72; (with_reducible refine (CU.out _ hn63 _).mono ?_); rintro e w4 ⟨rfl, hb4⟩; have HB4 := Lib.hid hb4; clear hb4)
              have HA4 := Lib.hid (Stks.below HA.out HB4.out)
              have HS0' : Hid (bs (S ++ uintB n) = bs (S ++ uintB n ++ stksB (l.take 0))) := by show _ = _; simp [stksB]
              have HSS' : Hid (∀ k, k < n → S ++ uintB n ++ stksB (l.take (k + 1)) = (S ++ uintB n ++ stksB (l.take k)) ++ (intB (l.getD k (0, 0)).1 ++ intB (l.getD k (0, 0)).2)) := fun k hk => by rw [stksB_succ l k (by rw [HN.out]; exact hk)]; simp
              have HSE' : Hid (S ++ uintB n ++ stksB (l.take n) = S ++ uintB n ++ stksB l) := by show _ = _; rw [← HN.out, List.take_length]
              have HSL' : Hid (∀ k, k ≤ n → (S ++ uintB n ++ stksB (l.take k)).length ≤ 6000) := fun k hk => by
                have h2 := stksB_len (l.take k)
                rw [List.length_take] at h2
                rw [List.length_append]
                omega
              go_loopw [5, 55] (fun s i wz => ∃ q : Nat, q ≤ n ∧ i = .int .i64 q ∧ s = .string (bs (S ++ uintB n ++ stksB (l.take q))) ∧ Hid (Below w4.heap.size w4 wz)) (fun _ i _ => n - (intOf i).toNat)
              case atStart => exact ⟨0, by omega, rfl, by rw [← HS0'.out], Below.refl _ _⟩
              case round =>
                obtain ⟨q, hq, rfl, rfl, hbz⟩ := hrel
                by_cases hltq : q < n
                · obtain ⟨b, off, rfl, hbl, hc, hd⟩ := (Stks.below HA4.out hbz.out) q (by rw [HN.out]; exact hltq)
                  obtain ⟨i1, i2⟩ := HI.out q (by rw [HN.out]; exact hltq)
                  have HX' := Lib.hid (HSS'.out q hltq)
                  have hlen := HSL'.out q hq
                  have HI1 := Lib.hid i1
                  have HI2 := Lib.hid i2
                  clear i1 i2
                  have hlt1 : (q : Int) < (n : Int) := by omega
                  have d1 : decide ((q : Int) < (n : Int)) = true := decide_eq_true hlt1
                  have hk0 : (0 : Int) ≤ q := by omega
                  generalize (l.getD q (0, 0)).1 = X at *
                  generalize (l.getD q (0, 0)).2 = Y at *
                  generalize S ++ uintB n ++ stksB (l.take q) = R at *
                  have q3 := bs_append (intB X) (intB Y)
                  have q4 := bs_append R (intB X ++ intB Y)
                  have z3 := fits (A := intB X) (B := intB Y) (by have := Pen.intB_len X; omega) (by have := Pen.intB_len Y; omega)
                  have z4 := fits (A := R) (B := intB X ++ intB Y) (by omega) (by have := Pen.intB_len X; have := Pen.intB_len Y; rw [List.length_append]; omega)
                  clear hlen
                  go_wp2
                  refine wp_named fun WX hWX => ?_
                  have hH0 : WX.drew.cell? ⟨wr.heap.size, 0, none⟩ = some (.int .i64 X) ∧ WX.drew.cell? ⟨wr.heap.size, 1, none⟩ = some (.int .i64 Y) := by rw [hWX]; constructor <;> simp [go_sem]
                  have HBX : Hid (Below wr.heap.size wr WX) := by rw [hWX]; exact below_al (Below.refl _ _) _
                  have hbl' : wr.heap.size < WX.drew.heap.size := by rw [hWX]; simp
                  clear hWX
                  refine Ord.wp_region_U (fun W' => W'.cell? ⟨wr.heap.size, 0, none⟩ = some (.int .i64 X) ∧ W'.cell? ⟨wr.heap.size, 1, none⟩ = some (.int .i64 Y)) [] (by kernel_rfl) ?_
                  have hHeld := hH0
                  refine Ord.wpAnyU_take (i := 0) (v := ?_) rfl (by kernel_rfl) (by kernel_rfl) (by kernel_rfl) (by kernel_rfl) (by kernel_rfl) (by kernel_rfl) (by kernel_rfl) (fun _ _ _ h => h) (Or.inl ⟨by rfl, ?_⟩) hHeld ?_
                  rotate_left
                  · intro w hSw; (try dsimp only at hSw); go_simp; (try with_reducible rfl)
                  try simp only [Act.put, List.setIfInBounds_toArray, List.set_cons_zero, List.set_cons_succ]
                  refine Ord.wpAnyU_take (i := 1) (v := ?_) rfl (by kernel_rfl) (by kernel_rfl) (by kernel_rfl) (by kernel_rfl) (by kernel_rfl) (by kernel_rfl) (by kernel_rfl) (fun _ _ _ h => h) (Or.inl ⟨by rfl, ?_⟩) hHeld ?_
                  rotate_left
                  · intro w hSw; (try dsimp only at hSw); go_simp; (try with_reducible rfl)
                  try simp only [Act.put, List.setIfInBounds_toArray, List.set_cons_zero, List.set_cons_succ]
                  refine Ord.wpAnyU_take (i := 2) (v := ?_) rfl (by kernel_rfl) (by kernel_rfl) (by kernel_rfl) (by kernel_rfl) (by kernel_rfl) (by kernel_rfl) (by kernel_rfl) (fun _ _ _ h => h) (Or.inl ⟨by rfl, ?_⟩) hHeld ?_
                  rotate_left
                  · intro w hSw; (try dsimp only at hSw); go_simp; (try with_reducible rfl)
                  try simp only [Act.put, List.setIfInBounds_toArray, List.set_cons_zero, List.set_cons_succ]
                  refine Ord.wpAnyU_take (i := 4) (v := ?_) rfl (by kernel_rfl) (by kernel_rfl) (by kernel_rfl) (by kernel_rfl) (by kernel_rfl) (by kernel_rfl) (by kernel_rfl) (fun _ _ _ h => h) (Or.inl ⟨by rfl, ?_⟩) hHeld ?_
                  rotate_left
                  · intro w hSw; (try dsimp only at hSw); go_simp; (try with_reducible rfl)
                  try simp only [Act.put, List.setIfInBounds_toArray, List.set_cons_zero, List.set_cons_succ]
                  refine Ord.wpAnyU_take (i := 5) (v := ?_) rfl (by kernel_rfl) (by kernel_rfl) (by kernel_rfl) (by kernel_rfl) (by kernel_rfl) (by kernel_rfl) (by kernel_rfl) (fun _ _ _ h => h) (Or.inl ⟨by rfl, ?_⟩) hHeld ?_
                  rotate_left
                  · intro w hSw; (try dsimp only at hSw); go_simp; (try with_reducible rfl)
                  try simp only [Act.put, List.setIfInBounds_toArray, List.set_cons_zero, List.set_cons_succ]
                  refine Ord.wpAnyU_one (i := 3) (by kernel_rfl) rfl (fun K hK => ?_)
                  go_simp
                  go_wp2_with ((go_at_call 73; (with_reducible refine (CI.out X HI1.out _).mono ?_); rintro e w5 ⟨rfl, hb5⟩; have HB5 := Lib.hid hb5; clear hb5; have hs5 : _ ∧ _ := ⟨(HB5.out.cell (p := ⟨wr.heap.size, 0, none⟩) hbl').trans hH0.1, (HB5.out.cell (p := ⟨wr.heap.size, 1, none⟩) hbl').trans hH0.2⟩; have hl5 : wr.heap.size < w5.heap.size := Nat.lt_of_lt_of_le hbl' HB5.out.size))
                  refine hK.out _ _ (fun _ => hs5) ?_
                  clear hK K
                  try simp only [Act.put, List.setIfInBounds_toArray, List.set_cons_zero, List.set_cons_succ]
                  refine Ord.wpAnyU_one (i := 6) (by kernel_rfl) rfl (fun K hK => ?_)
                  go_simp
                  go_wp2_with ((go_at_call 73; (with_reducible refine (CI.out Y HI2.out _).mono ?_); rintro e w6 ⟨rfl, hb6⟩; have HB6 := Lib.hid hb6; clear hb6; have hs6 : _ ∧ _ := ⟨(HB6.out.cell (p := ⟨wr.heap.size, 0, none⟩) hl5).trans hs5.1, (HB6.out.cell (p := ⟨wr.heap.size, 1, none⟩) hl5).trans hs5.2⟩; have hl6 : wr.heap.size < w6.heap.size := Nat.lt_of_lt_of_le hl5 HB6.out.size))
                  refine hK.out _ _ (fun _ => hs6) ?_
                  clear hK K
                  try simp only [Act.put, List.setIfInBounds_toArray, List.set_cons_zero, List.set_cons_succ]
                  refine Ord.wpAnyU_one (i := 7) (by kernel_rfl) rfl (fun K hK => ?_)
                  go_simp
                  refine hK.out _ _ (fun _ => hs6) ?_
                  clear hK K
                  try simp only [Act.put, List.setIfInBounds_toArray, List.set_cons_zero, List.set_cons_succ]
                  refine Ord.wpAnyU_one (i := 8) (by kernel_rfl) rfl (fun K hK => ?_)
                  go_simp
                  refine hK.out _ _ (fun _ => hs6) ?_
                  clear hK K
                  try simp only [Act.put, List.setIfInBounds_toArray, List.set_cons_zero, List.set_cons_succ]
                  refine Ord.wpAnyU_one (i := 9) (by kernel_rfl) rfl (fun K hK => ?_)
                  go_simp
                  refine hK.out _ _ (fun _ => hs6) ?_
                  clear hK K
                  try simp only [Act.put, List.setIfInBounds_toArray, List.set_cons_zero, List.set_cons_succ]
                  refine Ord.wpAnyU_done (by kernel_rfl) ?_ _
                  go_wp2
                  go_roundw
                  case rel => exact ⟨q + 1, by omega, by go_num, by rw [HX'.out], below2 hbz.out (below2 (below_dN HBX.out 1) (below2 HB5.out HB6.out))⟩
                  case measure => simp [intOf]; omega
                · have hqe : q = n := by omega
                  have n2 : ¬ (q : Int) < (n : Int) := by omega
                  have d2 : decide ((q : Int) < (n : Int)) = false := decide_eq_false n2
                  subst hqe
                  go_wp2
                  go_roundw
                  case rel => exact ⟨j + 1, by omega, by go_num, by rw [HPE.out, HSE'.out], below2 hbq.out (below2 HB4.out hbz.out)⟩
                  case measure => simp [intOf]; omega
            · have hje : j = 2 := by omega
              have n2 : ¬ (j : Int) < 2 := by omega
              have d2 : decide ((j : Int) < 2) = false := decide_eq_false n2
              have HR2 : Hid (P ++ partsB c j = cmdB c) := by show _ = _; rw [hje, HR.out]; rfl
              clear hje
              go_wp2
              go_ret2
              exact ⟨by rw [← HR2.out]; rfl, below2 HWr.out hbq.out⟩
        · have d14 : (c.kind != 14) = true := bne_iff_ne.2 h14
          have HR : Hid (cmdB c = uintB c.kind ++ numB c (fi c.kind)) := by show _ = _; unfold cmdB; rw [if_neg h14, List.append_nil]
          go_wp2
          go_ret2
          exact ⟨by rw [HR.out]; rfl, HWr.out⟩
  · have HV : Hid (putV c = ([], 1)) := by show _ = _; unfold putV; rw [if_neg (by rw [h1]; decide)]
    rw [HV.out]
    rw [h1] at CK
    clear h1 HV
    go_enter Tryz.func35, Tryz.ntmps35
    go_upto_region 1 with fail
    apply wp_region_lit
    refine load_cmd rfl (.tmp 1) rfl w.heap.size rfl c HST.out ?_
    go_wp2_with (go_at_call 63; (with_reducible refine (CK.out _ (HT.out.below (below_al (Below.refl _ _) _))).mono ?_); rintro e w1 ⟨rfl, hb1⟩; have HB1 := Lib.hid hb1; clear hb1)
    all_goals go_ret2
    all_goals exact ⟨rfl, below2 (below_al (Below.refl w.heap.size w) _) HB1.out⟩
end Cmd
end Go.Proofs.YtlhalhilnkneeaaGreatDoor
end
section
namespace Go.Proofs.YtlhalhilnkneeaaGreatDoor
open Go.RowKit Go.Great
namespace Cmd
open Pen (bs bs_append uintB intB I64)
open In (Strs)
open Rec (below2 below_al below_dN Stk Stks stkVals)
set_option maxRecDepth 100000 in
set_option maxHeartbeats 4000000 in
theorem refPut_any (c : CmdIn) (w : World) (hl : Lies w c) (hc : Cok c) : Calls Tryz.prog 40 #[.agg c.val] w fun e w' => e = .returned (.tuple #[.string (bs (putV c).1), .int .i64 (putV c).2]) ∧ Below w.heap.size w w' := by
  have HL := Lib.hid hl
  have HC := Lib.hid hc
  have HFEW := Lib.hid hc.few
  have hk2 : c.kind ≤ 9223372036854775807 := hc.kind.2
  have HST := Lib.hid (stand_new (w := w) rfl c)
  have CK : Hid (∀ W, Calls Tryz.prog 82 #[.agg c.val] W fun e w' => e = .returned (.int .i64 (chkV c)) ∧ Below W.heap.size W w') := fun W => refCheck_any c W hc.few
  have CF : Hid (∀ W, Calls Tryz.prog 59 #[.int .i64 c.kind] W (Gives (fn c.kind) W)) := fun W => refFields_any c.kind W
  have CG : Hid (∀ s W, Calls Tryz.prog 84 #[.agg c.val, .string s] W fun e w' => e = .returned (.tuple #[.int .i64 (getV c s).1, .bool (getV c s).2]) ∧ Below W.heap.size W w') := fun s W => refGet_any c s W
  have CU : Hid (∀ x : Int, x ≤ 9223372036854775807 → ∀ W, Calls Tryz.prog 87 #[.int .i64 x] W fun e w' => e = .returned (.string (bs (uintB x))) ∧ Below W.heap.size W w') := fun x hx W => Pen.refUint_any x hx W
  have CI : Hid (∀ x, I64 x → ∀ W, Calls Tryz.prog 88 #[.int .i64 x] W fun e w' => e = .returned (.string (bs (intB x))) ∧ Below W.heap.size W w') := fun x hx W => Pen.refInt_any x hx W
  have CS : Hid (∀ (a : Option Addr) (c : Nat) (l : List Stk) (n : Nat), l.length = n → n ≤ 100 → Snum l → ∀ w, Stks w a l → Calls Tryz.prog 89 #[.slice a n c] w fun e w' => e = .returned (.string (bs (stkB l))) ∧ Below w.heap.size w w') := fun a c l n h1 h2 h3 w h => refStacks_any a c l n h1 h2 h3 w h
  clear hl hc
  rcases chkV_01 c with h0 | h1
  · have HV : Hid (putV c = (cmdB c, 0)) := by show _ = _; unfold putV; rw [if_pos h0]
    rw [HV.out]
    rw [h0] at CK
    clear h0 HV
    go_enter Tryz.func40, Tryz.ntmps40
    go_upto_region 1 with fail
    apply wp_region_lit
    refine load_cmd rfl (.tmp 1) rfl w.heap.size rfl c HST.out ?_
    obtain ⟨m, hm⟩ : ∃ m, Hid ((fn c.kind).length = m) := ⟨_, rfl⟩
    have HFI : Hid ((fi c.kind).length = m) := by show _ = _; have := hm.out; unfold fn at this; rwa [List.length_map] at this
    have hm1 : m ≤ 11 := by rw [← HFI.out]; exact fi_len c.kind
    go_wp2_with (first
      | (go_at_call 82; (with_reducible refine (CK.out _).mono ?_); rintro e w1 ⟨rfl, hb1⟩; have HB1 := Lib.hid hb1; clear hb1; have HS1 := Lib.hid (HST.out.below HB1.out); have HW1 := Lib.hid (below2 (below_al (Below.refl w.heap.size w) _) HB1.out); obtain ⟨b0, -, -⟩ := HS1.out.three)
      | (go_at_call 87; (with_reducible refine (CU.out _ hk2 _).mono ?_); rintro e w2 ⟨rfl, hb2⟩; have HB2 := Lib.hid hb2; clear hb2; have HS2 := Lib.hid (HS1.out.below HB2.out); have HW2 := Lib.hid (below2 HW1.out HB2.out); obtain ⟨p0, -, -⟩ := HS2.out.three)
      | (go_at_call 59; (with_reducible refine (CF.out _).mono ?_); rintro e w3 ⟨a3, k3, rfl, HF3, HB3, -⟩; rw [hm.out]; have HS3 := Lib.hid (HS2.out.below HB3.out); have HW3 := Lib.hid (below2 HW2.out HB3.out)))
    have HS0 : Hid (bs (uintB c.kind) = bs (uintB c.kind ++ numB c ((fi c.kind).take 0))) := by show _ = _; simp [numB]
    have HSS : Hid (∀ k, k < m → uintB c.kind ++ numB c ((fi c.kind).take (k + 1)) = (uintB c.kind ++ numB c ((fi c.kind).take k)) ++ intB (c.num ((fi c.kind).getD k 0))) := fun k hk => by rw [numB_succ c (fi c.kind) k (by rw [HFI.out]; exact hk)]; simp
    have HSE : Hid (uintB c.kind ++ numB c ((fi c.kind).take m) = uintB c.kind ++ numB c (fi c.kind)) := by show _ = _; rw [← HFI.out, List.take_length]
    have HSL : Hid (∀ k, k ≤ m → (uintB c.kind ++ numB c ((fi c.kind).take k)).length ≤ 300) := fun k hk => by
      have h1 := uintB_len c.kind
      have h2 := numB_len c ((fi c.kind).take k)
      rw [List.length_take] at h2
      rw [List.length_append]
      omega
    go_loopw [4, 6] (fun s i wr => ∃ k : Nat, k ≤ m ∧ i = .int .i64 k ∧ s = .string (bs (uintB c.kind ++ numB c ((fi c.kind).take k))) ∧ Hid (Below w3.heap.size w3 wr)) (fun _ i _ => m - (intOf i).toNat)
    case atStart => exact ⟨0, by omega, rfl, by rw [← HS0.out], Below.refl _ _⟩
    case round =>
      obtain ⟨k, hk, rfl, rfl, hb⟩ := hrel
      by_cases hlt : k < m
      · obtain ⟨b2, off2, rfl, hbl2, hc2⟩ := (Strs.below HF3.out hb.out) k (by rw [hm.out]; exact hlt)
        obtain ⟨e1, hi19⟩ := fn_get c.kind k (by rw [HFI.out]; exact hlt)
        rw [e1] at hc2
        have HI := Lib.hid (HC.out.num _ hi19)
        have HG : Hid (getV c (nm ((fi c.kind).getD k 0)) = (c.num ((fi c.kind).getD k 0), true)) := by show _ = _; unfold getV; rw [place_nm hi19]
        have HX := Lib.hid (HSS.out k hlt)
        have hlen := HSL.out k hk
        clear e1
        have hlt1 : (k : Int) < (m : Int) := by omega
        have d1 : decide ((k : Int) < (m : Int)) = true := decide_eq_true hlt1
        have hk0 : (0 : Int) ≤ k := by omega
        generalize (fi c.kind).getD k 0 = I at *
        generalize uintB c.kind ++ numB c ((fi c.kind).take k) = S at *
        have q1 := bs_append S (intB (c.num I))
        have z1 := fits (A := S) (B := intB (c.num I)) (by omega) (by have := Pen.intB_len (c.num I); omega)
        clear hlen
        go_upto_region 8 with fail
        have hH0 : Stand wr.drew w.heap.size c ∧ wr.drew.cell? ⟨b2, off2 + k, none⟩ = some (.string (nm I)) := ⟨HS3.out.below (below_dN hb.out 1), hc2⟩
        have hbl' : b2 < wr.drew.heap.size := hbl2
        refine Ord.wp_region_U (fun W' => Stand W' w.heap.size c ∧ W'.cell? ⟨b2, off2 + k, none⟩ = some (.string (nm I))) [] (by kernel_rfl) ?_
        have hHeld := hH0
        refine Ord.wpAnyU_take (i := 0) (v := .agg c.val) rfl (by kernel_rfl) (by kernel_rfl) (by kernel_rfl) (by kernel_rfl) (by kernel_rfl) (by kernel_rfl) (by kernel_rfl) (fun _ _ _ h => h) (Or.inl ⟨by rfl, ?_⟩) hHeld ?_
        · exact fun W2 hS2 => run_load_cmd (.tmp 1) rfl rfl hS2.1
        try simp only [Act.put, List.setIfInBounds_toArray, List.set_cons_zero, List.set_cons_succ]
        refine Ord.wpAnyU_take (i := 1) (v := ?_) rfl (by kernel_rfl) (by kernel_rfl) (by kernel_rfl) (by kernel_rfl) (by kernel_rfl) (by kernel_rfl) (by kernel_rfl) (fun _ _ _ h => h) (Or.inl ⟨by rfl, ?_⟩) hHeld ?_
        rotate_left
        · intro w hSw; (try dsimp only at hSw); go_simp; (try with_reducible rfl)
        try simp only [Act.put, List.setIfInBounds_toArray, List.set_cons_zero, List.set_cons_succ]
        refine Ord.wpAnyU_take (i := 2) (v := ?_) rfl (by kernel_rfl) (by kernel_rfl) (by kernel_rfl) (by kernel_rfl) (by kernel_rfl) (by kernel_rfl) (by kernel_rfl) (fun _ _ _ h => h) (Or.inl ⟨by rfl, ?_⟩) hHeld ?_
        rotate_left
        · intro w hSw; (try dsimp only at hSw); go_simp; (try with_reducible rfl)
        try simp only [Act.put, List.setIfInBounds_toArray, List.set_cons_zero, List.set_cons_succ]
        refine Ord.wpAnyU_take (i := 3) (v := ?_) rfl (by kernel_rfl) (by kernel_rfl) (by kernel_rfl) (by kernel_rfl) (by kernel_rfl) (by kernel_rfl) (by kernel_rfl) (fun _ _ _ h => h) (Or.inl ⟨by rfl, ?_⟩) hHeld ?_
        rotate_left
        · intro w hSw; (try dsimp only at hSw); go_simp; (try with_reducible rfl)
        try simp only [Act.put, List.setIfInBounds_toArray, List.set_cons_zero, List.set_cons_succ]
        refine Ord.wpAnyU_take (i := 4) (v := ?_) rfl (by kernel_rfl) (by kernel_rfl) (by kernel_rfl) (by kernel_rfl) (by kernel_rfl) (by kernel_rfl) (by kernel_rfl) (fun _ _ _ h => h) (Or.inl ⟨by rfl, ?_⟩) hHeld ?_
        rotate_left
        · intro w hSw; (try dsimp only at hSw); go_simp; (try with_reducible rfl)
        try simp only [Act.put, List.setIfInBounds_toArray, List.set_cons_zero, List.set_cons_succ]
        refine Ord.wpAnyU_one (i := 5) (by kernel_rfl) rfl (fun K hK => ?_)
        go_simp
        go_wp2_with ((go_at_call 84; (with_reducible refine (CG.out (nm I) _).mono ?_); rintro e w4 ⟨rfl, hb4⟩; rw [HG.out]; have HB4 := Lib.hid hb4; clear hb4; have hs4 : _ ∧ _ := ⟨hH0.1.below HB4.out, (HB4.out.cell (p := ⟨b2, off2 + k, none⟩) hbl').trans hH0.2⟩))
        refine hK.out _ _ (fun _ => hs4) ?_
        clear hK K
        try simp only [Act.put, List.setIfInBounds_toArray, List.set_cons_zero, List.set_cons_succ]
        refine Ord.wpAnyU_one (i := 6) (by kernel_rfl) rfl (fun K hK => ?_)
        go_simp
        refine hK.out _ _ (fun _ => hs4) ?_
        clear hK K
        try simp only [Act.put, List.setIfInBounds_toArray, List.set_cons_zero, List.set_cons_succ]
        have hHeld := hs4
        refine Ord.wpAnyU_take (i := 7) (v := ?_) rfl (by kernel_rfl) (by kernel_rfl) (by kernel_rfl) (by kernel_rfl) (by kernel_rfl) (by kernel_rfl) (by kernel_rfl) (fun _ _ _ h => h) (Or.inl ⟨by rfl, ?_⟩) hHeld ?_
        rotate_left
        · intro w hSw; (try dsimp only at hSw); go_simp; (try with_reducible rfl)
        try simp only [Act.put, List.setIfInBounds_toArray, List.set_cons_zero, List.set_cons_succ]
        have hHeld := hs4
        refine Ord.wpAnyU_take (i := 8) (v := ?_) rfl (by kernel_rfl) (by kernel_rfl) (by kernel_rfl) (by kernel_rfl) (by kernel_rfl) (by kernel_rfl) (by kernel_rfl) (fun _ _ _ h => h) (Or.inl ⟨by rfl, ?_⟩) hHeld ?_
        rotate_left
        · intro w hSw; (try dsimp only at hSw); go_simp; (try with_reducible rfl)
        try simp only [Act.put, List.setIfInBounds_toArray, List.set_cons_zero, List.set_cons_succ]
        refine Ord.wpAnyU_one (i := 9) (by kernel_rfl) rfl (fun K hK => ?_)
        go_simp
        refine hK.out _ _ (fun _ => hs4) ?_
        clear hK K
        try simp only [Act.put, List.setIfInBounds_toArray, List.set_cons_zero, List.set_cons_succ]
        refine Ord.wpAnyU_one (i := 10) (by kernel_rfl) rfl (fun K hK => ?_)
        go_simp
        refine hK.out _ _ (fun _ => hs4) ?_
        clear hK K
        try simp only [Act.put, List.setIfInBounds_toArray, List.set_cons_zero, List.set_cons_succ]
        refine Ord.wpAnyU_done (by kernel_rfl) ?_ _
        go_wp2_with (go_at_call 88; (with_reducible refine (CI.out _ HI.out _).mono ?_); rintro e w5 ⟨rfl, HB5⟩)
        go_roundw
        case rel => exact ⟨k + 1, by omega, by go_num, by rw [HX.out], below2 (below_dN hb.out 1) (below2 HB4.out HB5)⟩
        case measure => simp [intOf]; omega
      · have hke : k = m := by omega
        have n1 : ¬ (k : Int) < (m : Int) := by omega
        have d1 : decide ((k : Int) < (m : Int)) = false := decide_eq_false n1
        subst hke
        have HWr := Lib.hid (HW3.out.trans (hb.out.mono HW3.out.size))
        have HSr := Lib.hid (HS3.out.below hb.out)
        have HLr := Lib.hid (HL.out.below HWr.out)
        obtain ⟨b0', b20, b21⟩ := HSr.out.three
        rw [HSE.out]
        have hlen := HSL.out k (Nat.le_refl _)
        rw [HSE.out] at hlen
        by_cases h14 : c.kind = 14
        · have d14 : (c.kind == 14) = true := beq_iff_eq.2 h14
          have HR : Hid (cmdB c = uintB c.kind ++ numB c (fi c.kind) ++ (stkB c.gives ++ stkB c.wants)) := by show _ = _; unfold cmdB; rw [if_pos h14]
          have hgl : (stkB c.gives).length ≤ 3000 := by have h1 := uintB_len c.gives.length; have h2 := stksB_len c.gives; have h3 := HFEW.out.1; unfold stkB; rw [List.length_append]; omega
          have hwl : (stkB c.wants).length ≤ 3000 := by have h1 := uintB_len c.wants.length; have h2 := stksB_len c.wants; have h3 := HFEW.out.2; unfold stkB; rw [List.length_append]; omega
          generalize uintB c.kind ++ numB c (fi c.kind) = P at *
          have q1 := bs_append P (stkB c.gives)
          have q2 := bs_append (P ++ stkB c.gives) (stkB c.wants)
          have z1 := fits (A := P) (B := stkB c.gives) (by omega) (by omega)
          have z2 := fits (A := P ++ stkB c.gives) (B := stkB c.wants) (by rw [List.length_append]; omega) (by omega)
          clear h14 hgl hwl hlen
          go_upto_region 11 with fail
          have hH0 : wr.drew.cell? ⟨w.heap.size, 20, none⟩ = some (.slice c.ga c.gives.length c.gc) ∧ wr.drew.cell? ⟨w.heap.size, 21, none⟩ = some (.slice c.wa c.wants.length c.wc) := ⟨b20, b21⟩
          have hbl' : w.heap.size < wr.drew.heap.size := World.rowIs.lt HSr.out
          have HLd : Hid (Lies wr.drew c) := HL.out.below (below_dN HWr.out 1)
          refine Ord.wp_region_U (fun W' => W'.cell? ⟨w.heap.size, 20, none⟩ = some (.slice c.ga c.gives.length c.gc) ∧ W'.cell? ⟨w.heap.size, 21, none⟩ = some (.slice c.wa c.wants.length c.wc)) [] (by kernel_rfl) ?_
          have hHeld := hH0
          refine Ord.wpAnyU_take (i := 0) (v := ?_) rfl (by kernel_rfl) (by kernel_rfl) (by kernel_rfl) (by kernel_rfl) (by kernel_rfl) (by kernel_rfl) (by kernel_rfl) (fun _ _ _ h => h) (Or.inl ⟨by rfl, ?_⟩) hHeld ?_
          rotate_left
          · intro w hSw; (try dsimp only at hSw); go_simp; (try with_reducible rfl)
          try simp only [Act.put, List.setIfInBounds_toArray, List.set_cons_zero, List.set_cons_succ]
          refine Ord.wpAnyU_take (i := 1) (v := ?_) rfl (by kernel_rfl) (by kernel_rfl) (by kernel_rfl) (by kernel_rfl) (by kernel_rfl) (by kernel_rfl) (by kernel_rfl) (fun _ _ _ h => h) (Or.inl ⟨by rfl, ?_⟩) hHeld ?_
          rotate_left
          · intro w hSw; (try dsimp only at hSw); go_simp; (try with_reducible rfl)
          try simp only [Act.put, List.setIfInBounds_toArray, List.set_cons_zero, List.set_cons_succ]
          refine Ord.wpAnyU_take (i := 2) (v := ?_) rfl (by kernel_rfl) (by kernel_rfl) (by kernel_rfl) (by kernel_rfl) (by kernel_rfl) (by kernel_rfl) (by kernel_rfl) (fun _ _ _ h => h) (Or.inl ⟨by rfl, ?_⟩) hHeld ?_
          rotate_left
          · intro w hSw; (try dsimp only at hSw); go_simp; (try with_reducible rfl)
          try simp only [Act.put, List.setIfInBounds_toArray, List.set_cons_zero, List.set_cons_succ]
          refine Ord.wpAnyU_take (i := 5) (v := ?_) rfl (by kernel_rfl) (by kernel_rfl) (by kernel_rfl) (by kernel_rfl) (by kernel_rfl) (by kernel_rfl) (by kernel_rfl) (fun _ _ _ h => h) (Or.inl ⟨by rfl, ?_⟩) hHeld ?_
          rotate_left
          · intro w hSw; (try dsimp only at hSw); go_simp; (try with_reducible rfl)
          try simp only [Act.put, List.setIfInBounds_toArray, List.set_cons_zero, List.set_cons_succ]
          refine Ord.wpAnyU_take (i := 6) (v := ?_) rfl (by kernel_rfl) (by kernel_rfl) (by kernel_rfl) (by kernel_rfl) (by kernel_rfl) (by kernel_rfl) (by kernel_rfl) (fun _ _ _ h => h) (Or.inl ⟨by rfl, ?_⟩) hHeld ?_
          rotate_left
          · intro w hSw; (try dsimp only at hSw); go_simp; (try with_reducible rfl)
          try simp only [Act.put, List.setIfInBounds_toArray, List.set_cons_zero, List.set_cons_succ]
          refine Ord.wpAnyU_one (i := 3) (by kernel_rfl) rfl (fun K hK => ?_)
          go_simp
          go_wp2_with ((go_at_call 89; (with_reducible refine (CS.out _ _ c.gives _ rfl HFEW.out.1 HC.out.gives _ HLd.out.g).mono ?_); rintro e w5 ⟨rfl, hb5⟩; have HB5 := Lib.hid hb5; clear hb5; have hs5 : _ ∧ _ := ⟨(HB5.out.cell (p := ⟨w.heap.size, 20, none⟩) hbl').trans hH0.1, (HB5.out.cell (p := ⟨w.heap.size, 21, none⟩) hbl').trans hH0.2⟩; have hl5 : w.heap.size < w5.heap.size := Nat.lt_of_lt_of_le hbl' HB5.out.size))
          refine hK.out _ _ (fun _ => hs5) ?_
          clear hK K
          try simp only [Act.put, List.setIfInBounds_toArray, List.set_cons_zero, List.set_cons_succ]
          have hHeld := hs5
          refine Ord.wpAnyU_take (i := 4) (v := ?_) rfl (by kernel_rfl) (by kernel_rfl) (by kernel_rfl) (by kernel_rfl) (by kernel_rfl) (by kernel_rfl) (by kernel_rfl) (fun _ _ _ h => h) (Or.inl ⟨by rfl, ?_⟩) hHeld ?_
          rotate_left
          · intro w hSw; (try dsimp only at hSw); go_simp; (try with_reducible rfl)
          try simp only [Act.put, List.setIfInBounds_toArray, List.set_cons_zero, List.set_cons_succ]
          refine Ord.wpAnyU_one (i := 7) (by kernel_rfl) rfl (fun K hK => ?_)
          go_simp
          go_wp2_with ((go_at_call 89; (with_reducible refine (CS.out _ _ c.wants _ rfl HFEW.out.2 HC.out.wants _ (Stks.below HLd.out.w HB5.out)).mono ?_); rintro e w6 ⟨rfl, hb6⟩; have HB6 := Lib.hid hb6; clear hb6; have hs6 : _ ∧ _ := ⟨(HB6.out.cell (p := ⟨w.heap.size, 20, none⟩) hl5).trans hs5.1, (HB6.out.cell (p := ⟨w.heap.size, 21, none⟩) hl5).trans hs5.2⟩; have hl6 : w.heap.size < w6.heap.size := Nat.lt_of_lt_of_le hl5 HB6.out.size))
          refine hK.out _ _ (fun _ => hs6) ?_
          clear hK K
          try simp only [Act.put, List.setIfInBounds_toArray, List.set_cons_zero, List.set_cons_succ]
          refine Ord.wpAnyU_one (i := 8) (by kernel_rfl) rfl (fun K hK => ?_)
          go_simp
          refine hK.out _ _ (fun _ => hs6) ?_
          clear hK K
          try simp only [Act.put, List.setIfInBounds_toArray, List.set_cons_zero, List.set_cons_succ]
          refine Ord.wpAnyU_one (i := 9) (by kernel_rfl) rfl (fun K hK => ?_)
          go_simp
          refine hK.out _ _ (fun _ => hs6) ?_
          clear hK K
          try simp only [Act.put, List.setIfInBounds_toArray, List.set_cons_zero, List.set_cons_succ]
          refine Ord.wpAnyU_done (by kernel_rfl) ?_ _
          go_wp2
          go_ret2
          exact ⟨by rw [HR.out, ← List.append_assoc]; rfl, below2 (below_dN HWr.out 1) (below2 HB5.out HB6.out)⟩
        · have d14 : (c.kind == 14) = false := beq_eq_false_iff_ne.2 h14
          have HR : Hid (cmdB c = uintB c.kind ++ numB c (fi c.kind)) := by show _ = _; unfold cmdB; rw [if_neg h14, List.append_nil]
          go_wp2
          go_ret2
          exact ⟨by rw [HR.out]; rfl, HWr.out⟩
  · have HV : Hid (putV c = ([], 1)) := by show _ = _; unfold putV; rw [if_neg (by rw [h1]; decide)]
    rw [HV.out]
    rw [h1] at CK
    clear h1 HV
    go_enter Tryz.func40, Tryz.ntmps40
    go_upto_region 1 with fail
    apply wp_region_lit
    refine load_cmd rfl (.tmp 1) rfl w.heap.size rfl c HST.out ?_
    go_wp2_with (go_at_call 82; (with_reducible refine (CK.out _).mono ?_); rintro e w1 ⟨rfl, hb1⟩; have HB1 := Lib.hid hb1; clear hb1)
    all_goals go_ret2
    all_goals exact ⟨rfl, below2 (below_al (Below.refl w.heap.size w) _) HB1.out⟩
end Cmd
end Go.Proofs.YtlhalhilnkneeaaGreatDoor
end
section
namespace Go.Proofs.YtlhalhilnkneeaaGreatDoor
open Go.RowKit Go.Great
namespace Cmd
open Pen (bs bs_append uintB intB I64 intS uintS doneS)
open In (Strs)
open Cat (Rd Rs QP QR Bx)
open Rec (below2 below_al below_dN Stk Stks stkVals stkVals_append stks_of_own)
/-- Numbers that are read into places. -/
def tkN : List Nat → (Nat → Int) → Cat.Left → (Nat → Int) × Cat.Left
  | [], f, o => (f, o)
  | i :: l, f, o => tkN l (fun j => if j = i then (intS o).1 else f j) (intS o).2
/-- So many stacks that are read. -/
def tkS : Nat → Cat.Left → List Stk × Cat.Left
  | 0, o => ([], o)
  | n + 1, o => (((intS o).1, (intS (intS o).2).1) :: (tkS n (intS (intS o).2).2).1, (tkS n (intS (intS o).2).2).2)
/-- Their number, and they. -/
def stS (o : Cat.Left) : List Stk × Cat.Left := tkS (uintS 8 o).1.toNat (uintS 8 o).2
/-- A command's parts that are read. -/
def rdC (s : List UInt8) : CmdIn × Cat.Left :=
  let u := uintS 25 (some s)
  let r := tkN (fi u.1) (fun _ => 0) u.2
  if u.1 = 14 then (⟨u.1, r.1, (stS r.2).1, none, 0, (stS (stS r.2).2).1, none, 0⟩, (stS (stS r.2).2).2) else (⟨u.1, r.1, [], none, 0, [], none, 0⟩, r.2)
/-- What Take answers. -/
def takeV (s : List UInt8) : CmdIn × Int := if doneS (rdC s).2 = true ∧ fi (uintS 25 (some s)).1 ≠ [] then ((rdC s).1, 0) else (zeroC, 2)
/-- A command and a number are given back. -/
def GivesT (t : CmdIn × Int) (w : World) (e : Ending) (w' : World) : Prop := ∃ c', e = .returned (.tuple #[.agg c'.val, .int .i64 t.2]) ∧ Hid (Eqv c' t.1) ∧ Hid (Lies w' c') ∧ Hid (Below w.heap.size w w') ∧ Hid (∀ x, (c'.gives ≠ [] ∧ c'.ga = some x) ∨ (c'.wants ≠ [] ∧ c'.wa = some x) → w.heap.size ≤ x.block)
theorem tkS_len (n : Nat) : ∀ o, (tkS n o).1.length = n := by
  induction n with
  | zero => intro o; rfl
  | succ n ih => intro o; simp [tkS, ih]
/-- Stacks that are read: the reader, the command's cells, and the row of the stacks. -/
structure NC (T : TypeId) (Q : (Nat → Value) → Cat.Left → Prop) (W : World) (g gb base p : Nat) (f : Nat → Value) (l : List Stk) (o : Cat.Left) (w : World) : Prop where
  rd : Rd T Q w g o
  row : ∃ v, w.rowIs gb 41 22 (fun i => if i = p then v else f i) ∧ w.ownsRow base 106 2 v l.length (stkVals l)
  fr : Bx base (fun k => k = g ∨ k = gb) W w
  le : base ≤ w.heap.size
theorem kept_of {w w' : World} {base : Nat} {e : TypeId} {size n : Nat} {v : Value} {xs : List Value} {g : Nat} (h : w.ownsRow base e size v n xs) (hg : w.grownBy w' (some g)) (hb : g < base) : w'.ownsRow base e size v n xs :=
  h.kept hg (.inr fun e => by have := (h.lt _ e).1; omega)
theorem row_grown {w w' : World} {b n : Nat} {t : TypeId} {f : Nat → Value} {o : Option Nat} (h : w.rowIs b t n f) (hg : w.grownBy w' o) (hne : o ≠ some b) : w'.rowIs b t n f := h.of_block (hg.block b h.lt fun e => hne e.symm)
theorem grw_al {w w' : World} {o : Option Nat} (x : Obj) (h : (w.alloc x).grownBy w' o) : w.grownBy w' o :=
  ⟨h.os, h.tape, h.output, Nat.le_trans (by simp) h.size, fun k hk hne => (h.block k (by simp; omega) hne).trans (heap_alloc_old w x hk)⟩
theorem cell_grown {w w' : World} {o : Option Nat} {g i : Nat} {v : Value} (h : w.grownBy w' o) (hg : g < w.heap.size) (hne : o ≠ some g) (hc : w.cell? ⟨g, i, none⟩ = some v) : w'.cell? ⟨g, i, none⟩ = some v := by
  unfold World.cell? at hc ⊢
  rw [h.block g hg (fun e => hne (by rw [e]))]
  exact hc
theorem ownsRow_setCell_below {w : World} {base : Nat} {T : TypeId} {k n : Nat} {v : Value} {xs : List Value} (h : w.ownsRow base T k v n xs) {a : Addr} (hb : a.block < base) (u : Value) : (w.setCell a u).ownsRow base T k v n xs := by
  have hg : w.grownBy (w.setCell a u) (some a.block) := ⟨rfl, rfl, rfl, by simp, fun j hj hne => Below.heap_setCell _ _ _ _ (fun e => hne (by rw [e]))⟩
  exact h.kept hg (.inr fun e => by have := (h.lt _ e).1; omega)
/-- What is there behind one stack more. -/
theorem need_end {T : TypeId} {Q : (Nat → Value) → Cat.Left → Prop} {W w w1 w2 w3 : World} {g gb base p : Nat} {f : Nat → Value} {l : List Stk} {x : Stk} {o : Cat.Left} {v v' : Value} (HF : Bx base (fun k => k = g ∨ k = gb) W w) (hle : base ≤ w.heap.size) (hbl : g < base ∧ gb < base) (G1 : w.grownBy w1 (some g)) (G2 : w1.grownBy w2 (some g)) (HR : Rd T Q w2 g o) (HV : w2.ownsRow base 106 2 v l.length (stkVals l)) (G3 : w2.grownBy w3 v.ownBlock)
    (HW : w3.rowIs gb 41 22 (fun i => if i = p then v else f i)) (HO : w3.ownsRow base 106 2 v' (l.length + 1) (stkVals l ++ [.int .i64 x.1, .int .i64 x.2])) (hgb : g ≠ gb) : NC T Q W g gb base p f (l ++ [x]) o (w3.setCell ⟨gb, p, none⟩ v') := by
  have hs1 := G1.size
  have hs2 := G2.size
  have hs3 := G3.size
  have hvn : ∀ k, v.ownBlock = some k → base ≤ k := fun k e => (HV.lt k e).1
  refine ⟨?_, ⟨v', ?_, ?_⟩, ?_, ?_⟩
  · exact (HR.grown G3 fun e => by have := hvn _ e; omega).set (fun e => hgb e.symm) _
  · exact (HW.set p v').congr fun i hi => by by_cases e : i = p <;> simp [e]
  · rw [List.length_append, stkVals_append]
    exact ownsRow_setCell_below HO hbl.2 v'
  · refine ((((HF.grown G1 hle fun k e => .inr (.inl (by cases e; rfl))).grown G2 (by omega) fun k e => .inr (.inl (by cases e; rfl))).grown G3 (by omega) fun k e => .inl (hvn k e))).set _ _ (.inr (.inr rfl))
  · simp; omega
/-- The cells of a command, its stacks at one place left open. -/
def open20 (c : CmdIn) : Nat → Value := c.cell
theorem NC.start {T : TypeId} {Q : (Nat → Value) → Cat.Left → Prop} {w : World} {g gb p : Nat} {f : Nat → Value} {o : Cat.Left} (hr : Rd T Q w g o) (hw : w.rowIs gb 41 22 f) (hf : f p = .slice none 0 0) : NC T Q w g gb w.heap.size p f [] o w :=
  ⟨hr, ⟨.slice none 0 0, hw.congr fun i hi => by by_cases e : i = p <;> simp [e, hf], ⟨rfl, .inl ⟨rfl, rfl⟩⟩⟩, Bx.refl _ _ _, Nat.le_refl _⟩
end Cmd
end Go.Proofs.YtlhalhilnkneeaaGreatDoor
end
section
namespace Go.Proofs.YtlhalhilnkneeaaGreatDoor
open Go.RowKit Go.Great
namespace Cmd
open Pen (bs bs_append uintB intB I64 intS uintS doneS int_put int_back int_in uint_put uint_back)
open Rec (Stk Stks stkVals)
/-- Behind the last number there is none. -/
def Clear (c : CmdIn) : Prop := ∀ i, 19 ≤ i → c.num i = 0
theorem tkN_put (c : CmdIn) (l : List Nat) (h : ∀ i ∈ l, I64 (c.num i)) (rest : List UInt8) : ∀ f, tkN l f (some (numB c l ++ rest)) = (fun j => if j ∈ l then c.num j else f j, some rest) := by
  induction l with
  | nil => intro f; simp [tkN, numB]
  | cons i l ih =>
    intro f
    have e : numB c (i :: l) ++ rest = intB (c.num i) ++ (numB c l ++ rest) := by simp [numB]
    rw [e, tkN, int_put (h i (List.mem_cons_self ..)), ih (fun j hj => h j (List.mem_cons_of_mem _ hj))]
    congr 1
    funext j
    by_cases h1 : j ∈ l
    · rw [if_pos h1, if_pos (List.mem_cons_of_mem _ h1)]
    · rw [if_neg h1]
      by_cases h2 : j = i
      · rw [if_pos h2, if_pos (by rw [h2]; exact List.mem_cons_self ..), h2]
      · rw [if_neg h2, if_neg (by simp [h1, h2])]
theorem tkN_off (l : List Nat) (j : Nat) (hj : j ∉ l) : ∀ f o, (tkN l f o).1 j = f j := by
  induction l with
  | nil => intro f o; rfl
  | cons i l ih =>
    intro f o
    have h1 : j ∉ l := fun h => hj (List.mem_cons_of_mem _ h)
    have h2 : j ≠ i := fun h => hj (by rw [h]; exact List.mem_cons_self ..)
    rw [tkN, ih h1]
    simp only [if_neg h2]
theorem tkN_back (l : List Nat) (hl : l.Nodup) (r : List UInt8) : ∀ f o, (tkN l f o).2 = some r → o = some ((l.flatMap fun i => intB ((tkN l f o).1 i)) ++ r) ∧ ∀ i ∈ l, I64 ((tkN l f o).1 i) := by
  induction l with
  | nil => intro f o h; exact ⟨h, fun i hi => by cases hi⟩
  | cons i l ih =>
    intro f o h
    obtain ⟨hi, hl'⟩ := List.nodup_cons.1 hl
    rw [tkN] at h ⊢
    obtain ⟨h1, h2⟩ := ih hl' _ _ h
    have h3 := int_back h1
    have e : (tkN l (fun j => if j = i then (intS o).1 else f j) (intS o).2).1 i = (intS o).1 := by rw [tkN_off l i hi]; simp
    refine ⟨?_, fun j hj => ?_⟩
    · rw [List.flatMap_cons, e]
      rw [h3]
      simp
      rw [← h3]
    · rcases List.mem_cons.1 hj with rfl | hj
      · rw [e]; exact int_in o
      · exact h2 j hj
theorem tkS_put (l : List Stk) (h : Snum l) (rest : List UInt8) : tkS l.length (some (stksB l ++ rest)) = (l, some rest) := by
  induction l with
  | nil => simp [tkS, stksB]
  | cons x l ih =>
    have h0 : I64 x.1 ∧ I64 x.2 := h 0 (by simp)
    have e : stksB (x :: l) ++ rest = intB x.1 ++ (intB x.2 ++ (stksB l ++ rest)) := by simp [stksB]
    have ih' := ih fun i hi => h (i + 1) (by simpa using hi)
    rw [e, List.length_cons, tkS, int_put h0.1, int_put h0.2, ih']
theorem tkS_back (n : Nat) (r : List UInt8) : ∀ o, (tkS n o).2 = some r → o = some (stksB (tkS n o).1 ++ r) ∧ Snum (tkS n o).1 := by
  induction n with
  | zero => intro o h; exact ⟨by simpa [tkS, stksB] using h, fun i hi => by simp [tkS] at hi⟩
  | succ n ih =>
    intro o h
    rw [tkS] at h ⊢
    obtain ⟨h1, h2⟩ := ih _ h
    have h3 := int_back h1
    have h4 := int_back h3
    refine ⟨?_, fun i hi => ?_⟩
    · have e : stksB (((intS o).1, (intS (intS o).2).1) :: (tkS n (intS (intS o).2).2).1) = intB (intS o).1 ++ intB (intS (intS o).2).1 ++ stksB (tkS n (intS (intS o).2).2).1 := by simp [stksB]
      dsimp only
      rw [e, List.append_assoc, List.append_assoc]
      exact h4
    · cases i with
      | zero => exact ⟨int_in _, int_in _⟩
      | succ i => exact h2 i (by simpa using hi)
theorem stS_put (l : List Stk) (h : Snum l) (h8 : l.length ≤ 8) (rest : List UInt8) : stS (some (stkB l ++ rest)) = (l, some rest) := by
  unfold stS stkB
  rw [List.append_assoc, uint_put 8 (l.length : Int) (by omega) (by omega) (by omega)]
  exact tkS_put l h rest
theorem stS_back (o : Cat.Left) (r : List UInt8) (h : (stS o).2 = some r) : o = some (stkB (stS o).1 ++ r) ∧ Snum (stS o).1 ∧ (stS o).1.length ≤ 8 := by
  unfold stS at h ⊢
  obtain ⟨h1, h2⟩ := tkS_back _ r _ h
  have h3 := uint_back h1
  obtain ⟨b0, b1, -⟩ := Pen.uint_bounds 8 o (by decide)
  have hl := tkS_len (uintS 8 o).1.toNat (uintS 8 o).2
  refine ⟨?_, h2, by rw [hl]; omega⟩
  unfold stkB
  rw [hl, Int.toNat_of_nonneg b0, List.append_assoc]
  exact h3
theorem kind_of {c : CmdIn} (h : fn c.kind ≠ []) : 1 ≤ c.kind ∧ c.kind ≤ 25 := by
  apply Decidable.byContradiction
  intro hn
  exact h (by unfold fn; rw [fi_out hn]; rfl)
theorem fi_ne {k : Int} (h : fn k ≠ []) : fi k ≠ [] := fun e => h (by unfold fn; rw [e]; rfl)
theorem fn_ne {k : Int} (h : fi k ≠ []) : fn k ≠ [] := fun e => h (by unfold fn at e; exact List.map_eq_nil_iff.1 e)
theorem chk_fn {c : CmdIn} (h : chkV c = 0) : fn c.kind ≠ [] ∧ Lok c ∧ bads c 19 = false := by
  unfold chkV at h
  split at h
  · cases h
  · rename_i h1
    split at h
    · cases h
    · rename_i h2
      exact ⟨fun e => h1 (Or.inl e), Decidable.byContradiction fun e => h1 (Or.inr e), by simpa using h2⟩
theorem chk_of {c : CmdIn} (h1 : fn c.kind ≠ []) (h2 : Lok c) (h3 : bads c 19 = false) : chkV c = 0 := by
  unfold chkV
  rw [if_neg (by rintro (e | e); exact h1 e; exact e h2), if_neg (by rw [h3]; decide)]
theorem isIn_fn (k : Int) (i : Nat) (hi : i < 19) : isIn (fn k) (nm i) = true ↔ i ∈ fi k := by
  rw [isIn_iff]
  unfold fn
  rw [List.mem_map]
  constructor
  · rintro ⟨j, hj, e⟩
    rw [← nm_inj (fi_small k j hj) hi e]
    exact hj
  · exact fun h => ⟨i, h, rfl⟩
theorem bads_iff (c : CmdIn) : bads c 19 = false ↔ ∀ i, i < 19 → i ∉ fi c.kind → c.num i = 0 := by
  unfold bads
  rw [List.any_eq_false]
  constructor
  · intro h i hi hni
    have := h i (by simpa using hi)
    unfold badNum at this
    by_cases h0 : c.num i = 0
    · exact h0
    · exfalso
      apply this
      rw [decide_eq_true h0]
      cases hq : isIn (fn c.kind) (nm i) with
      | true => exact absurd ((isIn_fn _ _ hi).1 hq) hni
      | false => rfl
  · intro h i hi
    have hi' : i < 19 := by simpa using hi
    unfold badNum
    by_cases hm : i ∈ fi c.kind
    · rw [(isIn_fn _ _ hi').2 hm]; simp
    · rw [h i hi' hm]; simp
/-- The command's parts are read again, whatever comes behind. -/
theorem rdC_put (c : CmdIn) (hc : Cok c) (hz : Clear c) (h : chkV c = 0) (rest : List UInt8) : Eqv (rdC (cmdB c ++ rest)).1 c ∧ (rdC (cmdB c ++ rest)).2 = some rest ∧ (uintS 25 (some (cmdB c ++ rest))).1 = c.kind := by
  obtain ⟨h1, ⟨l1, l2, l3⟩, h3⟩ := chk_fn h
  obtain ⟨k1, k2⟩ := kind_of h1
  have hb := (bads_iff c).1 h3
  have hnum : (fun j => if j ∈ fi c.kind then c.num j else (0 : Int)) = c.num := by
    funext j
    by_cases hj : j ∈ fi c.kind
    · rw [if_pos hj]
    · rw [if_neg hj]
      by_cases h19 : j < 19
      · exact (hb j h19 hj).symm
      · exact (hz j (by omega)).symm
  have hI : ∀ i ∈ fi c.kind, I64 (c.num i) := fun i hi => hc.num i (fi_small _ i hi)
  by_cases h14 : c.kind = 14
  · have e : cmdB c ++ rest = uintB c.kind ++ (numB c (fi c.kind) ++ (stkB c.gives ++ (stkB c.wants ++ rest))) := by unfold cmdB; rw [if_pos h14]; simp
    unfold rdC
    rw [e, uint_put 25 c.kind (by omega) k2 (by omega)]
    dsimp only
    rw [tkN_put c (fi c.kind) hI, if_pos h14]
    dsimp only
    rw [stS_put c.gives hc.gives l1]
    dsimp only
    rw [stS_put c.wants hc.wants l2]
    exact ⟨⟨rfl, hnum, rfl, rfl⟩, rfl, rfl⟩
  · have e : cmdB c ++ rest = uintB c.kind ++ (numB c (fi c.kind) ++ rest) := by unfold cmdB; rw [if_neg h14]; simp
    have hl := l3 h14
    have g0 : c.gives = [] := List.eq_nil_of_length_eq_zero (by omega)
    have w0 : c.wants = [] := List.eq_nil_of_length_eq_zero (by omega)
    unfold rdC
    rw [e, uint_put 25 c.kind (by omega) k2 (by omega)]
    dsimp only
    rw [tkN_put c (fi c.kind) hI, if_neg h14]
    exact ⟨⟨rfl, hnum, g0.symm, w0.symm⟩, rfl, rfl⟩
theorem take_put (c : CmdIn) (hc : Cok c) (hz : Clear c) (h : chkV c = 0) : Eqv (takeV (cmdB c)).1 c ∧ (takeV (cmdB c)).2 = 0 := by
  obtain ⟨h1, h2, h3⟩ := rdC_put c hc hz h []
  rw [List.append_nil] at h1 h2 h3
  unfold takeV
  rw [if_pos ⟨by rw [h2]; rfl, by rw [h3]; exact fi_ne (chk_fn h).1⟩]
  exact ⟨h1, rfl⟩
theorem take_more (c : CmdIn) (hc : Cok c) (hz : Clear c) (h : chkV c = 0) (x : UInt8) (rest : List UInt8) : (takeV (cmdB c ++ x :: rest)).2 = 2 := by
  obtain ⟨h1, h2, h3⟩ := rdC_put c hc hz h (x :: rest)
  unfold takeV
  rw [if_neg (by rw [h2]; rintro ⟨e, -⟩; cases e)]
/-- What is taken was put so. -/
theorem put_take (s : List UInt8) (h : (takeV s).2 = 0) : Cok (takeV s).1 ∧ Clear (takeV s).1 ∧ chkV (takeV s).1 = 0 ∧ cmdB (takeV s).1 = s := by
  unfold takeV at h ⊢
  split at h
  case isFalse => cases h
  case isTrue hd =>
  rw [if_pos hd]
  obtain ⟨hd1, hd2⟩ := hd
  have hsome : (rdC s).2 = some [] := by
    cases hq : (rdC s).2 with
    | none => rw [hq] at hd1; cases hd1
    | some l => rw [hq] at hd1; cases l with
      | nil => rfl
      | cons a b => cases hd1
  obtain ⟨b0, b1, -⟩ := Pen.uint_bounds 25 (some s) (by decide)
  unfold rdC at hsome ⊢
  obtain ⟨u, hu⟩ : ∃ u, uintS 25 (some s) = u := ⟨_, rfl⟩
  rw [hu] at hsome hd2 b0 b1 ⊢
  dsimp only at hsome ⊢
  have hk : 1 ≤ u.1 ∧ u.1 ≤ 25 := by
    apply Decidable.byContradiction
    intro hn
    exact hd2 (fi_out hn)
  have hkI : I64 u.1 := ⟨by omega, by omega⟩
  have hoff := fun j hj => tkN_off (fi u.1) j hj (fun _ => 0) u.2
  by_cases h14 : u.1 = 14
  · rw [if_pos h14] at hsome ⊢
    obtain ⟨w1, w2, w3⟩ := stS_back _ _ hsome
    obtain ⟨g1, g2, g3⟩ := stS_back _ _ w1
    obtain ⟨t1, t2⟩ := tkN_back (fi u.1) (fi_nodup u.1) _ (fun _ => 0) u.2 g1
    have s1 := uint_back (most := 25) (o := some s) (by rw [hu]; exact t1)
    rw [hu] at s1
    refine ⟨⟨hkI, fun i _ => ?_, g2, w2, Nat.le_trans g3 (by decide), Nat.le_trans w3 (by decide)⟩, fun i hi => ?_, chk_of (fn_ne hd2) ⟨g3, w3, fun h => absurd h14 h⟩ ((bads_iff _).2 fun i _ hni => hoff i hni), ?_⟩
    · by_cases hm : i ∈ fi u.1
      · exact t2 i hm
      · show I64 ((tkN (fi u.1) (fun _ => 0) u.2).1 i)
        rw [hoff i hm]; exact ⟨by decide, by decide⟩
    · exact hoff i fun hm => by have := fi_small _ i hm; omega
    · have := Option.some.inj s1
      rw [this]
      unfold cmdB numB
      rw [if_pos h14]
      simp
  · rw [if_neg h14] at hsome ⊢
    obtain ⟨t1, t2⟩ := tkN_back (fi u.1) (fi_nodup u.1) _ (fun _ => 0) u.2 hsome
    have s1 := uint_back (most := 25) (o := some s) (by rw [hu]; exact t1)
    rw [hu] at s1
    refine ⟨⟨hkI, fun i _ => ?_, fun i hi => absurd hi (Nat.not_lt_zero _), fun i hi => absurd hi (Nat.not_lt_zero _), Nat.zero_le _, Nat.zero_le _⟩, fun i hi => ?_, chk_of (fn_ne hd2) ⟨Nat.zero_le _, Nat.zero_le _, fun _ => rfl⟩ ((bads_iff _).2 fun i _ hni => hoff i hni), ?_⟩
    · by_cases hm : i ∈ fi u.1
      · exact t2 i hm
      · show I64 ((tkN (fi u.1) (fun _ => 0) u.2).1 i)
        rw [hoff i hm]; exact ⟨by decide, by decide⟩
    · exact hoff i fun hm => by have := fi_small _ i hm; omega
    · have := Option.some.inj s1
      rw [this]
      unfold cmdB numB
      rw [if_neg h14]
      simp
/-- Bytes that are cut are none. -/
theorem take_cut (c : CmdIn) (hc : Cok c) (hz : Clear c) (h : chkV c = 0) (n : Nat) (hn : n < (cmdB c).length) : (takeV ((cmdB c).take n)).2 = 2 := by
  rcases (show (takeV ((cmdB c).take n)).2 = 2 ∨ (takeV ((cmdB c).take n)).2 = 0 from by unfold takeV; split; exact Or.inr rfl; exact Or.inl rfl) with e | e
  · exact e
  · exfalso
    obtain ⟨a1, a2, a3, a4⟩ := put_take _ e
    have hsplit : cmdB c = (cmdB c).take n ++ (cmdB c).drop n := (List.take_append_drop n _).symm
    cases hd : (cmdB c).drop n with
    | nil =>
      have := congrArg List.length hd
      rw [List.length_drop, List.length_nil] at this
      omega
    | cons x r =>
      rw [hd, ← a4] at hsplit
      have h1 := take_more _ a1 a2 a3 x r
      rw [← hsplit, (take_put c hc hz h).2] at h1
      cases h1
theorem takeV_err (s : List UInt8) : (takeV s).2 = 0 ∨ (takeV s).2 = 2 := by unfold takeV; split; exact Or.inl rfl; exact Or.inr rfl
end Cmd
end Go.Proofs.YtlhalhilnkneeaaGreatDoor
end
