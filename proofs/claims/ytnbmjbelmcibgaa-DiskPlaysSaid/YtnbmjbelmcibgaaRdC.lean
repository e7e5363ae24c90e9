/- The document's disk: a file is put in: the walk. -/
import Derived.Test.YtnbmjbelmcibgaaRdB
import Derived.BigQuiet
import Derived.Deep.QuietTactic
set_option linter.unusedSimpArgs false
set_option linter.unusedVariables false
namespace Go.Proofs.Ytnbmjbelmcibgaa
open Go.RowKit Go.Great Go.Maps
namespace Dsk
theorem less_before : ∀ x y : List UInt8, Go.Op.bytesLess x y = bytesBefore x y
  | [], [] => rfl
  | [], _ :: _ => rfl
  | _ :: _, [] => rfl
  | a :: r, b :: t => by
    have ih := less_before r t
    unfold Go.Op.bytesLess bytesBefore
    rw [ih]
/-- What is written when so many files were looked at. -/
def PutAt (f : FileIn) (M : List FileIn) (k : Nat) (dn : Bool) (outs : List FileIn) : Prop :=
  (dn = false ∧ outs = M.take k ∧ ins f M = M.take k ++ ins f (M.drop k)) ∨ (dn = true ∧ outs ++ M.drop k = ins f M)
theorem putAt_zero (f : FileIn) (M : List FileIn) : PutAt f M 0 false [] := Or.inl ⟨rfl, rfl, rfl⟩
theorem putAt_here {f : FileIn} {M outs : List FileIn} {k : Nat} (h : PutAt f M k false outs) (hk : k < M.length) (hb : bytesBefore f.nm M[k].nm = true) : PutAt f M (k + 1) true (outs ++ [f] ++ [M[k]]) := by
  rcases h with ⟨-, h1, h2⟩ | ⟨h, -⟩
  · refine Or.inr ⟨rfl, ?_⟩
    rw [h1, h2, List.drop_eq_getElem_cons hk]
    unfold ins
    rw [if_pos hb]
    simp
  · cases h
theorem putAt_past {f : FileIn} {M outs : List FileIn} {k : Nat} (h : PutAt f M k false outs) (hk : k < M.length) (hb : ¬ bytesBefore f.nm M[k].nm = true) : PutAt f M (k + 1) false (outs ++ [M[k]]) := by
  rcases h with ⟨-, h1, h2⟩ | ⟨h, -⟩
  · refine Or.inl ⟨rfl, ?_, ?_⟩
    · rw [h1, List.take_succ_eq_append_getElem hk]
    · have e : M.take (k + 1) = M.take k ++ [M[k]] := List.take_succ_eq_append_getElem hk
      rw [h2, List.drop_eq_getElem_cons hk, e]
      rw [show ins f (M[k] :: M.drop (k + 1)) = M[k] :: ins f (M.drop (k + 1)) from by rw [ins, if_neg hb], List.append_assoc]
      rfl
  · cases h
theorem putAt_done {f : FileIn} {M outs : List FileIn} {k : Nat} (h : PutAt f M k true outs) (hk : k < M.length) : PutAt f M (k + 1) true (outs ++ [M[k]]) := by
  rcases h with ⟨h, -⟩ | ⟨-, h⟩
  · cases h
  · refine Or.inr ⟨rfl, ?_⟩
    rw [← h, List.drop_eq_getElem_cons hk]
    simp
theorem putAt_end {f : FileIn} {M outs : List FileIn} {dn : Bool} (h : PutAt f M M.length dn outs) : ins f M = if dn then outs else outs ++ [f] := by
  rcases h with ⟨rfl, h1, h2⟩ | ⟨rfl, h⟩
  · rw [h2, h1]
    simp [ins]
  · rw [← h]
    simp
theorem putAt_len {f : FileIn} {M outs : List FileIn} {k : Nat} {dn : Bool} (h : PutAt f M k dn outs) : outs.length ≤ M.length + 1 := by
  rcases h with ⟨rfl, h1, h2⟩ | ⟨rfl, h⟩
  · rw [h1, List.length_take]
    omega
  · have := congrArg List.length h
    rw [List.length_append, (bytes_ins f M).2] at this
    omega
set_option maxRecDepth 100000 in
set_option maxHeartbeats 8000000 in
theorem rput_any (w : World) (g B : Nat) (v : Value) (d : DkIn) (h : RD w g B v d) (hn : d.files.length < 90000) (f : FileIn) : Calls Try.prog 43 #[.pointer (some ⟨g, 0, none⟩), .agg #[.string ⟨f.nm.toArray⟩, .string ⟨f.by'.toArray⟩, .int .i64 f.sure]] w fun e w' => e = .returned (.tuple #[]) ∧ (∃ v', Hid (RD w' g B v' { d with files := putF f d.files })) ∧ Hid (Bx g g w w') := by
  obtain ⟨i0, hi0, hz0, hz1, hz2⟩ := info_parts infoF
  obtain ⟨fn, fb, fs⟩ := f
  dsimp only
  obtain ⟨K, hK⟩ : ∃ K, K = Obj.cells #[.string ⟨fn.toArray⟩, .string ⟨fb.toArray⟩, .int .i64 fs] 70 := ⟨_, rfl⟩
  have CT : Hid (Calls Try.prog 45 #[.pointer (some ⟨g, 0, none⟩), .string ⟨fn.toArray⟩] (w.alloc K) fun e w' => e = .returned (.tuple #[]) ∧ (∃ v', Hid (RD w' g B v' { d with files := del fn d.files }) ∧ Hid (∀ b, v'.ownBlock = some b → (w.alloc K).heap.size ≤ b)) ∧ Hid (Bx g g (w.alloc K) w')) := rtake_any _ g B v d (h.below (below_al (Below.refl _ _) _)) (by omega) ⟨fn.toArray⟩
  have q : (w.alloc K).cell? ⟨w.heap.size, 0, none⟩ = some (.string ⟨fn.toArray⟩) ∧ (w.alloc K).cell? ⟨w.heap.size, 1, none⟩ = some (.string ⟨fb.toArray⟩) ∧ (w.alloc K).cell? ⟨w.heap.size, 2, none⟩ = some (.int .i64 fs) := by
    subst hK
    refine ⟨?_, ?_, ?_⟩ <;> (rw [World.cell?_alloc_at _ _ _ _ (by simp)]; rfl)
  have hgl := h.lt
  have hlo := h.lo
  have hln := (bytes_del fn d.files).2
  have HQ := Lib.hid q
  have hws : (w.alloc K).heap.size = w.heap.size + 1 := by simp
  clear h q
  subst hK
  go_enter Try.func43, Try.ntmps43
  go_wp2_with (go_at_call 45; (with_reducible refine CT.out.mono ?_); rintro e w1 ⟨rfl, ⟨v1, HP1, -⟩, HX1⟩)
  have hs1 : w.heap.size + 1 ≤ w1.heap.size := by rw [← hws]; exact HX1.out.size
  have bq : ∀ j, w1.cell? ⟨w.heap.size, j, none⟩ = (w.alloc (.cells #[.string ⟨fn.toArray⟩, .string ⟨fb.toArray⟩, .int .i64 fs] 70)).cell? ⟨w.heap.size, j, none⟩ := fun j => by
    unfold World.cell?
    rw [HX1.out.block w.heap.size (by omega) (by omega) (by omega)]
  have b0 := (bq 0).trans HQ.out.1
  have b1 := (bq 1).trans HQ.out.2.1
  have b2 := (bq 2).trans HQ.out.2.2
  clear bq HQ CT
  obtain ⟨M, hM⟩ : ∃ M, Hid (del fn d.files = M) := ⟨_, rfl⟩
  rw [hM.out] at hln HP1
  obtain ⟨L, hL⟩ : ∃ L, Hid (M.length = L) := ⟨_, rfl⟩
  have hLb : L < 90000 := by have := hL.out; omega
  obtain ⟨c0, -⟩ := HP1.out.cells
  have hgl1 := HP1.out.lt
  have HR0 := HP1.out.form hL.out
  obtain ⟨a, cap, rfl, HR⟩ := HR0
  have HR := Lib.hid HR
  dsimp only at HR
  have HB0 : Hid (Bx g g w w1) := (Bx.below (below_al (Below.refl _ _) _)).trans HX1.out
  go_loopw [4, 5, 6] (fun x4 x5 x6 wr => ∃ (k : Nat) (dn : Bool) (outs : List FileIn), x6 = .int .i64 (k : Int) ∧ x5 = .bool dn ∧ k ≤ L ∧ Hid (PutAt ⟨fn, fb, fs⟩ M k dn outs) ∧ Hid (wr.ownsRow w1.heap.size 70 3 x4 outs.length (fileVals outs)) ∧ Hid (Below w1.heap.size w1 wr)) (fun _ _ x _ => L - (intOf x).toNat)
  case atStart => exact ⟨0, false, [], rfl, rfl, Nat.zero_le _, putAt_zero _ _, World.ownsRow_nil _ _ _ _, Below.refl _ _⟩
  case round =>
    obtain ⟨k, dn, outs, rfl, rfl, hk, HA, HO, HB⟩ := hrel
    have HLn : Hid (outs.length ≤ 90001) := by
      have := putAt_len HA.out
      have := hL.out
      show outs.length ≤ 90001
      omega
    have p0 := (HB.out.cell (p := ⟨g, 0, none⟩) hgl1).trans c0
    have hgr : g < wr.heap.size := Nat.lt_of_lt_of_le hgl1 HB.out.size
    have hbr : w.heap.size < wr.heap.size := by have := HB.out.size; omega
    have q0 := (HB.out.cell (p := ⟨w.heap.size, 0, none⟩) (by show w.heap.size < _; omega)).trans b0
    have q1 := (HB.out.cell (p := ⟨w.heap.size, 1, none⟩) (by show w.heap.size < _; omega)).trans b1
    have q2 := (HB.out.cell (p := ⟨w.heap.size, 2, none⟩) (by show w.heap.size < _; omega)).trans b2
    by_cases hkl : k < L
    · have dk : decide ((k : Int) < (L : Int)) = true := decide_eq_true (by omega)
      have hkl2 : k < M.length := by rw [hL.out]; exact hkl
      obtain ⟨gv, rfl, hg1, hg2, hg3, x0, x1, x2⟩ := HR.out k hkl2
      have HXO := Lib.hid (And.intro x0 (And.intro x1 x2))
      replace x0 := (HB.out.cell (p := ⟨gv, k * 3, none⟩) hg2).trans x0
      replace x1 := (HB.out.cell (p := ⟨gv, k * 3 + 1, none⟩) hg2).trans x1
      replace x2 := (HB.out.cell (p := ⟨gv, k * 3 + 2, none⟩) hg2).trans x2
      have hgvr : gv < wr.heap.size := Nat.lt_of_lt_of_le hg2 HB.out.size
      have H1 : Hid (dn = true → PutAt ⟨fn, fb, fs⟩ M (k + 1) true (outs ++ [M[k]])) := fun e => by subst e; exact putAt_done HA.out hkl2
      have H2 : Hid (dn = false → bytesBefore fn M[k].nm = true → PutAt ⟨fn, fb, fs⟩ M (k + 1) true (outs ++ [⟨fn, fb, fs⟩] ++ [M[k]])) := fun e hb => by subst e; exact putAt_here HA.out hkl2 hb
      have H3 : Hid (dn = false → ¬ bytesBefore fn M[k].nm = true → PutAt ⟨fn, fb, fs⟩ M (k + 1) false (outs ++ [M[k]])) := fun e hb => by subst e; exact putAt_past HA.out hkl2 hb
      generalize M[k] = z at *
      obtain ⟨zn, zb, zs⟩ := z
      dsimp only at *
      cases dn with
      | true =>
        have HA2 := Lib.hid (H1.out rfl)
        clear H1 H2 H3
        go_upto_region 7 with (fail)
        go_quiet (fail)
        have HOq := Lib.hid (Own.own_below HO.out (below_dN (Below.refl wr.heap.size wr) nq))
        have HBq : Hid (Below w1.heap.size w1 (wr.drewN nq)) := below_dN HB.out nq
        obtain ⟨r0, r1, r2, r3, r4, r5, r6⟩ : (wr.drewN nq).cell? ⟨g, 0, none⟩ = _ ∧ (wr.drewN nq).cell? ⟨w.heap.size, 0, none⟩ = _ ∧ (wr.drewN nq).cell? ⟨w.heap.size, 1, none⟩ = _ ∧ (wr.drewN nq).cell? ⟨w.heap.size, 2, none⟩ = _ ∧ (wr.drewN nq).cell? ⟨gv, k * 3, none⟩ = _ ∧ (wr.drewN nq).cell? ⟨gv, k * 3 + 1, none⟩ = _ ∧ (wr.drewN nq).cell? ⟨gv, k * 3 + 2, none⟩ = _ := ⟨p0, q0, q1, q2, x0, x1, x2⟩
        obtain ⟨y0, y1, y2⟩ : g < (wr.drewN nq).heap.size ∧ gv < (wr.drewN nq).heap.size ∧ w.heap.size < (wr.drewN nq).heap.size := ⟨hgr, hgvr, hbr⟩
        clear p0 q0 q1 q2 x0 x1 x2 hgr hgvr hbr HO HB
        generalize wr.drewN nq = wq at *
        go_wp2_with (at_builtin; refine list_file rfl (.tmp 39) (.tmp 47) 48 rfl w1.heap.size 70 i0 _ 40 Try.underlying48 hi0 hz0 hz1 hz2 rfl _ _ _ rfl _ _ ⟨zn, zb, zs⟩ rfl (HOq.out.alloc _) (trip_new _ _ _ _ _).1 (trip_new _ _ _ _ _).2.1 (trip_new _ _ _ _ _).2.2 ?h1 ?h2 ?h3 ?_; (case h1 => have := HLn.out; unfold maxLen; omega); (case h2 => have := HLn.out; omega); (case h3 => have := HBq.out.size; simp; omega); intro v4 w4 hown hgrow; have HB4 := Lib.hid ((below_al HBq.out _).grown hgrow (below_al HBq.out _).size (Own.own_block HOq.out (Nat.le_refl _))); have HO4 := Lib.hid hown; clear hown hgrow)
        go_roundw
        case rel => exact ⟨k + 1, true, _, by go_num, rfl, by omega, HA2.out, by rw [List.length_append]; exact HO4.out, HB4.out⟩
        case measure => simp [intOf]; omega
      | false =>
        by_cases hb : bytesBefore fn zn = true
        · have HA2 := Lib.hid (H2.out rfl hb)
          have hbl : Go.Op.bytesLess fn zn = true := by rw [less_before]; exact hb
          clear H1 H2 H3 hb
          go_upto_region 7 with (fail)
          go_quiet (fail)
          have HOq := Lib.hid (Own.own_below HO.out (below_dN (Below.refl wr.heap.size wr) nq))
          have HBq : Hid (Below w1.heap.size w1 (wr.drewN nq)) := below_dN HB.out nq
          obtain ⟨r0, r1, r2, r3, r4, r5, r6⟩ : (wr.drewN nq).cell? ⟨g, 0, none⟩ = _ ∧ (wr.drewN nq).cell? ⟨w.heap.size, 0, none⟩ = _ ∧ (wr.drewN nq).cell? ⟨w.heap.size, 1, none⟩ = _ ∧ (wr.drewN nq).cell? ⟨w.heap.size, 2, none⟩ = _ ∧ (wr.drewN nq).cell? ⟨gv, k * 3, none⟩ = _ ∧ (wr.drewN nq).cell? ⟨gv, k * 3 + 1, none⟩ = _ ∧ (wr.drewN nq).cell? ⟨gv, k * 3 + 2, none⟩ = _ := ⟨p0, q0, q1, q2, x0, x1, x2⟩
          obtain ⟨y0, y1, y2⟩ : g < (wr.drewN nq).heap.size ∧ gv < (wr.drewN nq).heap.size ∧ w.heap.size < (wr.drewN nq).heap.size := ⟨hgr, hgvr, hbr⟩
          clear p0 q0 q1 q2 x0 x1 x2 hgr hgvr hbr HO HB
          generalize wr.drewN nq = wq at *
          go_wp2_with (first
            | (at_builtin; refine list_file rfl (.tmp 35) (.tmp 37) 48 rfl w1.heap.size 70 i0 _ 40 Try.underlying48 hi0 hz0 hz1 hz2 rfl _ _ _ rfl _ _ ⟨fn, fb, fs⟩ rfl (HOq.out.alloc _) (trip_new _ _ _ _ _).1 (trip_new _ _ _ _ _).2.1 (trip_new _ _ _ _ _).2.2 ?h1 ?h2 ?h3 ?_; (case h1 => have := HLn.out; unfold maxLen; omega); (case h2 => have := HLn.out; omega); (case h3 => have := HBq.out.size; simp; omega); intro v4 w4 hown hgrow; have HB4 := Lib.hid ((below_al HBq.out _).grown hgrow (below_al HBq.out _).size (Own.own_block HOq.out (Nat.le_refl _))); have HO4 := Lib.hid hown; clear hown hgrow; obtain ⟨X0, X1, X2⟩ := HXO.out; have t0 := (HB4.out.cell (p := ⟨g, 0, none⟩) hgl1).trans c0; have t1 := (HB4.out.cell (p := ⟨gv, k * 3, none⟩) hg2).trans X0; have t2 := (HB4.out.cell (p := ⟨gv, k * 3 + 1, none⟩) hg2).trans X1; have t3 := (HB4.out.cell (p := ⟨gv, k * 3 + 2, none⟩) hg2).trans X2; have t4 := Nat.lt_of_lt_of_le hgl1 HB4.out.size; have t5 := Nat.lt_of_lt_of_le hg2 HB4.out.size; clear X0 X1 X2)
            | (at_builtin; refine list_file rfl (.tmp 39) (.tmp 47) 48 rfl w1.heap.size 70 i0 _ 40 Try.underlying48 hi0 hz0 hz1 hz2 rfl _ _ _ rfl _ _ ⟨zn, zb, zs⟩ rfl (HO4.out.alloc _) (trip_new _ _ _ _ _).1 (trip_new _ _ _ _ _).2.1 (trip_new _ _ _ _ _).2.2 ?h1 ?h2 ?h3 ?_; (case h1 => have := HLn.out; unfold maxLen; omega); (case h2 => have := HLn.out; omega); (case h3 => have := HB4.out.size; simp; omega); intro v5 w5 hown hgrow; have HB5 := Lib.hid ((below_al HB4.out _).grown hgrow (below_al HB4.out _).size (Own.own_block HO4.out (Nat.le_refl _))); have HO5 := Lib.hid hown; clear hown hgrow))
          go_roundw
          case rel => exact ⟨k + 1, true, _, by go_num, rfl, by omega, HA2.out, by rw [List.length_append, List.length_append]; exact HO5.out, HB5.out⟩
          case measure => simp [intOf]; omega
        · have HA2 := Lib.hid (H3.out rfl hb)
          have hbl : Go.Op.bytesLess fn zn = false := by rw [less_before]; exact Bool.eq_false_iff.2 hb
          clear H1 H2 H3 hb
          go_upto_region 7 with (fail)
          go_quiet (fail)
          have HOq := Lib.hid (Own.own_below HO.out (below_dN (Below.refl wr.heap.size wr) nq))
          have HBq : Hid (Below w1.heap.size w1 (wr.drewN nq)) := below_dN HB.out nq
          obtain ⟨r0, r1, r2, r3, r4, r5, r6⟩ : (wr.drewN nq).cell? ⟨g, 0, none⟩ = _ ∧ (wr.drewN nq).cell? ⟨w.heap.size, 0, none⟩ = _ ∧ (wr.drewN nq).cell? ⟨w.heap.size, 1, none⟩ = _ ∧ (wr.drewN nq).cell? ⟨w.heap.size, 2, none⟩ = _ ∧ (wr.drewN nq).cell? ⟨gv, k * 3, none⟩ = _ ∧ (wr.drewN nq).cell? ⟨gv, k * 3 + 1, none⟩ = _ ∧ (wr.drewN nq).cell? ⟨gv, k * 3 + 2, none⟩ = _ := ⟨p0, q0, q1, q2, x0, x1, x2⟩
          obtain ⟨y0, y1, y2⟩ : g < (wr.drewN nq).heap.size ∧ gv < (wr.drewN nq).heap.size ∧ w.heap.size < (wr.drewN nq).heap.size := ⟨hgr, hgvr, hbr⟩
          clear p0 q0 q1 q2 x0 x1 x2 hgr hgvr hbr HO HB
          generalize wr.drewN nq = wq at *
          go_wp2_with (at_builtin; refine list_file rfl (.tmp 39) (.tmp 47) 48 rfl w1.heap.size 70 i0 _ 40 Try.underlying48 hi0 hz0 hz1 hz2 rfl _ _ _ rfl _ _ ⟨zn, zb, zs⟩ rfl (HOq.out.alloc _) (trip_new _ _ _ _ _).1 (trip_new _ _ _ _ _).2.1 (trip_new _ _ _ _ _).2.2 ?h1 ?h2 ?h3 ?_; (case h1 => have := HLn.out; unfold maxLen; omega); (case h2 => have := HLn.out; omega); (case h3 => have := HBq.out.size; simp; omega); intro v4 w4 hown hgrow; have HB4 := Lib.hid ((below_al HBq.out _).grown hgrow (below_al HBq.out _).size (Own.own_block HOq.out (Nat.le_refl _))); have HO4 := Lib.hid hown; clear hown hgrow)
          go_roundw
          case rel => exact ⟨k + 1, false, _, by go_num, rfl, by omega, HA2.out, by rw [List.length_append]; exact HO4.out, HB4.out⟩
          case measure => simp [intOf]; omega
    · have dk : decide ((k : Int) < (L : Int)) = false := decide_eq_false (by omega)
      have hkL : k = M.length := by have := hL.out; omega
      subst hkL
      have hend := putAt_end HA.out
      have hput : putF ⟨fn, fb, fs⟩ d.files = ins ⟨fn, fb, fs⟩ M := by unfold putF; rw [hM.out]
      rw [← hput] at hend
      have HE := Lib.hid hend
      clear hend hput
      cases dn with
      | true =>
        have hE2 : Hid (putF ⟨fn, fb, fs⟩ d.files = outs) := HE.out
        have HPr := Lib.hid (HP1.out.below HB.out)
        have f1 := World.rowIs.frozen HPr.out.row 0
        have HNE := Lib.hid (own_ne HO.out hgl1)
        obtain ⟨oa, oc, hoe⟩ := own_slice HO.out
        subst hoe
        clear HE
        go_wp2
        go_end0
        rw [hE2.out]
        exact ⟨rfl, ⟨_, RD.setFiles HPr.out.row HPr.out.lo (HO.out.mono HP1.out.hB) HNE.out⟩, (HB0.out.trans (Bx.below HB.out)).trans (bx_set _ _ _ _)⟩
      | false =>
        have hE2 : Hid (putF ⟨fn, fb, fs⟩ d.files = outs ++ [⟨fn, fb, fs⟩]) := HE.out
        clear HE
        go_wp2_with (at_builtin; refine list_file rfl (.tmp 51) (.tmp 53) 48 rfl w1.heap.size 70 i0 _ 40 Try.underlying48 hi0 hz0 hz1 hz2 rfl _ _ _ rfl _ _ ⟨fn, fb, fs⟩ rfl (HO.out.alloc _) (trip_new _ _ _ _ _).1 (trip_new _ _ _ _ _).2.1 (trip_new _ _ _ _ _).2.2 ?h1 ?h2 ?h3 ?_; (case h1 => have := HLn.out; unfold maxLen; omega); (case h2 => have := HLn.out; omega); (case h3 => have := HB.out.size; simp; omega); intro v4 w4 hown hgrow; have HB4 := Lib.hid ((below_al HB.out _).grown hgrow (below_al HB.out _).size (Own.own_block HO.out (Nat.le_refl _))); have HO4 := Lib.hid hown; clear hown hgrow; have HPr := Lib.hid (HP1.out.below HB4.out); have f1 := World.rowIs.frozen HPr.out.row 0; have HNE := Lib.hid (own_ne HO4.out hgl1); have t0 := (HB4.out.cell (p := ⟨g, 0, none⟩) hgl1).trans c0; obtain ⟨oa, oc, hoe⟩ := own_slice HO4.out; subst hoe)
        go_end0
        rw [hE2.out]
        exact ⟨rfl, ⟨_, RD.setFiles HPr.out.row HPr.out.lo (by rw [List.length_append]; exact HO4.out.mono HP1.out.hB) HNE.out⟩, (HB0.out.trans (Bx.below HB4.out)).trans (bx_set _ _ _ _)⟩
end Dsk
end Go.Proofs.Ytnbmjbelmcibgaa
