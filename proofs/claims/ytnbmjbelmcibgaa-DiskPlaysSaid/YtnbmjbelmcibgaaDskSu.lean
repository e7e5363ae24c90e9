/- What was sure is there behind any crash: the walk. -/
import Derived.Test.YtnbmjbelmcibgaaDskNb
import Derived.Test.YtnbmjbelmcibgaaDskWh
set_option linter.unusedSimpArgs false
set_option linter.unusedVariables false
namespace Go.Proofs.Ytnbmjbelmcibgaa
open Go.RowKit Go.Great Go.Maps
namespace Dsk
theorem okM : isName mineB = true := by decide
/-- The disk while others' acts are done. -/
structure Mine (L : List UInt8) (n k : Nat) (d : DkIn) : Prop where
  siz : Siz d k
  file : find mineB d.files = some ⟨mineB, L, n⟩
theorem Mine.next {L : List UInt8} {n k : Nat} {d : DkIn} (h : Mine L n k d) (hk : k ≤ 1000) (a : ActIn) (ha : Few a) (h1 : a.name ≠ mineB) (h2 : a.arg ≠ mineB) (h6 : a.kind ≠ 6) : Mine L n (k + 1) (doV d a).2 :=
  ⟨siz_do h.siz hk a ha, (do_keeps h.siz.ok.fok a h1 h2 h6).2.trans h.file⟩
theorem take_str (s t : ByteArray) (q : Nat) : ((s ++ t).extract 0 q).toList = List.take q (s.data.toList ++ t.data.toList) := by
  rw [ByteArray.toList_eq, List.take_append]
  simp
theorem arr_ne {a : List UInt8} {b : Array UInt8} (h : a ≠ b.toList) : ((ByteArray.mk a.toArray).toList == (ByteArray.mk b).toList) = false := by
  rw [neq_str]
  apply decide_eq_false
  intro e
  exact h (by have := congrArg (fun x : ByteArray => x.data.toList) e; simpa using this)
theorem arr_eq {a : List UInt8} {b : Array UInt8} (h : a = b.toList) : ((ByteArray.mk a.toArray).toList == (ByteArray.mk b).toList) = true := by
  rw [neq_str]
  apply decide_eq_true
  subst h
  rfl
set_option maxRecDepth 100000 in
set_option maxHeartbeats 8000000 in
theorem sure_walk (v0 : Value) (l0 : List ByteArray) (h0 : IsTwo v0 l0) (v1 : Value) (acts : List ActB) {w : World} (ha : IsActs w v1 acts) (v2 : Value) (keep : List Int) (hk : In.IsInts .i64 w v2 keep) : Calls Try.prog 4 #[v0, v1, v2] w fun e w' => e = .returned (.bool true) ∧ Below w.heap.size w w' := by
  obtain ⟨sure, more, rfl, rfl, ho, hf⟩ := h0
  have HK := Lib.hid hk
  obtain ⟨ka, kcap, rfl, hkl, -⟩ := hk
  obtain ⟨aa, acap, rfl, hal, hac, hai⟩ := ha
  have HAC := Lib.hid hac
  have HAI := Lib.hid hai
  have SM : Hid (∀ W, Below w.heap.size w W → Calls Try.prog 15 #[.slice aa acts.length acap, .int .i64 20] W fun e w' => (∃ r, e = .returned (.bool r) ∧ (r = true → acts.length ≤ 20 ∧ ∀ i, i < acts.length → Few3 (acts.getD i noA))) ∧ Below W.heap.size W w') := fun W hb => small_any W aa acap acts hal (HAC.out.below hb) 20 (by decide)
  clear hac hai
  unfold maxLen at hkl hal
  have AW : Hid (∀ W, Calls Try.prog 7 #[] W fun e w' => e = .returned (.bool true) ∧ Below W.heap.size W w') := awake_any
  have hB : ∀ q, Below w.heap.size w ((w.alloc (.cells #[.string sure, .string more] 22)).drewN q) := fun q => below_dN (below_al (Below.refl _ _) _) q
  by_cases a1 : 200 < sure.size
  · have da1 : decide (200 < ((sure.size : Nat) : Int)) = true := decide_eq_true (by omega)
    go_enter Try.func4, Try.ntmps4
    go_wp2
    go_quiet (fail)
    have hb0 := hB nq
    generalize ((w.alloc (.cells #[.string sure, .string more] 22)).drewN nq) = W0 at *
    have HB0 := Lib.hid hb0
    clear hb0 hB
    go_wp2_with (go_at_call 7; (with_reducible refine (AW.out _).mono ?_); rintro e wa ⟨rfl, hba⟩)
    go_ret
    exact ⟨rfl, below2 HB0.out hba⟩
  have da1 : decide (200 < ((sure.size : Nat) : Int)) = false := decide_eq_false (by omega)
  by_cases a2 : 200 < more.size
  · have da2 : decide (200 < ((more.size : Nat) : Int)) = true := decide_eq_true (by omega)
    go_enter Try.func4, Try.ntmps4
    go_wp2
    go_quiet (fail)
    have hb0 := hB nq
    generalize ((w.alloc (.cells #[.string sure, .string more] 22)).drewN nq) = W0 at *
    have HB0 := Lib.hid hb0
    clear hb0 hB
    go_wp2_with (go_at_call 7; (with_reducible refine (AW.out _).mono ?_); rintro e wa ⟨rfl, hba⟩)
    go_ret
    exact ⟨rfl, below2 HB0.out hba⟩
  have da2 : decide (200 < ((more.size : Nat) : Int)) = false := decide_eq_false (by omega)
  by_cases a5 : 20 < keep.length
  · have da5 : decide (20 < ((keep.length : Nat) : Int)) = true := decide_eq_true (by omega)
    go_enter Try.func4, Try.ntmps4
    go_wp2
    go_quiet (fail)
    have hb0 := hB nq
    generalize ((w.alloc (.cells #[.string sure, .string more] 22)).drewN nq) = W0 at *
    have HB0 := Lib.hid hb0
    clear hb0 hB
    go_wp2_with (first | (go_at_call 15; (with_reducible refine (SM.out _ HB0.out).mono ?_); rintro e ws ⟨⟨r, rfl, hr⟩, hbs⟩; have HBs := Lib.hid (below2 HB0.out hbs); clear hbs; cases r) | (go_at_call 7; (with_reducible refine (AW.out _).mono ?_); rintro e wa ⟨rfl, hba⟩))
    all_goals (go_ret; exact ⟨rfl, below2 HBs.out hba⟩)
  have da5 : decide (20 < ((keep.length : Nat) : Int)) = false := decide_eq_false (by omega)
  obtain ⟨n0, n1, n2, n3⟩ : Siz (newD 65536) 0 ∧ Siz (oneD mineB sure.data.toList 0 1) 10 ∧ Siz (oneD mineB sure.data.toList sure.data.toList.length 2) 10 ∧ Siz (oneD mineB (sure.data.toList ++ more.data.toList) sure.data.toList.length 3) 10 := by
    have e1 : sure.data.toList.length ≤ 200 := by rw [sz_str]; omega
    have e2 : more.data.toList.length ≤ 200 := by rw [sz_str]; omega
    exact ⟨new_siz 65536 (by decide), one_siz _ _ _ _ okM (Nat.zero_le _) (by decide) (by omega), one_siz _ _ _ _ okM (Nat.le_refl _) (by decide) (by omega), one_siz _ _ _ _ okM (by rw [List.length_append]; omega) (by decide) (by rw [List.length_append]; omega)⟩
  have e1 : sure.data.toList.length ≤ 200 := by rw [sz_str]; omega
  have e2 : more.data.toList.length ≤ 200 := by rw [sz_str]; omega
  have so : sure.size ≤ 1000000000 := by omega
  have sm : more.size ≤ 1000000000 := by omega
  have NEW : Hid (∀ W g m, g = W.heap.size + 1 → m = W.heap.size → Calls Try.prog 8 #[.int .i64 65536] W fun e w' => e = .returned (.tuple #[.pointer (some ⟨g, 0, none⟩), .int .i64 0]) ∧ Hid (PD w' g m 0 (newD 65536)) ∧ Hid (Below W.heap.size W w')) := fun W g m hg hm => by
    rw [hg, hm]
    exact new_any W 65536 (by decide)
  have CA1 : Hid (∀ W g m, PD W g m 0 (newD 65536) → Calls Try.prog 9 #[.pointer (some ⟨g, 0, none⟩), .string ⟨#[109, 105, 110, 101]⟩, .string sure] W fun e w' => e = .returned (.int .i64 0) ∧ Hid (PD w' g m 1 (oneD mineB sure.data.toList 0 1)) ∧ Hid (Bx g m W w')) := fun W g m h => by
    have hq := append_any W g m 0 (newD 65536) h n0.ok (by omega) ⟨#[109, 105, 110, 101]⟩ sure (by decide) so (n0.lens (by omega)).2.1 (n0.lens (by omega)).1
    rw [show appendV (newD 65536) (ByteArray.mk #[109, 105, 110, 101]).data.toList sure.data.toList = _ from new_append mineB sure.data.toList okM e1] at hq
    exact hq
  have CS1 : Hid (∀ W g m, PD W g m 1 (oneD mineB sure.data.toList 0 1) → Calls Try.prog 10 #[.pointer (some ⟨g, 0, none⟩), .string ⟨#[109, 105, 110, 101]⟩] W fun e w' => e = .returned (.int .i64 0) ∧ Hid (PD w' g m 2 (oneD mineB sure.data.toList sure.data.toList.length 2)) ∧ Hid (Bx g m W w')) := fun W g m h => by
    have hq := sync_any W g m 1 _ h n1.ok (by omega) ⟨#[109, 105, 110, 101]⟩ (by decide)
    rw [show syncV (oneD mineB sure.data.toList 0 1) (ByteArray.mk #[109, 105, 110, 101]).data.toList = _ from one_sync mineB sure.data.toList 0 1] at hq
    exact hq
  have CA2 : Hid (∀ W g m, PD W g m 2 (oneD mineB sure.data.toList sure.data.toList.length 2) → Calls Try.prog 9 #[.pointer (some ⟨g, 0, none⟩), .string ⟨#[109, 105, 110, 101]⟩, .string more] W fun e w' => e = .returned (.int .i64 0) ∧ Hid (PD w' g m 3 (oneD mineB (sure.data.toList ++ more.data.toList) sure.data.toList.length 3)) ∧ Hid (Bx g m W w')) := fun W g m h => by
    have hq := append_any W g m 2 _ h n2.ok (by omega) ⟨#[109, 105, 110, 101]⟩ more (by decide) sm (n2.lens (by omega)).2.1 (n2.lens (by omega)).1
    rw [show appendV (oneD mineB sure.data.toList sure.data.toList.length 2) (ByteArray.mk #[109, 105, 110, 101]).data.toList more.data.toList = _ from one_append mineB sure.data.toList more.data.toList _ 2 okM e1 e2] at hq
    exact hq
  go_enter Try.func4, Try.ntmps4
  go_wp2
  go_quiet (fail)
  have hb0 := hB nq
  generalize ((w.alloc (.cells #[.string sure, .string more] 22)).drewN nq) = W0 at *
  have HB0 := Lib.hid hb0
  clear hb0 hB
  go_upto_region 8 with (first
    | (go_at_call 15; (with_reducible refine (SM.out _ HB0.out).mono ?_); rintro e ws ⟨⟨r, rfl, hr⟩, hbs⟩; have HBs := Lib.hid (below2 HB0.out hbs); clear hbs; cases r)
    | (go_at_call 7; (with_reducible refine (AW.out _).mono ?_); rintro e wa ⟨rfl, hba⟩)
    | (go_at_call 8; (with_reducible refine (NEW.out _ _ _ rfl rfl).mono ?_); rintro e w1 ⟨rfl, HP1, HB1⟩; have hg' : w.heap.size ≤ ws.heap.size + 1 := Nat.le_succ_of_le HBs.out.size; have hm' : w.heap.size ≤ ws.heap.size := HBs.out.size; have HBa := Lib.hid (below2 HBs.out HB1.out))
    | (go_at_call 9; (with_reducible refine (CA1.out _ _ _ HP1.out).mono ?_); rintro e w2 ⟨rfl, HP2, HX2⟩; have HBb := Lib.hid (Bx.below2 HBa.out HX2.out (Nat.le_refl _) hg' hm'))
    | (go_at_call 10; (with_reducible refine (CS1.out _ _ _ HP2.out).mono ?_); rintro e w3 ⟨rfl, HP3, HX3⟩; have HBc := Lib.hid (Bx.below2 HBb.out HX3.out (Nat.le_refl _) hg' hm'))
    | (go_at_call 9; (with_reducible refine (CA2.out _ _ _ HP3.out).mono ?_); rintro e w4 ⟨rfl, HP4, HX4⟩; have HBd := Lib.hid (Bx.below2 HBc.out HX4.out (Nat.le_refl _) hg' hm')))
  · go_ret
    exact ⟨rfl, below2 HBs.out hba⟩
  · obtain ⟨hl20, hfw⟩ := hr trivial
    clear NEW CA1 CS1 CA2 n0 n1 n2 hr SM HP1 HP2 HP3 HX2 HX3 HX4 HBa HBb HBc HB1 HB0
    have n3' : Mine (sure.data.toList ++ more.data.toList) sure.data.toList.length 10 (oneD mineB (sure.data.toList ++ more.data.toList) sure.data.toList.length 3) := ⟨n3, one_find _ _ _ _⟩
    have HP4 : Hid (PD w4 (ws.heap.size + 1) ws.heap.size (oneD mineB (sure.data.toList ++ more.data.toList) sure.data.toList.length 3).files.length (oneD mineB (sure.data.toList ++ more.data.toList) sure.data.toList.length 3)) := HP4.out.tight
    generalize oneD mineB (sure.data.toList ++ more.data.toList) sure.data.toList.length 3 = D0 at *
    have HM0 := Lib.hid n3'
    clear n3 n3'
    generalize ws.heap.size + 1 = g at *
    generalize ws.heap.size = m at *
    have CK : Hid (∀ W d, Siz d 40 → PD W g m d.files.length d → Below w.heap.size w W → Calls Try.prog 13 #[.pointer (some ⟨g, 0, none⟩), .slice ka keep.length kcap] W fun e w' => e = .returned (.int .i64 0) ∧ Hid (PD w' g m d.files.length (crashV d keep)) ∧ Hid (Bx g m W w')) := fun W d hs h hb => crash_any w W g m _ d h hs.ok (hs.lens (by omega)).2.2 (hs.lens (by omega)).1 _ keep HK.out hb hg' hm'
    have CDO : Hid (∀ W d i, i < acts.length → PD W g m d.files.length d → Mine (sure.data.toList ++ more.data.toList) sure.data.toList.length (10 + i) d → Below w.heap.size w W → Calls Try.prog 16 #[.pointer (some ⟨g, 0, none⟩), .agg (acts.getD i noA).val] W fun e w' => e = .returned (.tuple #[.string ⟨(doV d (acts.getD i noA).a).1.1.toArray⟩, .int .i64 (doV d (acts.getD i noA).a).1.2]) ∧ Hid (PD w' g m (doV d (acts.getD i noA).a).2.files.length (doV d (acts.getD i noA).a).2) ∧ Hid (Bx g m W w')) := fun W d i hi h hm hb => do_any w W g m d h (10 + i) hm.siz (by omega) _ (HAI.out i hi).came ((HAI.out i hi).few (hfw i hi)) hb hg' hm'
    have hfw := Lib.hid hfw
    go_loopw [11] (fun v wr => ∃ (i : Nat) (d : DkIn), i ≤ acts.length ∧ v = .int .i64 (i : Int) ∧ Hid (PD wr g m d.files.length d) ∧ Hid (Mine (sure.data.toList ++ more.data.toList) sure.data.toList.length (10 + i) d) ∧ Hid (Below w.heap.size w wr)) (fun v _ => acts.length - (intOf v).toNat)
    case atStart => exact ⟨0, D0, Nat.zero_le _, rfl, HP4.out, HM0.out, HBd.out⟩
    case round =>
      obtain ⟨i, d, hil, rfl, HPr, HMr, HBr⟩ := hrel
      by_cases hi : i < acts.length
      · have di : decide ((i : Int) < (acts.length : Int)) = true := decide_eq_true (by omega)
        obtain ⟨bk, off, rfl, hbk, hc⟩ := HAC.out i hi
        have hcc : ∀ j, j < 6 → wr.cell? ⟨bk, off + (i * 6 + j), none⟩ = (acts.getD i noA).val[j]? := fun j hj => (HBr.out.cell (p := ⟨bk, off + (i * 6 + j), none⟩) hbk).trans (hc j hj)
        have CDi := Lib.hid (CDO.out wr d i hi HPr.out HMr.out HBr.out)
        have hfi := hfw.out i hi
        have hci := (HAI.out i hi)
        have HNX : Hid ((acts.getD i noA).a.name ≠ mineB → (acts.getD i noA).a.arg ≠ mineB → (acts.getD i noA).a.kind ≠ 6 → Mine (sure.data.toList ++ more.data.toList) sure.data.toList.length (10 + (i + 1)) (doV d (acts.getD i noA).a).2) := fun h1 h2 h6 => HMr.out.next (by omega) _ (hci.few hfi) h1 h2 h6
        have HSK : Hid (Mine (sure.data.toList ++ more.data.toList) sure.data.toList.length (10 + (i + 1)) d) := ⟨HMr.out.siz.mono (by omega), HMr.out.file⟩
        have c0 := hcc 0 (by decide)
        have c1 := hcc 1 (by decide)
        have c2 := hcc 2 (by decide)
        have c3 := hcc 3 (by decide)
        have c4 := hcc 4 (by decide)
        have c5 := hcc 5 (by decide)
        clear hcc hc hfi hci
        generalize acts.getD i noA = x at *
        obtain ⟨⟨kind, nn, name, arg, half, kp⟩, xa, xc⟩ := x
        unfold ActB.val at *
        dsimp only at HNX CDi
        simp at c0 c1 c2 c3 c4 c5
        rw [← Nat.add_assoc] at c1 c2 c3 c4 c5
        have hbl : bk < wr.heap.size := Nat.lt_of_lt_of_le hbk HBr.out.size
        by_cases h1 : name = mineB
        · have e1 : (name == [109, 105, 110, 101]) = true := beq_iff_eq.2 h1
          go_wp2
          go_roundw
          case rel => exact ⟨i + 1, d, by omega, by go_num, HPr.out, HSK.out, HBr.out⟩
          case measure => simp [intOf]; omega
        have e1 : (name == [109, 105, 110, 101]) = false := beq_eq_false_iff_ne.2 h1
        by_cases h2 : arg = mineB
        · have e2 : (arg == [109, 105, 110, 101]) = true := beq_iff_eq.2 h2
          go_wp2
          go_roundw
          case rel => exact ⟨i + 1, d, by omega, by go_num, HPr.out, HSK.out, HBr.out⟩
          case measure => simp [intOf]; omega
        have e2 : (arg == [109, 105, 110, 101]) = false := beq_eq_false_iff_ne.2 h2
        by_cases h6 : kind = 6
        · subst h6
          go_wp2
          go_roundw
          case rel => exact ⟨i + 1, d, by omega, by go_num, HPr.out, HSK.out, HBr.out⟩
          case measure => simp [intOf]; omega
        have e6 : (kind != 6) = true := bne_iff_ne.2 h6
        have HN := Lib.hid (HNX.out h1 h2 h6)
        clear HNX
        go_wp2_with (go_at_call 16; (with_reducible refine CDi.out.mono ?_); rintro e w5 ⟨rfl, HP5, HX5⟩)
        go_roundw
        case rel => exact ⟨i + 1, _, by omega, by go_num, HP5.out, HN.out, Bx.below2 HBr.out HX5.out (Nat.le_refl _) hg' hm'⟩
        case measure => simp [intOf]; omega
      · have di : decide ((i : Int) < (acts.length : Int)) = false := decide_eq_false (by omega)
        have HS := Lib.hid (HMr.out.siz.mono (by omega : 10 + i ≤ 40))
        have hlaw := sure_law sure.data.toList more.data.toList d HS.out.ok.fok HMr.out.file keep
        have HLW := Lib.hid hlaw
        clear hlaw
        rcases HLW.out with ⟨hrd, hse⟩ | ⟨q, hq1, hq2, hq3, hrd⟩
        · have g1 : (sure.toList == []) = true := by rw [ByteArray.toList_eq, hse]; rfl
          have CR : Hid (∀ W k, PD W g m k (crashV d keep) → Calls Try.prog 14 #[.pointer (some ⟨g, 0, none⟩), .string ⟨#[109, 105, 110, 101]⟩] W fun e w' => e = .returned (.tuple #[.string ⟨#[]⟩, .int .i64 3]) ∧ Below W.heap.size W w') := fun W k h => by
            have hq := read_any W g m k _ h ⟨#[109, 105, 110, 101]⟩ (by decide)
            rw [show readV (crashV d keep) (ByteArray.mk #[109, 105, 110, 101]).data.toList = _ from hrd] at hq
            exact hq
          clear hrd HLW
          go_wp2_with (first
            | (go_at_call 13; (with_reducible refine (CK.out _ _ HS.out HPr.out HBr.out).mono ?_); rintro e w5 ⟨rfl, HP5, HX5⟩; have HB5 := Lib.hid (Bx.below2 HBr.out HX5.out (Nat.le_refl _) hg' hm'))
            | (go_at_call 14; (with_reducible refine (CR.out _ _ HP5.out).mono ?_); rintro e w6 ⟨rfl, hb6⟩; have HB6 := Lib.hid (Bx.below2 (g := g) (m := m) HB5.out (Bx.below hb6) (Nat.le_refl _) hg' hm'); clear hb6)
            | (go_at_call 7; (with_reducible refine (AW.out _).mono ?_); rintro e w7 ⟨rfl, hb7⟩; have HB7 := Lib.hid (Bx.below2 (g := g) (m := m) HB6.out (Bx.below hb7) (Nat.le_refl _) hg' hm'); clear hb7))
          go_ret
          exact ⟨rfl, HB7.out⟩
        · obtain ⟨T, hT⟩ : ∃ T, Hid (List.take q (sure.data.toList ++ more.data.toList) = T) := ⟨_, rfl⟩
          rw [hT.out] at hrd
          have hTl : T.length = q := by rw [← hT.out, List.length_take]; omega
          have hTn : (T == []) = false := by cases T with | nil => simp at hTl; omega | cons x l => rfl
          have CR : Hid (∀ W k, PD W g m k (crashV d keep) → Calls Try.prog 14 #[.pointer (some ⟨g, 0, none⟩), .string ⟨#[109, 105, 110, 101]⟩] W fun e w' => e = .returned (.tuple #[.string ⟨T.toArray⟩, .int .i64 0]) ∧ Below W.heap.size W w') := fun W k h => by
            have hq := read_any W g m k _ h ⟨#[109, 105, 110, 101]⟩ (by decide)
            rw [show readV (crashV d keep) (ByteArray.mk #[109, 105, 110, 101]).data.toList = _ from hrd] at hq
            exact hq
          clear hrd HLW
          rw [List.length_append, sz_str, sz_str] at hq3
          rw [sz_str] at hq1
          have j1 : ((sure.size : Nat) : Int) ≤ ((q : Nat) : Int) := by omega
          have j2 : ((q : Nat) : Int) ≤ ((sure.size + more.size : Nat) : Int) := by omega
          have hts : (ByteArray.mk T.toArray).size = q := by show T.toArray.size = _; rw [List.size_toArray, hTl]
          have hTe : (T == ((sure ++ more).extract 0 q).toList) = true := by rw [take_str, hT.out]; exact beq_self_eq_true T
          go_wp2_with (first
            | (go_at_call 13; (with_reducible refine (CK.out _ _ HS.out HPr.out HBr.out).mono ?_); rintro e w5 ⟨rfl, HP5, HX5⟩; have HB5 := Lib.hid (Bx.below2 HBr.out HX5.out (Nat.le_refl _) hg' hm'))
            | (go_at_call 14; (with_reducible refine (CR.out _ _ HP5.out).mono ?_); rintro e w6 ⟨rfl, hb6⟩; have HB6 := Lib.hid (Bx.below2 (g := g) (m := m) HB5.out (Bx.below hb6) (Nat.le_refl _) hg' hm'); clear hb6)
            | (go_at_call 7; (with_reducible refine (AW.out _).mono ?_); rintro e w7 ⟨rfl, hb7⟩; have HB7 := Lib.hid (Bx.below2 (g := g) (m := m) HB6.out (Bx.below hb7) (Nat.le_refl _) hg' hm'); clear hb7))
          go_ret
          exact ⟨rfl, HB7.out⟩
end Dsk
end Go.Proofs.Ytnbmjbelmcibgaa
