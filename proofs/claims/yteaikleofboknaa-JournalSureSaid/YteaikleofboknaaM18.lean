/- Texts put together: JrW. -/
import Derived.Test.YteaikleofboknaaM17
import Derived.Deep.Cut
import Derived.Deep.CutBlock
import Derived.Deep.DeepCutAuto
import Derived.Deep.RegionLaw
import Derived.Deep.AppendLies
import Derived.StillTailTactics
import Derived.Deep.RegionWith
set_option linter.all false
section
set_option maxRecDepth 100000
namespace Go.Proofs.Yteaikleofboknaa
open Go.RowKit Go.Great Go.Maps
namespace Jrn
open Frm (fits num put scan strs rows allS allE oks ok cats)
open In (strVals Strs)
open Dsk (below2 below_al below_dN DkIn PD Bx Dok FileIn newD namesV crashV fuseV)
theorem noK_is (W : World) : KIs W noK := by
  have h0 : In.IsInts .i64 W (.slice none ([] : List Int).length 0) [] := ⟨none, 0, rfl, Nat.zero_le _, fun i hi => absurd hi (Nat.not_lt_zero i), fun n hn => (by cases hn), Nat.zero_le _, Nat.zero_le _⟩
  exact ⟨h0, by decide, by decide, Nat.zero_le _, by kernel_rfl, ⟨⟨h0, by decide⟩, by kernel_rfl, Nat.zero_le _, Nat.zero_le _⟩⟩
theorem arr_list {A : ByteArray} {l : List UInt8} (h : (⟨l.toArray⟩ : ByteArray) = A) : A.data.toList = l := by rw [← h]
set_option maxHeartbeats 8000000 in
theorem sure_walk (v1 : Value) (acts : List ActK) {w : World} (hA : IsActsK w v1 acts) : Calls Try.prog 5 #[v1] w fun e w' => e = .returned (.bool true) ∧ Below w.heap.size w w' := by
  obtain ⟨aa, acap, rfl, hal, hac, hai⟩ := hA
  have HAC := Lib.hid hac
  have HAI := Lib.hid hai
  have AW : Hid (∀ W, Calls Try.prog 8 #[] W fun e w' => e = .returned (.bool true) ∧ Below W.heap.size W w') := awake_any
  have SML : Hid (∀ W, Below w.heap.size w W → Calls Try.prog 7 #[.slice aa acts.length acap, .int .i64 30] W fun e w' => (∃ r, e = .returned (.bool r) ∧ (r = true → acts.length ≤ 30 ∧ ∀ i, i < acts.length → FewK (acts.getD i noK))) ∧ Below W.heap.size W w') := fun W hb => small33_any W aa acap acts hal (HAC.out.below hb)
  obtain ⟨g, hg⟩ : ∃ g, g = w.heap.size + 1 := ⟨_, rfl⟩
  obtain ⟨m, hm⟩ : ∃ m, m = w.heap.size := ⟨_, rfl⟩
  have NEW : Hid (Calls Try.prog 6 #[.int .i64 1048576] w fun e w' => e = .returned (.tuple #[.pointer (some ⟨g, 0, none⟩), .int .i64 0]) ∧ Hid (PD w' g m 0 (newD 1048576)) ∧ Hid (Below w.heap.size w w')) := by
    rw [hg, hm]
    exact Dsk.new_any w 1048576 (by omega)
  have hg' : w.heap.size ≤ g := by omega
  have hm' : w.heap.size ≤ m := by omega
  clear hg hm
  have hI : (openV (newD 1048576) 0).1 = 0 ∧ Open' (openV (newD 1048576) 0).2 S0 3 17 ∧ Calm (openV (newD 1048576) 0).2 ∧ (openV (newD 1048576) 0).2.room = (newD 1048576).room := calm_open (S := S0) (new_rest 1048576) (gr_new (z := 1048576) (by omega)) (by decide) (by decide) (by show (0 : Int) + 17 ≤ 1048576 + _; omega) (new_calm 1048576)
  have O1 : Hid (∀ W, PD W g m 0 (newD 1048576) → Calls Try.prog 9 #[.pointer (some ⟨g, 0, none⟩)] W fun e w' => ∃ j a cap, e = .returned (.tuple #[.pointer (some ⟨j, 0, none⟩), .agg #[.int .i64 0, .bool false, .string ⟨#[]⟩, .slice a 0 cap], .int .i64 0]) ∧ Hid (JR w' j g 0 0 false) ∧ W.heap.size ≤ j ∧ Hid (Recs w' W.heap.size a []) ∧ (a = none → cap = 0) ∧ Hid (PD w' g m (openV (newD 1048576) 0).2.files.length (openV (newD 1048576) 0).2) ∧ Hid (Bx g m W w')) := fun W hp =>
    open_ok W g m 0 0 (newD 1048576) ⟨hp, gr_new (by omega)⟩ (by decide) (by decide) S0 (new_rest 1048576) (by decide) (by decide) (by decide) hI.1
  have HI := Lib.hid hI.2
  have hroom : (openV (newD 1048576) 0).2.room = 1048576 := hI.2.2.2
  clear hI hac hai
  generalize (openV (newD 1048576) 0).2 = dI at *
  unfold maxLen at hal
  obtain ⟨L, hL⟩ : ∃ L, Hid (acts.length = L) := ⟨_, rfl⟩
  rw [hL.out] at SML hal ⊢
  go_enter Try.func5, Try.ntmps5
  go_wp2_with (first
    | (go_at_call 6; (with_reducible refine NEW.out.mono ?_); rintro e w1 ⟨rfl, HP1, HB1⟩)
    | (go_at_call 7; (with_reducible refine (SML.out _ HB1.out).mono ?_); rintro e w2 ⟨⟨r, rfl, hr⟩, hb2⟩; have HB2 := Lib.hid (below2 HB1.out hb2); have HP2 := Lib.hid (HP1.out.below hb2); clear hb2; cases r)
    | (go_at_call 8; (with_reducible refine (AW.out _).mono ?_); rintro e wa ⟨rfl, hba⟩; have HBa := Lib.hid (below2 HB2.out hba); clear hba)
    | (go_at_call 9; (with_reducible refine (O1.out _ HP2.out).mono ?_); rintro e w3 ⟨j, sa, sc, rfl, HJ3, hjw, HR3, hnil, HP3, HX3⟩; have HB3 := Lib.hid (bx_below HB2.out HX3.out hg' hm'); have hjg : j ≠ g := (by have := HP2.out.lt.1; omega); have hjm : j ≠ m := (by have := HP2.out.lt.2; omega); have hj' : w.heap.size ≤ j := Nat.le_trans HB2.out.size hjw))
  · go_ret
    exact ⟨rfl, HBa.out⟩
  · obtain ⟨hL30, hfew⟩ := hr trivial
    have HFE := Lib.hid hfew
    obtain ⟨nb, hnb⟩ : ∃ nb, Hid (w3.heap.size = nb) := ⟨_, rfl⟩
    obtain ⟨mb, hmb⟩ : ∃ mb, Hid (w3.heap.size + 1 = mb) := ⟨_, rfl⟩
    have HF0 : Hid (SS w ((w3.alloc (.cells #[.int .i64 0, .bool false, .string ⟨#[]⟩, .slice sa 0 sc] 33)).alloc (.cells #[.int .i64 0, .bool false, .string ⟨#[]⟩, .slice sa 0 sc] 33)) g m nb mb j S0 S0 dI sa sc sa sc 3 17 0) := by
      have hl := HP3.out.lt
      have hj3 := HJ3.out.lt
      have hn := hnb.out
      have hm3 := hmb.out
      have hb0 : Below w3.heap.size w3 ((w3.alloc (.cells #[.int .i64 0, .bool false, .string ⟨#[]⟩, .slice sa 0 sc] 33)).alloc (.cells #[.int .i64 0, .bool false, .string ⟨#[]⟩, .slice sa 0 sc] 33)) := below_al (below_al (Below.refl _ _) _) _
      have hsz := HB3.out.size
      refine ⟨Or.inl ⟨rfl, HI.out.1.live, HI.out.1.goes, HJ3.out.below hb0⟩, HI.out.1.gr, hroom, HP3.out.below hb0, ?_, ?_, HR3.out.lie.below hb0, HR3.out.lie.below hb0, fun h => absurd rfl h, fun h => absurd rfl h, hnil, hnil, below2 HB3.out hb0, ⟨hg', hm', hj', by omega, by omega⟩, ⟨hjg, hjm, by omega, by omega, by omega, by omega, by omega, by omega, by omega⟩, ⟨by decide, by decide, by decide⟩, ⟨by decide, by decide, by decide⟩, by decide, by decide⟩
      · rw [← hn]; exact heap_alloc2_old w3 _ _
      · rw [← hm3]; exact heap_alloc2_new w3 _ _
    rw [hmb.out, hnb.out]
    generalize ((w3.alloc (.cells #[.int .i64 0, .bool false, .string ⟨#[]⟩, .slice sa 0 sc] 33)).alloc (.cells #[.int .i64 0, .bool false, .string ⟨#[]⟩, .slice sa 0 sc] 33)) = W3 at *
    clear hr hfew SML O1 NEW HI HP1 HB1 HB2 HP2 HP3 HX3 HB3 HJ3 HR3
    go_loopw [5, 9] (fun vj vi wr => ∃ (q j : Nat) (S T : SavedIn) (d : DkIn) (a : Option Addr) (cap : Nat) (a2 : Option Addr) (cap2 k B : Nat), q ≤ L ∧ vi = .int .i64 (q : Int) ∧ vj = .pointer (some ⟨j, 0, none⟩) ∧ Hid (SS w wr g m nb mb j S T d a cap a2 cap2 k B q)) (fun _ vi _ => L - (intOf vi).toNat)
    case atStart => exact ⟨0, j, S0, S0, dI, sa, sc, sa, sc, 3, 17, Nat.zero_le _, rfl, rfl, HF0.out⟩
    case round =>
      clear hjg hjm hj' hnil HF0
      obtain ⟨q, j, S, T, d, a, cap, a2, cap2, k, B, hql, rfl, rfl, HF⟩ := hrel
      obtain ⟨c1, c2, n', fn', m', fm'⟩ := HF.out.cells
      obtain ⟨l1, l2, l3, l4, l5⟩ := HF.out.lo
      obtain ⟨g1, g2, g3, g4, g5, g6, g7, g8, g9⟩ := HF.out.ne
      obtain ⟨hgl, hml⟩ := HF.out.pd.lt
      have hjl := HF.out.fate.lt
      have hfw1 := HF.out.few
      have hfw2 := HF.out.few2
      have hk' := HF.out.k'
      have hB' := HF.out.B'
      have hlw : g < wr.heap.size ∧ m < wr.heap.size ∧ j < wr.heap.size := ⟨hgl, hml, hjl⟩
      have n0 : wr.cell? ⟨nb, 0, none⟩ = some (.int .i64 (S.gen : Int)) := n' 0
      have n1 : wr.cell? ⟨nb, 1, none⟩ = some (.bool S.has) := n' 1
      have n2 : wr.cell? ⟨nb, 2, none⟩ = some (.string ⟨S.base.toArray⟩) := n' 2
      have n3 : wr.cell? ⟨nb, 3, none⟩ = some (.slice a S.recs.length cap) := n' 3
      have m0 : wr.cell? ⟨mb, 0, none⟩ = some (.int .i64 (T.gen : Int)) := m' 0
      have m1 : wr.cell? ⟨mb, 1, none⟩ = some (.bool T.has) := m' 1
      have m2 : wr.cell? ⟨mb, 2, none⟩ = some (.string ⟨T.base.toArray⟩) := m' 2
      have m3 : wr.cell? ⟨mb, 3, none⟩ = some (.slice a2 T.recs.length cap2) := m' 3
      clear n' fn' m' fm'
      by_cases hi : q < L
      · have di : decide ((q : Int) < (L : Int)) = true := decide_eq_true (by omega)
        have hi1 : (q : Int) < (L : Int) := by omega
        obtain ⟨bk, off, rfl, hbk, hc⟩ := HAC.out q (by rw [hL.out]; exact hi)
        have hcc : ∀ j, j < 11 → wr.cell? ⟨bk, off + (q * 11 + j), none⟩ = (acts.getD q noK).row[j]? := fun j hj => (HF.out.bel.cell (p := ⟨bk, off + (q * 11 + j), none⟩) hbk).trans (hc j hj)
        have hbl : bk < wr.heap.size := Nat.lt_of_lt_of_le hbk HF.out.bel.size
        have hfi := HFE.out q hi
        have hki := HAI.out q (by rw [hL.out]; exact hi)
        have c100 := hcc 0 (by decide)
        have c101 := hcc 1 (by decide)
        have c102 := hcc 2 (by decide)
        have c103 := hcc 3 (by decide)
        have c104 := hcc 4 (by decide)
        have c105 := hcc 5 (by decide)
        have c106 := hcc 6 (by decide)
        have c107 := hcc 7 (by decide)
        have c108 := hcc 8 (by decide)
        have c109 := hcc 9 (by decide)
        have c110 := hcc 10 (by decide)
        clear hcc hc
        generalize acts.getD q noK = x at *
        have HKI := Lib.hid hki
        obtain ⟨kind, nn, arg, half, keep, ka, kc, D⟩ := x
        obtain ⟨⟨dk1, dn, dname, darg, dh, dkeep⟩, dka, dkc⟩ := D
        simp [ActK.row] at c100 c101 c102 c103 c104 c105 c106 c107 c108 c109 c110
        rw [← Nat.add_assoc] at c101 c102 c103 c104 c105 c106 c107 c108 c109 c110
        obtain ⟨AR, hAR⟩ : ∃ A : ByteArray, Hid (ByteArray.mk arg.toArray = A) := ⟨_, rfl⟩
        have sAR : AR.size ≤ 300 := by rw [← hAR.out]; show arg.toArray.size ≤ _; rw [List.size_toArray]; exact hfi.1
        rw [hAR.out] at c102
        have hkin := hki.kind
        have hnhi := hki.n
        obtain ⟨i0, hi, hz0, hz1, hz2⟩ := info_parts Frm.sinfo
        have ea : Hid ((ActK.row ⟨kind, nn, arg, half, keep, ka, kc, ⟨⟨dk1, dn, dname, darg, dh, dkeep⟩, dka, dkc⟩⟩) = #[.int .i64 kind, .int .i64 nn, .string AR, .bool half, .slice ka keep.length kc, .int .i64 dk1, .int .i64 dn, .string ⟨dname.toArray⟩, .string ⟨darg.toArray⟩, .bool dh, .slice dka dkeep.length dkc]) := by rw [← hAR.out]; rfl
        obtain ⟨V, hV⟩ : ∃ V, Hid (wr.alloc (.cells #[.int .i64 kind, .int .i64 nn, .string AR, .bool half, .slice ka keep.length kc, .int .i64 dk1, .int .i64 dn, .string ⟨dname.toArray⟩, .string ⟨darg.toArray⟩, .bool dh, .slice dka dkeep.length dkc] 40) = V) := ⟨_, rfl⟩
        obtain ⟨ab, hab⟩ : ∃ ab, Hid (wr.heap.size = ab) := ⟨_, rfl⟩
        have hbV : Hid (Below wr.heap.size wr V) := by rw [← hV.out]; exact below_al (Below.refl _ _) _
        have hVs : V.heap.size = wr.heap.size + 1 := by rw [← hV.out]; simp
        have vA : V.heap[ab]? = some (.cells #[.int .i64 kind, .int .i64 nn, .string AR, .bool half, .slice ka keep.length kc, .int .i64 dk1, .int .i64 dn, .string ⟨dname.toArray⟩, .string ⟨darg.toArray⟩, .bool dh, .slice dka dkeep.length dkc] 40) := by rw [← hab.out, ← hV.out]; exact Own.heap_new _ _
        go_upto_region 12 with (fail)
        rw [hV.out, hab.out]
        clear c100 c101 c102 c103 c104 c105 c106 c107 c108 c109 c110
        replace n0 := (hbV.out.cell (p := ⟨nb, 0, none⟩) c1).trans n0
        replace n1 := (hbV.out.cell (p := ⟨nb, 1, none⟩) c1).trans n1
        replace n2 := (hbV.out.cell (p := ⟨nb, 2, none⟩) c1).trans n2
        replace n3 := (hbV.out.cell (p := ⟨nb, 3, none⟩) c1).trans n3
        replace m0 := (hbV.out.cell (p := ⟨mb, 0, none⟩) c2).trans m0
        replace m1 := (hbV.out.cell (p := ⟨mb, 1, none⟩) c2).trans m1
        replace m2 := (hbV.out.cell (p := ⟨mb, 2, none⟩) c2).trans m2
        replace m3 := (hbV.out.cell (p := ⟨mb, 3, none⟩) c2).trans m3
        have y0 : V.cell? ⟨ab, 0, none⟩ = some (.int .i64 kind) := cell_of_row V ab 0 _ _ _ vA
        have y1 : V.cell? ⟨ab, 1, none⟩ = some (.int .i64 nn) := cell_of_row V ab 1 _ _ _ vA
        have y2 : V.cell? ⟨ab, 2, none⟩ = some (.string AR) := cell_of_row V ab 2 _ _ _ vA
        have y3 : V.cell? ⟨ab, 3, none⟩ = some (.bool half) := cell_of_row V ab 3 _ _ _ vA
        have y4 : V.cell? ⟨ab, 4, none⟩ = some (.slice ka keep.length kc) := cell_of_row V ab 4 _ _ _ vA
        have y5 : V.cell? ⟨ab, 5, none⟩ = some (.int .i64 dk1) := cell_of_row V ab 5 _ _ _ vA
        have y6 : V.cell? ⟨ab, 6, none⟩ = some (.int .i64 dn) := cell_of_row V ab 6 _ _ _ vA
        have y7 : V.cell? ⟨ab, 7, none⟩ = some (.string ⟨dname.toArray⟩) := cell_of_row V ab 7 _ _ _ vA
        have y8 : V.cell? ⟨ab, 8, none⟩ = some (.string ⟨darg.toArray⟩) := cell_of_row V ab 8 _ _ _ vA
        have y9 : V.cell? ⟨ab, 9, none⟩ = some (.bool dh) := cell_of_row V ab 9 _ _ _ vA
        have y10 : V.cell? ⟨ab, 10, none⟩ = some (.slice dka dkeep.length dkc) := cell_of_row V ab 10 _ _ _ vA
        have habl := hab.out
        have hnV : nb < V.heap.size := by omega
        have hmV : mb < V.heap.size := by omega
        have haV : ab < V.heap.size := by omega
        have VA := Lib.hid vA
        clear vA
        have HPV := Lib.hid (HF.out.pd.below hbV.out)
        have HFV := Lib.hid (HF.out.fate.row (hbV.out.block j hjl))
        have hstr := HF.out.strs
        have HST := Lib.hid hstr
        clear hstr
        have SM : Hid (∀ W, Bj g m j wr W → Calls Try.prog 13 #[.agg #[.int .i64 (S.gen : Int), .bool S.has, .string ⟨S.base.toArray⟩, .slice a S.recs.length cap], .agg #[.int .i64 (T.gen : Int), .bool T.has, .string ⟨T.base.toArray⟩, .slice a2 T.recs.length cap2]] W fun e w' => e = .returned (.bool (decide (S = T))) ∧ Below W.heap.size W w') := fun W hb =>
          same33_any S T a a2 cap cap2 W (by omega) (by omega) (HF.out.strsj W hb).1 (HF.out.strsj W hb).2
        have hnil := HF.out.nil
        have hRC : Hid (Strs V a (rows S.recs)) := (HST.out V (Bx.below hbV.out)).1
        by_cases h1 : kind = 1
        · subst h1
          clear y3 y4 y5 y6 y7 y8 y9 y10
          have hrl : S.recs.length ≤ 1000 := by omega
          go_upto_region 21 with (fail)
          refine wp_ops (o1 := regOf 21 Try.f5.body) (by kernel_rfl) (reg21 S arg AR nb ab a cap hAR hbV n0 n1 n2 n3 y2 hnV haV hRC hrl hnil _ _ _ _ _ _ _ _ _ _ _ _ _ _ _ _ _ _ _ _ _ _ _ _ _ _ _ _ _ _ _ _ _ _ _ _ _ _ _ _ _ _ _ _ _ _ _ _ _ _ _ _ _ _ _ _ _ _ _ _ _ _ _ _ _ _ _ _ _ _ _ _ _ _ _ _ _ _ _ _ _ _ _ _ _ _ _ _ _ _ _ _ _ _ _ _ _ _ _ _ _ _ _ _ _ _ _ _ _ _ _ _ _ _ _ _ _ _ _ _ _ _ _ _ _ _ _ _ _ _ _ _ _ _ _ _ _ _ _ _ _ _ _ _ _ _ _ _ _ _ _ _ _ _ _ _ _ _ _ _ _ _ _ (Lib.hid fun c b b' w e h => by (cases b; cases b'; cases e; exact h)) (Lib.hid ?_))
          intro xb a8 c8 u85 u86 u87 u88 u89 u90 u91 u92 u93 u94 u95 u96 u97 u98 u99 wc hN21 hB21
          have HN1 := Lib.hid hN21
          have HBc := Lib.hid hB21
          clear hN21 hB21
          have HB1 := Lib.hid ((Bj.below g m j hbV.out).trans (Bj.below g m j HBc.out))
          replace y0 := (HBc.out.cell (p := ⟨ab, 0, none⟩) haV).trans y0
          replace y2 := (HBc.out.cell (p := ⟨ab, 2, none⟩) haV).trans y2
          have hcs := HBc.out.size
          have hal1 : ab < wc.heap.size := by omega
          have AP := Lib.hid (app_fate wc g m j S T d k B (HFV.out.row (HBc.out.block j (by omega))) HF.out.gr HF.out.room (by omega) (by omega) (HPV.out.below HBc.out) g1 g2 (by omega) AR sAR)
          clear n0 n1 n2 n3 m0 m1 m2 m3
          go_upto_region 27 with (go_at_call 10; (with_reducible refine AP.out.mono ?_); rintro e w5 ⟨z, rfl, HD, HBJ⟩)
          have HB5 := Lib.hid (HB1.out.trans HBJ.out)
          have HN5' := Lib.hid (HN1.out.keep HBJ.out hlw)
          have eN : AR.data.toList = arg := arr_list hAR.out
          rw [eN] at HD
          have YA : Hid (w5.cell? ⟨ab, 0, none⟩ = some (.int .i64 1) ∧ w5.cell? ⟨ab, 2, none⟩ = some (.string AR)) := by
            have hv := HBJ.out.block ab hal1 (by omega) (by omega) (by omega)
            exact ⟨(World.cell?_of_block (a := ⟨ab, 0, none⟩) hv).trans y0, (World.cell?_of_block (a := ⟨ab, 2, none⟩) hv).trans y2⟩
          have hal5 : ab < w5.heap.size := Nat.lt_of_lt_of_le hal1 HBJ.out.size
          have hNf : ({ S with recs := S.recs ++ [arg] } : SavedIn).gen ≤ q + 1 ∧ ({ S with recs := S.recs ++ [arg] } : SavedIn).recs.length ≤ q + 1 ∧ ({ S with recs := S.recs ++ [arg] } : SavedIn).base.length ≤ 12000 := ⟨by show S.gen ≤ _; omega, by show (S.recs ++ [arg]).length ≤ _; rw [List.length_append]; show _ + 1 ≤ _; omega, by show S.base.length ≤ _; omega⟩
          generalize ({ S with recs := S.recs ++ [arg] } : SavedIn) = N at *
          have HN5 := HN5'
          clear HN5' y0 y2 AP HN1 eN
          obtain ⟨d', k', B', hk', hB', hG', hr', hp', hfin⟩ := HD.out
          have HG' := Lib.hid hG'
          have HP' := Lib.hid hp'
          obtain ⟨hxl, mx, fx⟩ := HN5.out.cells
          have hS5 := HB5.out.size
          have hnw : nb < w5.heap.size := by omega
          have hmw : mb < w5.heap.size := by omega
          have RN := (HB5.out.block nb c1 g3 g4 g5).trans HF.out.now
          have RM := (HB5.out.block mb c2 g6 g7 g8).trans HF.out.may
          have hxf := HN5.out.fresh
          have hxnb : xb ≠ nb := by omega
          have hxmb : xb ≠ mb := by omega
          have x0 : w5.cell? ⟨xb, 0, none⟩ = some (.int .i64 (N.gen : Int)) := mx 0
          have x1 : w5.cell? ⟨xb, 1, none⟩ = some (.bool N.has) := mx 1
          have x2 : w5.cell? ⟨xb, 2, none⟩ = some (.string ⟨N.base.toArray⟩) := mx 2
          have x3 : w5.cell? ⟨xb, 3, none⟩ = some (.slice a8 N.recs.length c8) := mx 3
          have n0 : w5.cell? ⟨nb, 0, none⟩ = some (.int .i64 (S.gen : Int)) := cell_of_row w5 _ 0 _ _ _ RN
          have n1 : w5.cell? ⟨nb, 1, none⟩ = some (.bool S.has) := cell_of_row w5 _ 1 _ _ _ RN
          have n2 : w5.cell? ⟨nb, 2, none⟩ = some (.string ⟨S.base.toArray⟩) := cell_of_row w5 _ 2 _ _ _ RN
          have n3 : w5.cell? ⟨nb, 3, none⟩ = some (.slice a S.recs.length cap) := cell_of_row w5 _ 3 _ _ _ RN
          have m0 : w5.cell? ⟨mb, 0, none⟩ = some (.int .i64 (T.gen : Int)) := cell_of_row w5 _ 0 _ _ _ RM
          have m1 : w5.cell? ⟨mb, 1, none⟩ = some (.bool T.has) := cell_of_row w5 _ 1 _ _ _ RM
          have m2 : w5.cell? ⟨mb, 2, none⟩ = some (.string ⟨T.base.toArray⟩) := cell_of_row w5 _ 2 _ _ _ RM
          have m3 : w5.cell? ⟨mb, 3, none⟩ = some (.slice a2 T.recs.length cap2) := cell_of_row w5 _ 3 _ _ _ RM
          have fn0 := frozen_of_row w5 _ 0 _ _ RN
          have fn1 := frozen_of_row w5 _ 1 _ _ RN
          have fn2 := frozen_of_row w5 _ 2 _ _ RN
          have fn3 := frozen_of_row w5 _ 3 _ _ RN
          have fm0 := frozen_of_row w5 _ 0 _ _ RM
          have fm1 := frozen_of_row w5 _ 1 _ _ RM
          have fm2 := frozen_of_row w5 _ 2 _ _ RM
          have fm3 := frozen_of_row w5 _ 3 _ _ RM
          clear mx fx RN RM hG' hp'
          rcases hfin with ⟨rfl, hft⟩ | ⟨rfl, hST, hft⟩ | ⟨rfl, hST, hft⟩ | ⟨rfl, hE, hft⟩
          · have HFT := Lib.hid hft
            clear hft
            go_wp2
            go_roundw
            case rel => exact ⟨q + 1, j, N, N, d', a8, c8, a8, c8, k', B', by omega, by go_num, rfl, HF.out.set2 HB5.out HN5.out HFT.out HG'.out hr' HP'.out (by omega) (by omega) hNf rfl rfl⟩
            case measure => simp [intOf]; omega
          · have HE : Hid (decide (S = T) = true) := decide_eq_true hST
            have HFT := Lib.hid hft
            clear hft hST
            go_upto_region 37 with (go_at_call 13; (with_reducible refine (SM.out _ ?hs).mono ?_); (case hs => exact HB5.out.trans (Bj.refl _ _ _ _)); rintro e w7 ⟨he, hb7⟩; rw [HE.out] at he; subst he; have HB7 := Lib.hid hb7; clear hb7)
            have HB75 := Lib.hid (HB5.out.trans (Bj.below g m j HB7.out))
            have HN7 := Lib.hid (HN5.out.keep (Bj.below g m j HB7.out) hlw)
            have hS7 := HB7.out.size
            replace x0 := (HB7.out.cell (p := ⟨xb, 0, none⟩) hxl).trans x0
            replace x1 := (HB7.out.cell (p := ⟨xb, 1, none⟩) hxl).trans x1
            replace x2 := (HB7.out.cell (p := ⟨xb, 2, none⟩) hxl).trans x2
            replace x3 := (HB7.out.cell (p := ⟨xb, 3, none⟩) hxl).trans x3
            replace m0 := (HB7.out.cell (p := ⟨mb, 0, none⟩) hmw).trans m0
            replace m1 := (HB7.out.cell (p := ⟨mb, 1, none⟩) hmw).trans m1
            replace m2 := (HB7.out.cell (p := ⟨mb, 2, none⟩) hmw).trans m2
            replace m3 := (HB7.out.cell (p := ⟨mb, 3, none⟩) hmw).trans m3
            have RM := (HB75.out.block mb c2 g6 g7 g8).trans HF.out.may
            replace fm0 := frozen_of_row w7 _ 0 _ _ RM
            replace fm1 := frozen_of_row w7 _ 1 _ _ RM
            replace fm2 := frozen_of_row w7 _ 2 _ _ RM
            replace fm3 := frozen_of_row w7 _ 3 _ _ RM
            replace hmw : mb < w7.heap.size := by omega
            have hxl7 : xb < w7.heap.size := by omega
            clear RM fn0 fn1 fn2 fn3 n0 n1 n2 n3
            go_wp2
            go_roundw
            case rel => exact ⟨q + 1, j, S, N, d', a, cap, a8, c8, k', B', by omega, by go_num, rfl, HF.out.set1 HB75.out HN7.out (HFT.out.row (HB7.out.block j HFT.out.lt)) HG'.out hr' (HP'.out.below HB7.out) (by omega) (by omega) hNf rfl⟩
            case measure => simp [intOf]; omega
          · have HE : Hid (decide (S = T) = false) := decide_eq_false hST
            have HFT := Lib.hid hft
            clear hft hST
            go_wp2_with (go_at_call 13; (with_reducible refine (SM.out _ ?hs).mono ?_); (case hs => exact HB5.out.trans (Bj.refl _ _ _ _)); rintro e w7 ⟨he, hb7⟩; rw [HE.out] at he; subst he; have HB7 := Lib.hid hb7; clear hb7)
            go_roundw
            case rel => exact ⟨q + 1, j, S, T, d', a, cap, a2, cap2, k', B', by omega, by go_num, rfl, HF.out.keep (HB5.out.trans (Bj.below g m j HB7.out)) (HFT.out.row (HB7.out.block j HFT.out.lt)) HG'.out hr' (HP'.out.below HB7.out) (by omega) (by omega)⟩
            case measure => simp [intOf]; omega
          · have HFT := Lib.hid hft
            clear hft
            have RA := (HB5.out.trans (Bj.refl g m j _)).size
            have y0 : w5.cell? ⟨ab, 0, none⟩ = some (.int .i64 1) := YA.out.1
            have y2 : w5.cell? ⟨ab, 2, none⟩ = some (.string AR) := YA.out.2
            go_wp2
            go_roundw
            case rel => exact ⟨q + 1, j, S, T, d', a, cap, a2, cap2, k', B', by omega, by go_num, rfl, HF.out.keep HB5.out HFT.out HG'.out hr' HP'.out (by omega) (by omega)⟩
            case measure => simp [intOf]; omega
        · have d1 : (kind == 1) = false := beq_eq_false_iff_ne.2 h1
          by_cases h2 : kind = 2
          · subst h2
            clear y3 y4 y5 y6 y7 y8 y9 y10
            have hrl : S.recs.length ≤ 1000 := by omega
            go_upto_region 21 with (fail)
            refine wp_ops (o1 := regOf 21 Try.f5.body) (by kernel_rfl) (reg21 S arg AR nb ab a cap hAR hbV n0 n1 n2 n3 y2 hnV haV hRC hrl hnil _ _ _ _ _ _ _ _ _ _ _ _ _ _ _ _ _ _ _ _ _ _ _ _ _ _ _ _ _ _ _ _ _ _ _ _ _ _ _ _ _ _ _ _ _ _ _ _ _ _ _ _ _ _ _ _ _ _ _ _ _ _ _ _ _ _ _ _ _ _ _ _ _ _ _ _ _ _ _ _ _ _ _ _ _ _ _ _ _ _ _ _ _ _ _ _ _ _ _ _ _ _ _ _ _ _ _ _ _ _ _ _ _ _ _ _ _ _ _ _ _ _ _ _ _ _ _ _ _ _ _ _ _ _ _ _ _ _ _ _ _ _ _ _ _ _ _ _ _ _ _ _ _ _ _ _ _ _ _ _ _ _ _ (Lib.hid fun c b b' w e h => by (cases b; cases b'; cases e; exact h)) (Lib.hid ?_))
            intro xb a8 c8 u85 u86 u87 u88 u89 u90 u91 u92 u93 u94 u95 u96 u97 u98 u99 wc hN21 hB21
            have HN1 := Lib.hid hN21
            have HBc := Lib.hid hB21
            clear hN21 hB21
            have HB1 := Lib.hid ((Bj.below g m j hbV.out).trans (Bj.below g m j HBc.out))
            replace y0 := (HBc.out.cell (p := ⟨ab, 0, none⟩) haV).trans y0
            replace y2 := (HBc.out.cell (p := ⟨ab, 2, none⟩) haV).trans y2
            have hcs := HBc.out.size
            have hal1 : ab < wc.heap.size := by omega
            replace y1 := (HBc.out.cell (p := ⟨ab, 1, none⟩) haV).trans y1
            replace n0 := (HBc.out.cell (p := ⟨nb, 0, none⟩) hnV).trans n0
            clear n1 n2 n3 m0 m1 m2 m3
            have hgw : IntKind.i64.wrap ((S.gen : Int) + 1) = (S.gen : Int) + 1 := by rw [IntKind.wrap_i64]; omega
            go_upto_region 24 with (fail)
            have hHeld : wc.drew.cell? ⟨nb, 0, none⟩ = some (.int .i64 (S.gen : Int)) ∧ wc.drew.cell? ⟨ab, 2, none⟩ = some (.string AR) ∧ wc.drew.cell? ⟨ab, 1, none⟩ = some (.int .i64 nn) := ⟨n0, y2, y1⟩
            have hV1 : Hid (Below wc.heap.size wc wc.drew) := (Below.refl _ _).drew
            refine Ord.wp_region_U (fun W' => W'.cell? ⟨nb, 0, none⟩ = some (.int .i64 (S.gen : Int)) ∧ W'.cell? ⟨ab, 2, none⟩ = some (.string AR) ∧ W'.cell? ⟨ab, 1, none⟩ = some (.int .i64 nn)) [8, 9] (by kernel_rfl) ?_
            clear n0 y0 y1 y2
            generalize hVd : wc.drew = V1 at *
            refine take_at (i := 0) (v := ?_) 103 rfl rfl (by as_aux_lemma => kernel_rfl) (by as_aux_lemma => kernel_rfl) (by as_aux_lemma => kernel_rfl) (by as_aux_lemma => kernel_rfl) (by as_aux_lemma => kernel_rfl) (by as_aux_lemma => kernel_rfl) (by as_aux_lemma => kernel_rfl) (fun _ _ _ h => h) (Or.inl ⟨(by as_aux_lemma => kernel_rfl), ?_⟩) hHeld ?_
            rotate_left
            · intro w hSw; (try dsimp only at hSw); (try obtain ⟨f0, f1, f2⟩ := hSw); go_simp; (try with_reducible rfl)
            try simp only [Act.put, List.setIfInBounds_toArray, List.set_cons_zero, List.set_cons_succ]
            refine take_at (i := 1) (v := ?_) 104 rfl rfl (by as_aux_lemma => kernel_rfl) (by as_aux_lemma => kernel_rfl) (by as_aux_lemma => kernel_rfl) (by as_aux_lemma => kernel_rfl) (by as_aux_lemma => kernel_rfl) (by as_aux_lemma => kernel_rfl) (by as_aux_lemma => kernel_rfl) (fun _ _ _ h => h) (Or.inl ⟨(by as_aux_lemma => kernel_rfl), ?_⟩) hHeld ?_
            rotate_left
            · intro w hSw; (try dsimp only at hSw); (try obtain ⟨f0, f1, f2⟩ := hSw); go_simp; (try with_reducible rfl)
            try simp only [Act.put, List.setIfInBounds_toArray, List.set_cons_zero, List.set_cons_succ]
            refine take_at (i := 2) (v := ?_) 105 rfl rfl (by as_aux_lemma => kernel_rfl) (by as_aux_lemma => kernel_rfl) (by as_aux_lemma => kernel_rfl) (by as_aux_lemma => kernel_rfl) (by as_aux_lemma => kernel_rfl) (by as_aux_lemma => kernel_rfl) (by as_aux_lemma => kernel_rfl) (fun _ _ _ h => h) (Or.inl ⟨(by as_aux_lemma => kernel_rfl), ?_⟩) hHeld ?_
            rotate_left
            · intro w hSw; (try dsimp only at hSw); (try obtain ⟨f0, f1, f2⟩ := hSw); go_simp; (try with_reducible rfl)
            try simp only [Act.put, List.setIfInBounds_toArray, List.set_cons_zero, List.set_cons_succ]
            refine take_at (i := 3) (v := ?_) 106 rfl rfl (by as_aux_lemma => kernel_rfl) (by as_aux_lemma => kernel_rfl) (by as_aux_lemma => kernel_rfl) (by as_aux_lemma => kernel_rfl) (by as_aux_lemma => kernel_rfl) (by as_aux_lemma => kernel_rfl) (by as_aux_lemma => kernel_rfl) (fun _ _ _ h => h) (Or.inl ⟨(by as_aux_lemma => kernel_rfl), ?_⟩) hHeld ?_
            rotate_left
            · intro w hSw; (try dsimp only at hSw); (try obtain ⟨f0, f1, f2⟩ := hSw); go_simp; (try with_reducible rfl)
            try simp only [Act.put, List.setIfInBounds_toArray, List.set_cons_zero, List.set_cons_succ]
            refine take_at (i := 4) (v := ?_) 107 rfl rfl (by as_aux_lemma => kernel_rfl) (by as_aux_lemma => kernel_rfl) (by as_aux_lemma => kernel_rfl) (by as_aux_lemma => kernel_rfl) (by as_aux_lemma => kernel_rfl) (by as_aux_lemma => kernel_rfl) (by as_aux_lemma => kernel_rfl) (fun _ _ _ h => h) (Or.inl ⟨(by as_aux_lemma => kernel_rfl), ?_⟩) hHeld ?_
            rotate_left
            · intro w hSw; (try dsimp only at hSw); (try obtain ⟨f0, f1, f2⟩ := hSw); go_simp; (try with_reducible rfl)
            try simp only [Act.put, List.setIfInBounds_toArray, List.set_cons_zero, List.set_cons_succ]
            refine take_at (i := 5) (v := ?_) 108 rfl rfl (by as_aux_lemma => kernel_rfl) (by as_aux_lemma => kernel_rfl) (by as_aux_lemma => kernel_rfl) (by as_aux_lemma => kernel_rfl) (by as_aux_lemma => kernel_rfl) (by as_aux_lemma => kernel_rfl) (by as_aux_lemma => kernel_rfl) (fun _ _ _ h => h) (Or.inl ⟨(by as_aux_lemma => kernel_rfl), ?_⟩) hHeld ?_
            rotate_left
            · intro w hSw; (try dsimp only at hSw); (try obtain ⟨f0, f1, f2⟩ := hSw); go_simp; (try with_reducible rfl)
            try simp only [Act.put, List.setIfInBounds_toArray, List.set_cons_zero, List.set_cons_succ]
            refine take_at (i := 6) (v := ?_) 109 rfl rfl (by as_aux_lemma => kernel_rfl) (by as_aux_lemma => kernel_rfl) (by as_aux_lemma => kernel_rfl) (by as_aux_lemma => kernel_rfl) (by as_aux_lemma => kernel_rfl) (by as_aux_lemma => kernel_rfl) (by as_aux_lemma => kernel_rfl) (fun _ _ _ h => h) (Or.inl ⟨(by as_aux_lemma => kernel_rfl), ?_⟩) hHeld ?_
            rotate_left
            · intro w hSw; (try dsimp only at hSw); (try obtain ⟨f0, f1, f2⟩ := hSw); go_simp; (try with_reducible rfl)
            try simp only [Act.put, List.setIfInBounds_toArray, List.set_cons_zero, List.set_cons_succ]
            refine Ord.wpAnyU_one (i := 7) (by kernel_rfl) rfl (fun K hK => ?_)
            go_simp
            go_wp2_with (go_at_call 11; (with_reducible refine (text_any AR sAR nn _).mono ?_); rintro e w6 ⟨⟨TX, rfl, hT⟩, rfl⟩)
            refine hK.out _ _ (fun _ => hHeld) ?_
            clear hK K
            try simp only [Act.put, List.setIfInBounds_toArray, List.set_cons_zero, List.set_cons_succ]
            refine Ord.wpAnyU_one (i := 8) (by kernel_rfl) rfl (fun K hK => ?_)
            go_simp
            refine hK.out _ _ (fun h => by cases h) ?_
            clear hK K
            try simp only [Act.put, List.setIfInBounds_toArray, List.set_cons_zero, List.set_cons_succ]
            have HN2 := Lib.hid (HN1.out.keep (Bj.below g m j hV1.out) hlw)
            obtain ⟨hxl1, mx, fx⟩ := HN2.out.cells
            have x0 : V1.cell? ⟨xb, 0, none⟩ = some (.int .i64 (S.gen : Int)) := mx 0
            have x1 : V1.cell? ⟨xb, 1, none⟩ = some (.bool S.has) := mx 1
            have x2 : V1.cell? ⟨xb, 2, none⟩ = some (.string ⟨S.base.toArray⟩) := mx 2
            have x3 : V1.cell? ⟨xb, 3, none⟩ = some (.slice a8 (S.recs ++ [arg]).length c8) := mx 3
            have y0 := fx 0
            have y1 := fx 1
            have y2 := fx 2
            have y3 := fx 3
            clear mx fx
            refine Ord.wpAnyU_one (i := 9) (by kernel_rfl) rfl (fun K hK => ?_)
            go_simp
            refine hK.out _ _ (fun h => by cases h) ?_
            clear hK K
            try simp only [Act.put, List.setIfInBounds_toArray, List.set_cons_zero, List.set_cons_succ]
            refine Ord.wpAnyU_done (by as_aux_lemma => kernel_rfl) ?_ _
            have eT : (⟨TX.data.toList.toArray⟩ : ByteArray) = TX := rfl
            obtain ⟨V2, hV2⟩ : ∃ V2, V2 = (((V1.setCell ⟨xb, 0, none⟩ (.int .i64 ((S.gen : Int) + 1))).setCell ⟨xb, 1, none⟩ (.bool true)).setCell ⟨xb, 2, none⟩ (.string TX)).setCell ⟨xb, 3, none⟩ (.slice none 0 0) := ⟨_, rfl⟩
            obtain ⟨s1, s2, s3, s4⟩ := set4_grown V1 V2 xb _ _ _ _ HN2.out.box hV2
            have hf2 := HN2.out.fresh
            have hs1 := hV1.out.size
            have HBj2 := Lib.hid (HB1.out.trans (Bj.below g m j hV1.out))
            have HB2 : Hid (Bj g m j wr V2) := ⟨s4.os.trans HBj2.out.os, s4.tape.trans HBj2.out.tape, s4.output.trans HBj2.out.output, by have := HBj2.out.size; omega, fun k hk h1 h2 h3 => (s2 k (by omega)).trans (HBj2.out.block k hk h1 h2 h3)⟩
            have HPV2 : Hid (PD V2 g m d.files.length d) := ((HPV.out.below HBc.out).below hV1.out).grown s4 (by intro e; cases e; omega) (by intro e; cases e; omega)
            have HFV2 : Hid (Fate V2 j g S T d) := HFV.out.row ((s2 j (by omega)).trans ((hV1.out.block j (by omega)).trans (HBc.out.block j (by omega))))
            have HNN : Hid (Nxt wr V2 xb ⟨S.gen + 1, true, TX.data.toList, []⟩ none 0) := ⟨s1, hf2, fun i hi => absurd hi (Nat.not_lt_zero i), fun x hx => (by cases hx), fun _ => rfl⟩
            have b2 : V2.cell? ⟨xb, 2, none⟩ = some (.string TX) := cell_of_row V2 _ 2 _ _ _ s1
            have hl2 : xb < V2.heap.size := by rw [s3]; exact hxl1
            have SN := Lib.hid (snap_fate V2 g m j S T d k B HFV2.out HF.out.gr HF.out.room (by omega) (by omega) HPV2.out g1 g2 (by omega) TX hT)
            clear s1 s2 s3 s4 x0 x1 x2 x3 y0 y1 y2 y3 hHeld
            rw [← hV2]
            clear hV2
            go_upto_region 27 with (go_at_call 12; (with_reducible refine SN.out.mono ?_); rintro e w5 ⟨z, rfl, HD, HBJ⟩)
            have HB5 := Lib.hid (HB2.out.trans HBJ.out)
            have HN5' := Lib.hid (HNN.out.keep HBJ.out hlw)
            have hNf : (⟨S.gen + 1, true, TX.data.toList, []⟩ : SavedIn).gen ≤ q + 1 ∧ (⟨S.gen + 1, true, TX.data.toList, []⟩ : SavedIn).recs.length ≤ q + 1 ∧ (⟨S.gen + 1, true, TX.data.toList, []⟩ : SavedIn).base.length ≤ 12000 := ⟨by show S.gen + 1 ≤ _; omega, Nat.zero_le _, by show TX.data.toList.length ≤ _; rw [sz_list]; exact hT⟩
            generalize (⟨S.gen + 1, true, TX.data.toList, []⟩ : SavedIn) = N at *
            clear HN1 HN2
            obtain ⟨a8, ha8⟩ : ∃ x : Option Addr, x = none := ⟨_, rfl⟩
            obtain ⟨c8, hc8⟩ : ∃ x : Nat, x = 0 := ⟨_, rfl⟩
            have HN5 : Hid (Nxt wr w5 xb N a8 c8) := by rw [ha8, hc8]; exact HN5'
            clear HN5' ha8 hc8 SN HNN eT
            obtain ⟨d', k', B', hk', hB', hG', hr', hp', hfin⟩ := HD.out
            have HG' := Lib.hid hG'
            have HP' := Lib.hid hp'
            obtain ⟨hxl, mx, fx⟩ := HN5.out.cells
            have hS5 := HB5.out.size
            have hnw : nb < w5.heap.size := by omega
            have hmw : mb < w5.heap.size := by omega
            have RN := (HB5.out.block nb c1 g3 g4 g5).trans HF.out.now
            have RM := (HB5.out.block mb c2 g6 g7 g8).trans HF.out.may
            have hxf := HN5.out.fresh
            have hxnb : xb ≠ nb := by omega
            have hxmb : xb ≠ mb := by omega
            have x0 : w5.cell? ⟨xb, 0, none⟩ = some (.int .i64 (N.gen : Int)) := mx 0
            have x1 : w5.cell? ⟨xb, 1, none⟩ = some (.bool N.has) := mx 1
            have x2 : w5.cell? ⟨xb, 2, none⟩ = some (.string ⟨N.base.toArray⟩) := mx 2
            have x3 : w5.cell? ⟨xb, 3, none⟩ = some (.slice a8 N.recs.length c8) := mx 3
            have n0 : w5.cell? ⟨nb, 0, none⟩ = some (.int .i64 (S.gen : Int)) := cell_of_row w5 _ 0 _ _ _ RN
            have n1 : w5.cell? ⟨nb, 1, none⟩ = some (.bool S.has) := cell_of_row w5 _ 1 _ _ _ RN
            have n2 : w5.cell? ⟨nb, 2, none⟩ = some (.string ⟨S.base.toArray⟩) := cell_of_row w5 _ 2 _ _ _ RN
            have n3 : w5.cell? ⟨nb, 3, none⟩ = some (.slice a S.recs.length cap) := cell_of_row w5 _ 3 _ _ _ RN
            have m0 : w5.cell? ⟨mb, 0, none⟩ = some (.int .i64 (T.gen : Int)) := cell_of_row w5 _ 0 _ _ _ RM
            have m1 : w5.cell? ⟨mb, 1, none⟩ = some (.bool T.has) := cell_of_row w5 _ 1 _ _ _ RM
            have m2 : w5.cell? ⟨mb, 2, none⟩ = some (.string ⟨T.base.toArray⟩) := cell_of_row w5 _ 2 _ _ _ RM
            have m3 : w5.cell? ⟨mb, 3, none⟩ = some (.slice a2 T.recs.length cap2) := cell_of_row w5 _ 3 _ _ _ RM
            have fn0 := frozen_of_row w5 _ 0 _ _ RN
            have fn1 := frozen_of_row w5 _ 1 _ _ RN
            have fn2 := frozen_of_row w5 _ 2 _ _ RN
            have fn3 := frozen_of_row w5 _ 3 _ _ RN
            have fm0 := frozen_of_row w5 _ 0 _ _ RM
            have fm1 := frozen_of_row w5 _ 1 _ _ RM
            have fm2 := frozen_of_row w5 _ 2 _ _ RM
            have fm3 := frozen_of_row w5 _ 3 _ _ RM
            clear mx fx RN RM hG' hp'
            rcases hfin with ⟨rfl, hft⟩ | ⟨rfl, hST, hft⟩ | ⟨rfl, hST, hft⟩ | ⟨rfl, hE, hft⟩
            · have HFT := Lib.hid hft
              clear hft
              go_wp2
              go_roundw
              case rel => exact ⟨q + 1, j, N, N, d', a8, c8, a8, c8, k', B', by omega, by go_num, rfl, HF.out.set2 HB5.out HN5.out HFT.out HG'.out hr' HP'.out (by omega) (by omega) hNf rfl rfl⟩
              case measure => simp [intOf]; omega
            · have HE : Hid (decide (S = T) = true) := decide_eq_true hST
              have HFT := Lib.hid hft
              clear hft hST
              go_upto_region 37 with (go_at_call 13; (with_reducible refine (SM.out _ ?hs).mono ?_); (case hs => exact HB5.out.trans (Bj.refl _ _ _ _)); rintro e w7 ⟨he, hb7⟩; rw [HE.out] at he; subst he; have HB7 := Lib.hid hb7; clear hb7)
              have HB75 := Lib.hid (HB5.out.trans (Bj.below g m j HB7.out))
              have HN7 := Lib.hid (HN5.out.keep (Bj.below g m j HB7.out) hlw)
              have hS7 := HB7.out.size
              replace x0 := (HB7.out.cell (p := ⟨xb, 0, none⟩) hxl).trans x0
              replace x1 := (HB7.out.cell (p := ⟨xb, 1, none⟩) hxl).trans x1
              replace x2 := (HB7.out.cell (p := ⟨xb, 2, none⟩) hxl).trans x2
              replace x3 := (HB7.out.cell (p := ⟨xb, 3, none⟩) hxl).trans x3
              replace m0 := (HB7.out.cell (p := ⟨mb, 0, none⟩) hmw).trans m0
              replace m1 := (HB7.out.cell (p := ⟨mb, 1, none⟩) hmw).trans m1
              replace m2 := (HB7.out.cell (p := ⟨mb, 2, none⟩) hmw).trans m2
              replace m3 := (HB7.out.cell (p := ⟨mb, 3, none⟩) hmw).trans m3
              have RM := (HB75.out.block mb c2 g6 g7 g8).trans HF.out.may
              replace fm0 := frozen_of_row w7 _ 0 _ _ RM
              replace fm1 := frozen_of_row w7 _ 1 _ _ RM
              replace fm2 := frozen_of_row w7 _ 2 _ _ RM
              replace fm3 := frozen_of_row w7 _ 3 _ _ RM
              replace hmw : mb < w7.heap.size := by omega
              have hxl7 : xb < w7.heap.size := by omega
              clear RM fn0 fn1 fn2 fn3 n0 n1 n2 n3
              go_wp2
              go_roundw
              case rel => exact ⟨q + 1, j, S, N, d', a, cap, a8, c8, k', B', by omega, by go_num, rfl, HF.out.set1 HB75.out HN7.out (HFT.out.row (HB7.out.block j HFT.out.lt)) HG'.out hr' (HP'.out.below HB7.out) (by omega) (by omega) hNf rfl⟩
              case measure => simp [intOf]; omega
            · have HE : Hid (decide (S = T) = false) := decide_eq_false hST
              have HFT := Lib.hid hft
              clear hft hST
              go_wp2_with (go_at_call 13; (with_reducible refine (SM.out _ ?hs).mono ?_); (case hs => exact HB5.out.trans (Bj.refl _ _ _ _)); rintro e w7 ⟨he, hb7⟩; rw [HE.out] at he; subst he; have HB7 := Lib.hid hb7; clear hb7)
              go_roundw
              case rel => exact ⟨q + 1, j, S, T, d', a, cap, a2, cap2, k', B', by omega, by go_num, rfl, HF.out.keep (HB5.out.trans (Bj.below g m j HB7.out)) (HFT.out.row (HB7.out.block j HFT.out.lt)) HG'.out hr' (HP'.out.below HB7.out) (by omega) (by omega)⟩
              case measure => simp [intOf]; omega
            · exact hE.elim
          · have d2 : (kind == 2) = false := beq_eq_false_iff_ne.2 h2
            by_cases h4 : kind = 4
            · subst h4
              have FU : Hid (Calls Try.prog 16 #[.pointer (some ⟨g, 0, none⟩), .int .i64 nn, .bool half] V fun e w' => e = .returned (.tuple #[]) ∧ Hid (PD w' g m (fuseV d nn half).files.length (fuseV d nn half)) ∧ Hid (Bx g m V w')) := Dsk.fuse_any V g m _ d HPV.out nn half
              have HFF := Lib.hid (HFV.out.fuse nn half)
              have HGF := Lib.hid (gr_fuse HF.out.gr nn half hnhi)
              go_wp2_with (go_at_call 16; (with_reducible refine FU.out.mono ?_); rintro e w5 ⟨rfl, HP5, HX5⟩)
              go_roundw
              case rel => exact ⟨q + 1, j, S, T, _, a, cap, a2, cap2, k, B, by omega, by go_num, rfl, HF.out.keep ((Bj.below g m j hbV.out).trans (Bj.of j HX5.out)) (HFF.out.row (HX5.out.block j (by omega) g1 g2)) HGF.out HF.out.room HP5.out (by omega) (by omega)⟩
              case measure => simp [intOf]; omega
            · have d4 : (kind == 4) = false := beq_eq_false_iff_ne.2 h4
              have AG := again_any w V g m k B d S T a a2 cap cap2 _ HPV.out HF.out.gr (by omega) (by omega) HF.out.room HF.out.fate.cr HKI.out (below2 HF.out.bel hbV.out) l1 l2 (by omega) (by omega) (fun W hb => (HST.out W ((Bx.below hbV.out).trans hb)).1) (fun W hb => (HST.out W ((Bx.below hbV.out).trans hb)).2)
              rw [ea.out] at AG
              unfold savedVal at AG
              have AGN := Lib.hid AG
              clear AG
              go_upto_region 14 with (go_at_call 17; (with_reducible refine AGN.out.mono ?_); rintro e w8 ⟨R, d8, a8, c8, j8, hR, rfl, HJ8, hj8, HR8, hn8, ho8, hr8, HP8, HX8⟩)
              obtain ⟨W9, hW9⟩ : ∃ W9, W9 = w8.alloc (.cells #[.int .i64 (R.gen : Int), .bool R.has, .string ⟨R.base.toArray⟩, .slice a8 R.recs.length c8] 33) := ⟨_, rfl⟩
              have hb9 : Below w8.heap.size w8 W9 := by rw [hW9]; exact below_al (Below.refl _ _) _
              have hx9 : W9.heap[w8.heap.size]? = some (.cells #[.int .i64 (R.gen : Int), .bool R.has, .string ⟨R.base.toArray⟩, .slice a8 R.recs.length c8] 33) := by rw [hW9]; exact Own.heap_new _ _
              have hs8 := HX8.out.size
              have RN := (hb9.block nb (by omega)).trans ((HX8.out.block nb hnV g3 g4).trans ((hbV.out.block nb c1).trans HF.out.now))
              have RM := (hb9.block mb (by omega)).trans ((HX8.out.block mb hmV g6 g7).trans ((hbV.out.block mb c2).trans HF.out.may))
              have HW9 := Lib.hid hW9
              rw [← hW9]
              clear hW9 hb9 y0 y1 y2 y3 y4 y5 y6 y7 y8 y9 y10
              have x0 := cell_of_row W9 _ 0 _ _ _ hx9
              have x1 := cell_of_row W9 _ 1 _ _ _ hx9
              have x2 := cell_of_row W9 _ 2 _ _ _ hx9
              have x3 := cell_of_row W9 _ 3 _ _ _ hx9
              have p0 : W9.cell? ⟨nb, 0, none⟩ = some (.int .i64 (S.gen : Int)) := cell_of_row W9 _ 0 _ _ _ RN
              have p1 : W9.cell? ⟨nb, 1, none⟩ = some (.bool S.has) := cell_of_row W9 _ 1 _ _ _ RN
              have p2 : W9.cell? ⟨nb, 2, none⟩ = some (.string ⟨S.base.toArray⟩) := cell_of_row W9 _ 2 _ _ _ RN
              have p3 : W9.cell? ⟨nb, 3, none⟩ = some (.slice a S.recs.length cap) := cell_of_row W9 _ 3 _ _ _ RN
              have r0 : W9.cell? ⟨mb, 0, none⟩ = some (.int .i64 (T.gen : Int)) := cell_of_row W9 _ 0 _ _ _ RM
              have r1 : W9.cell? ⟨mb, 1, none⟩ = some (.bool T.has) := cell_of_row W9 _ 1 _ _ _ RM
              have r2 : W9.cell? ⟨mb, 2, none⟩ = some (.string ⟨T.base.toArray⟩) := cell_of_row W9 _ 2 _ _ _ RM
              have r3 : W9.cell? ⟨mb, 3, none⟩ = some (.slice a2 T.recs.length cap2) := cell_of_row W9 _ 3 _ _ _ RM
              have fp0 := frozen_of_row W9 _ 0 _ _ RN
              have fp1 := frozen_of_row W9 _ 1 _ _ RN
              have fp2 := frozen_of_row W9 _ 2 _ _ RN
              have fp3 := frozen_of_row W9 _ 3 _ _ RN
              have fr0 := frozen_of_row W9 _ 0 _ _ RM
              have fr1 := frozen_of_row W9 _ 1 _ _ RM
              have fr2 := frozen_of_row W9 _ 2 _ _ RM
              have fr3 := frozen_of_row W9 _ 3 _ _ RM
              have nw : nb < W9.heap.size := (Array.getElem?_eq_some_iff.1 RN).1
              have mw : mb < W9.heap.size := (Array.getElem?_eq_some_iff.1 RM).1
              have xw : w8.heap.size < W9.heap.size := (Array.getElem?_eq_some_iff.1 hx9).1
              have xn : w8.heap.size ≠ nb := by omega
              have xm : w8.heap.size ≠ mb := by omega
              clear RN RM hx9
              go_wp2
              go_roundw
              case rel => exact ⟨q + 1, j8, R, R, d8, a8, c8, a8, c8, _, _, by omega, by go_num, rfl, HF.out.again2 hbV.out hR HJ8.out hj8 HR8.out hn8 ho8 hr8 HP8.out HX8.out HW9.out rfl rfl⟩
              case measure => simp [intOf]; omega
      · have di : decide ((q : Int) < (L : Int)) = false := decide_eq_false (by omega)
        have hi1 : ¬ (q : Int) < (L : Int) := by omega
        have hstr := HF.out.strs
        have AG := again_any w wr g m k B d S T a a2 cap cap2 noK HF.out.pd HF.out.gr (by omega) (by omega) HF.out.room HF.out.fate.cr (noK_is w) HF.out.bel l1 l2 (by omega) (by omega) (fun W hb => (hstr W hb).1) (fun W hb => (hstr W hb).2)
        have eb : noK.row = #[.int .i64 0, .int .i64 0, .string ⟨#[]⟩, .bool false, .slice none 0 0, .int .i64 0, .int .i64 0, .string ⟨#[]⟩, .string ⟨#[]⟩, .bool false, .slice none 0 0] := rfl
        rw [eb] at AG
        unfold savedVal at AG
        have AGN := Lib.hid AG
        have HBW := Lib.hid HF.out.bel
        clear AG eb hstr
        go_wp2_with (first
          | (go_at_call 17; (with_reducible refine AGN.out.mono ?_); rintro e w8 ⟨R, d8, a8, c8, j8, hR, rfl, HJ8, hj8, HR8, hn8, ho8, hr8, HP8, HX8⟩; have HB8 := Lib.hid (bx_below HBW.out HX8.out hg' hm'))
          | (go_at_call 8; (with_reducible refine (AW.out _).mono ?_); rintro e wa ⟨rfl, hba⟩; have HBa := Lib.hid (below2 (below_al HB8.out _) hba); clear hba))
        go_ret
        exact ⟨rfl, HBa.out⟩
end Jrn
end Go.Proofs.Yteaikleofboknaa
end
