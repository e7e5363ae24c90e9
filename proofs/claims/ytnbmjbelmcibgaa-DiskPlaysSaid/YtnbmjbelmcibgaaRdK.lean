/- Whatever is done, the disk answers what the document's does: the walk. -/
import Derived.Test.YtnbmjbelmcibgaaRdJ
import Derived.Deep.RegionHeld3
set_option linter.unusedSimpArgs false
set_option linter.unusedVariables false
namespace Go.Proofs.Ytnbmjbelmcibgaa
open Go.RowKit Go.Great Go.Maps
namespace Dsk
/-- The two disks, of one state. -/
structure Pl (X : World) (g m g2 B : Nat) (d : DkIn) (V : World) : Prop where
  pd : PD V g m d.files.length d
  rd : ∃ v, RD V g2 B v d
  bel : Below X.heap.size X V
  lt1 : g < B
  lt2 : m < B
theorem Pl.next {X : World} {g m g2 B : Nat} {d : DkIn} {V V' : World} (h : Hid (Pl X g m g2 B d V)) (hb : Below V.heap.size V V') : Hid (Pl X g m g2 B d V') :=
  ⟨h.out.pd.below hb, let ⟨v, hv⟩ := h.out.rd; ⟨v, hv.below hb⟩, below2 h.out.bel hb, h.out.lt1, h.out.lt2⟩
theorem Pl.dr {X : World} {g m g2 B : Nat} {d : DkIn} {V : World} (h : Hid (Pl X g m g2 B d V)) : Hid (Pl X g m g2 B d V.drew) := Pl.next h (Below.refl V.heap.size V).drew
theorem pl_flat {X : World} {g m g2 B : Nat} {d : DkIn} {V : World} (h : Hid (Pl X g m g2 B d V)) : V.cell? ⟨g2, 2, none⟩ = some (.int .i64 d.ops) ∧ V.cell? ⟨g2, 5, none⟩ = some (.bool d.dead) ∧ Hid (Pl X g m g2 B d V) := by
  obtain ⟨v, hv⟩ := h.out.rd
  obtain ⟨-, -, c2, -, -, c5⟩ := hv.cells
  exact ⟨c2, c5, h⟩
theorem PD.toB {w w' : World} {g m n B : Nat} {d : DkIn} (h : PD w g m n d) (hx : Below B w w') (h1 : g < B) (h2 : m < B) : PD w' g m n d := by
  refine ⟨h.row.of_block (hx.block g h1), ?_, h.ne⟩
  obtain ⟨es, clock, hb, hr⟩ := h.own
  exact ⟨es, clock, (hx.block m h2).trans hb, hr⟩
theorem RD.bx {w w' : World} {g m g2 B : Nat} {v : Value} {d : DkIn} (h : RD w g2 B v d) (hx : Bx g m w w') (h1 : g < B) (h2 : m < B) : RD w' g2 B v d := by
  have hlo := h.lo
  refine ⟨h.row.of_block (hx.block g2 h.lt (by omega) (by omega)), ?_, h.ne, h.lo⟩
  obtain ⟨o1, o2⟩ := h.own
  refine ⟨o1, ?_⟩
  rcases o2 with o2 | ⟨gv, cap, cur, hv, hb, hc, o3⟩
  · exact Or.inl o2
  · refine Or.inr ⟨gv, cap, cur, hv, hb, ?_, o3⟩
    rw [hx.block gv (Array.getElem?_eq_some_iff.1 hc).1 (by omega) (by omega)]
    exact hc
set_option maxRecDepth 100000 in
set_option maxHeartbeats 8000000 in
theorem plays_walk (z : Int) (hz : (Lit.int .i64 z).wf = true) (v1 : Value) (acts : List ActB) {w : World} (ha : IsActs w v1 acts) : Calls Try.prog 5 #[.int .i64 z, v1] w fun e w' => e = .returned (.bool true) ∧ Below w.heap.size w w' := by
  obtain ⟨aa, acap, rfl, hal, hac, hai⟩ := ha
  have HAC := Lib.hid hac
  have HAI := Lib.hid hai
  have SM : Hid (∀ W, Below w.heap.size w W → Calls Try.prog 15 #[.slice aa acts.length acap, .int .i64 40] W fun e w' => (∃ r, e = .returned (.bool r) ∧ (r = true → acts.length ≤ 40 ∧ ∀ i, i < acts.length → Few3 (acts.getD i noA))) ∧ Below W.heap.size W w') := fun W hb => small_any W aa acap acts hal (HAC.out.below hb) 40 (by decide)
  clear hac hai
  unfold maxLen at hal
  have AW : Hid (∀ W, Calls Try.prog 7 #[] W fun e w' => e = .returned (.bool true) ∧ Below W.heap.size W w') := awake_any
  by_cases a1 : 1024 < z
  · have da1 : decide ((1024 : Int) < z) = true := decide_eq_true a1
    go_enter Try.func5, Try.ntmps5
    go_wp2_with (go_at_call 7; (with_reducible refine (AW.out _).mono ?_); rintro e wa ⟨rfl, hba⟩)
    go_ret
    exact ⟨rfl, hba⟩
  have da1 : decide ((1024 : Int) < z) = false := decide_eq_false a1
  by_cases a2 : z < 0
  · have NB : Hid (∀ W, Calls Try.prog 8 #[.int .i64 z] W fun e w' => e = .returned (.tuple #[.pointer none, .int .i64 1]) ∧ W = w') := fun W => new_bad W z (Or.inl a2)
    have RB : Hid (∀ W, Calls Try.prog 17 #[.int .i64 z] W fun e w' => e = .returned (.tuple #[.pointer none, .int .i64 1]) ∧ W = w') := fun W => rnew_bad W z (Or.inl a2)
    go_enter Try.func5, Try.ntmps5
    go_upto_region 8 with (first | (go_at_call 15; (with_reducible refine (SM.out _ (Below.refl _ _)).mono ?_); rintro e ws ⟨⟨r, rfl, hr⟩, hbs⟩; have HBs := Lib.hid hbs; clear hbs; cases r) | (go_at_call 7; (with_reducible refine (AW.out _).mono ?_); rintro e wa ⟨rfl, hba⟩) | (go_at_call 8; (with_reducible refine (NB.out _).mono ?_); rintro e w2 ⟨rfl, rfl⟩) | (go_at_call 17; (with_reducible refine (RB.out _).mono ?_); rintro e w3 ⟨rfl, rfl⟩))
    · go_ret
      exact ⟨rfl, below2 HBs.out hba⟩
    · by_cases hz0 : 0 < acts.length
      · have d0 : decide ((0 : Int) < (acts.length : Int)) = true := decide_eq_true (by omega)
        have d00 : (0 : Int) < (acts.length : Int) := by omega
        go_loopw [9] (fun x wr => x = .int .i64 0 ∧ Hid (Below w.heap.size w wr)) (fun _ _ => 0)
        case atStart => exact ⟨rfl, HBs.out⟩
        case round =>
          obtain ⟨rfl, HBr⟩ := hrel
          go_wp2_with (go_at_call 7; (with_reducible refine (AW.out _).mono ?_); rintro e wa ⟨rfl, hba⟩)
          go_ret
          exact ⟨rfl, below2 HBr.out hba⟩
      · have d0 : decide ((0 : Int) < (acts.length : Int)) = false := decide_eq_false (by omega)
        have d00 : ¬ (0 : Int) < (acts.length : Int) := by omega
        go_loopw [9] (fun x wr => x = .int .i64 0 ∧ Hid (Below w.heap.size w wr)) (fun _ _ => 0)
        case atStart => exact ⟨rfl, HBs.out⟩
        case round =>
          obtain ⟨rfl, HBr⟩ := hrel
          go_wp2_with (go_at_call 7; (with_reducible refine (AW.out _).mono ?_); rintro e wa ⟨rfl, hba⟩)
          go_ret
          exact ⟨rfl, below2 HBr.out hba⟩
  have NG : Hid (∀ W g m, g = W.heap.size + 1 → m = W.heap.size → Calls Try.prog 8 #[.int .i64 z] W fun e w' => e = .returned (.tuple #[.pointer (some ⟨g, 0, none⟩), .int .i64 0]) ∧ Hid (PD w' g m 0 (newD z)) ∧ Hid (Below W.heap.size W w')) := fun W g m hg hm => by
    rw [hg, hm]
    exact new_any W z (by omega)
  have RG : Hid (∀ W, Calls Try.prog 17 #[.int .i64 z] W fun e w' => e = .returned (.tuple #[.pointer (some ⟨W.heap.size, 0, none⟩), .int .i64 0]) ∧ Hid (RD w' W.heap.size W.heap.size (.slice none 0 0) (newD z)) ∧ Hid (Below W.heap.size W w')) := fun W => rnew_any W z (by omega)
  have n0 := new_siz z (by omega)
  go_enter Try.func5, Try.ntmps5
  go_upto_region 8 with (first
    | (go_at_call 15; (with_reducible refine (SM.out _ (Below.refl _ _)).mono ?_); rintro e ws ⟨⟨r, rfl, hr⟩, hbs⟩; have HBs := Lib.hid hbs; clear hbs; cases r)
    | (go_at_call 7; (with_reducible refine (AW.out _).mono ?_); rintro e wa ⟨rfl, hba⟩)
    | (go_at_call 8; (with_reducible refine (NG.out _ _ _ rfl rfl).mono ?_); rintro e w2 ⟨rfl, HP2, HB2⟩)
    | (go_at_call 17; (with_reducible refine (RG.out _).mono ?_); rintro e w3 ⟨rfl, HR3, HB3⟩))
  · go_ret
    exact ⟨rfl, below2 HBs.out hba⟩
  · obtain ⟨hl40, hfw⟩ := hr trivial
    have hlt : ws.heap.size + 1 < w2.heap.size := HP2.out.lt.1
    have hg' : w.heap.size ≤ ws.heap.size + 1 := Nat.le_succ_of_le HBs.out.size
    have hm' : w.heap.size ≤ ws.heap.size := HBs.out.size
    have HPL : Hid (Pl w (ws.heap.size + 1) ws.heap.size w2.heap.size w2.heap.size (newD z) w3) := ⟨(HP2.out.below HB3.out).tight, ⟨_, HR3.out⟩, below2 (below2 HBs.out HB2.out) HB3.out, hlt, by omega⟩
    have hB' : w.heap.size ≤ w2.heap.size := by omega
    have hfw := Lib.hid hfw
    clear NG RG SM hr HP2 HB2 HR3 HB3 hlt
    generalize newD z = D0 at *
    generalize w2.heap.size = B at *
    generalize ws.heap.size + 1 = g at *
    generalize ws.heap.size = m at *
    have HPL2 : Hid (Pl w g m B B D0 w3) := HPL
    clear HPL
    have HS0 := Lib.hid n0
    clear n0
    have CDO : Hid (∀ W d i, i < acts.length → Hid (Pl w g m B B d W) → Siz d i → Calls Try.prog 16 #[.pointer (some ⟨g, 0, none⟩), .agg (acts.getD i noA).val] W fun e w' => e = .returned (.tuple #[.string ⟨(doV d (acts.getD i noA).a).1.1.toArray⟩, .int .i64 (doV d (acts.getD i noA).a).1.2]) ∧ Hid (PD w' g m (doV d (acts.getD i noA).a).2.files.length (doV d (acts.getD i noA).a).2) ∧ Hid (Bx g m W w')) := fun W d i hi h hs => do_any w W g m d h.out.pd i hs (by omega) _ (HAI.out i hi).came ((HAI.out i hi).few (hfw.out i hi)) h.out.bel hg' hm'
    have RDO : Hid (∀ W v d i, i < acts.length → RD W B B v d → Below w.heap.size w W → Siz d i → Calls Try.prog 18 #[.pointer (some ⟨B, 0, none⟩), .agg (acts.getD i noA).val] W fun e w' => e = .returned (.tuple #[.string ⟨(doV d (acts.getD i noA).a).1.1.toArray⟩, .int .i64 (doV d (acts.getD i noA).a).1.2]) ∧ (∃ v', Hid (RD w' B B v' (doV d (acts.getD i noA).a).2)) ∧ Hid (Below B W w')) := fun W v d i hi h hb hs => rdo_any w W B B v d h i hs (by omega) _ (HAI.out i hi).came ((HAI.out i hi).few (hfw.out i hi)) hb
    have CU : Hid (∀ W d k, k ≤ 100 → Siz d k → Hid (Pl w g m B B d W) → Calls Try.prog 19 #[.pointer (some ⟨g, 0, none⟩)] W fun e w' => e = .returned (.int .i64 (usedV d)) ∧ Below W.heap.size W w') := fun W d k hk hs h => used_any W g m _ d h.out.pd hs.ok (hs.lens (by omega)).2.1
    have RU : Hid (∀ W d k, k ≤ 100 → Siz d k → Hid (Pl w g m B B d W) → Calls Try.prog 20 #[.pointer (some ⟨B, 0, none⟩)] W fun e w' => e = .returned (.int .i64 (usedV d)) ∧ W = w') := fun W d k hk hs h => by
      obtain ⟨v, hv⟩ := h.out.rd
      exact rused_any W B B v d hv (by have := hs.len; omega) (hs.lens (by omega)).2.1
    have CO : Hid (∀ W d, Hid (Pl w g m B B d W) → Calls Try.prog 21 #[.pointer (some ⟨g, 0, none⟩)] W fun e w' => e = .returned (.int .i64 d.ops) ∧ W = w') := fun W d h => ops_any W g m _ d h.out.pd
    have CD : Hid (∀ W d, Hid (Pl w g m B B d W) → Calls Try.prog 22 #[.pointer (some ⟨g, 0, none⟩)] W fun e w' => e = .returned (.bool d.dead) ∧ W = w') := fun W d h => dead_any W g m _ d h.out.pd
    have CN : Hid (∀ W d k, k ≤ 100 → Siz d k → Hid (Pl w g m B B d W) → Calls Try.prog 24 #[.pointer (some ⟨g, 0, none⟩)] W fun e w' => ∃ a c, e = .returned (.slice a (namesV d).length c) ∧ Hid (In.Strs w' a ((namesV d).map fun b => (⟨b.toArray⟩ : ByteArray))) ∧ Hid (Below W.heap.size W w')) := fun W d k hk hs h => (names_any W g m _ d h.out.pd hs.ok (by have := hs.len; omega)).mono fun e w' ⟨v, he, hr, hb⟩ => by
      obtain ⟨a, c, rfl, hst⟩ := names_strs hr.out
      exact ⟨a, c, he, hst, hb⟩
    have RN : Hid (∀ W d k, k ≤ 100 → Siz d k → Hid (Pl w g m B B d W) → Calls Try.prog 25 #[.pointer (some ⟨B, 0, none⟩)] W fun e w' => ∃ a c, e = .returned (.slice a (namesV d).length c) ∧ Hid (In.Strs w' a ((namesV d).map fun b => (⟨b.toArray⟩ : ByteArray))) ∧ Hid (Below W.heap.size W w')) := fun W d k hk hs h => by
      obtain ⟨v, hv⟩ := h.out.rd
      exact (rnames_any W B B v d hv (by have := hs.len; omega)).mono fun e w' ⟨v, he, hr, hb⟩ => by
        obtain ⟨a, c, rfl, hst⟩ := names_strs hr.out
        exact ⟨a, c, he, hst, hb⟩
    have CM : Hid (∀ (a b : Option Addr) (c1 c2 : Nat) (W : World) (d : DkIn) k, k ≤ 100 → Siz d k → Hid (In.Strs W a ((namesV d).map fun b => (⟨b.toArray⟩ : ByteArray))) → Hid (In.Strs W b ((namesV d).map fun b => (⟨b.toArray⟩ : ByteArray))) → Calls Try.prog 23 #[.slice a (namesV d).length c1, .slice b (namesV d).length c2] W fun e w' => e = .returned (.bool true) ∧ Below W.heap.size W w') := fun a b c1 c2 W d k hk hs h1 h2 => by
      have hl : ((namesV d).map fun b => (⟨b.toArray⟩ : ByteArray)).length = (namesV d).length := List.length_map ..
      have hln : (namesV d).length ≤ 100 := by
        unfold namesV
        split
        · exact Nat.zero_le _
        · rw [List.length_map]; exact Nat.le_trans hs.len hk
      have := same_any a b c1 c2 _ _ (by rw [hl]; unfold maxLen; omega) (by rw [hl]; unfold maxLen; omega) W h1.out h2.out
      rw [hl] at this
      exact this.mono fun e w' ⟨he, hb⟩ => ⟨by rw [he]; exact congrArg (fun x => Ending.returned (.bool x)) (decide_eq_true rfl), hb⟩
    go_loopw [9] (fun x wr => ∃ (i : Nat) (d : DkIn), i ≤ acts.length ∧ x = .int .i64 (i : Int) ∧ Hid (Siz d i) ∧ Hid (Pl w g m B B d wr)) (fun x _ => acts.length - (intOf x).toNat)
    case atStart => exact ⟨0, D0, Nat.zero_le _, rfl, HS0.out, HPL2.out⟩
    case round =>
      obtain ⟨i, d, hil, rfl, HSi, HPi⟩ := hrel
      by_cases hi : i < acts.length
      · have di : decide ((i : Int) < (acts.length : Int)) = true := decide_eq_true (by omega)
        have hiI : (i : Int) < (acts.length : Int) := by omega
        obtain ⟨bk, off, rfl, hbk, hc⟩ := HAC.out i hi
        have hcc : ∀ W, Below w.heap.size w W → ∀ j, j < 6 → W.cell? ⟨bk, off + (i * 6 + j), none⟩ = (acts.getD i noA).val[j]? := fun W hW j hj => (hW.cell (p := ⟨bk, off + (i * 6 + j), none⟩) hbk).trans (hc j hj)
        have CDi := Lib.hid (CDO.out wr d i hi HPi HSi.out)
        have RDi : Hid (∀ W v, RD W B B v d → Below w.heap.size w W → _) := fun W v h hb => RDO.out W v d i hi h hb HSi.out
        have HSn : Hid (Siz (doV d (acts.getD i noA).a).2 (i + 1)) := siz_do HSi.out (by omega) _ ((HAI.out i hi).few (hfw.out i hi))
        clear hc
        generalize acts.getD i noA = x at *
        obtain ⟨⟨kind, nn, name, arg, half, kp⟩, xa, xc⟩ := x
        unfold ActB.val at *
        have HCC := Lib.hid hcc
        obtain ⟨y, hy⟩ : ∃ y, Hid (doV d ⟨kind, nn, name, arg, half, kp⟩ = y) := ⟨_, rfl⟩
        dsimp only at CDi RDi HSn
        rw [hy.out] at CDi HSn
        simp only [hy.out] at RDi
        clear hcc hy
        obtain ⟨⟨ys, ye⟩, d2⟩ := y
        dsimp only at CDi RDi HSn
        have c0 := HCC.out wr HPi.out.bel 0 (by decide)
        have c1 := HCC.out wr HPi.out.bel 1 (by decide)
        have c2 := HCC.out wr HPi.out.bel 2 (by decide)
        have c3 := HCC.out wr HPi.out.bel 3 (by decide)
        have c4 := HCC.out wr HPi.out.bel 4 (by decide)
        have c5 := HCC.out wr HPi.out.bel 5 (by decide)
        simp at c0 c1 c2 c3 c4 c5
        rw [← Nat.add_assoc] at c1 c2 c3 c4 c5
        have hbl : bk < wr.heap.size := Nat.lt_of_lt_of_le hbk HPi.out.bel.size
        go_upto_region 12 with (first
          | (go_at_call 16; (with_reducible refine CDi.out.mono ?_); rintro e w5 ⟨rfl, HP5, HX5⟩; have HB5 : Hid (Below w.heap.size w w5) := Bx.below2 HPi.out.bel HX5.out (Nat.le_refl _) hg' hm'; obtain ⟨rv, hrv⟩ := HPi.out.rd; have HR5 := Lib.hid (hrv.bx HX5.out HPi.out.lt1 HPi.out.lt2); clear hrv; clear c0 c1 c2 c3 c4 c5; have c0 := HCC.out w5 HB5.out 0 (by decide); have c1 := HCC.out w5 HB5.out 1 (by decide); have c2 := HCC.out w5 HB5.out 2 (by decide); have c3 := HCC.out w5 HB5.out 3 (by decide); have c4 := HCC.out w5 HB5.out 4 (by decide); have c5 := HCC.out w5 HB5.out 5 (by decide); (simp at c0 c1 c2 c3 c4 c5); (rw [← Nat.add_assoc] at c1 c2 c3 c4 c5); have hbl2 := Nat.lt_of_lt_of_le hbk HB5.out.size)
          | (go_at_call 18; (with_reducible refine (RDi.out _ _ HR5.out HB5.out).mono ?_); rintro e w6 ⟨rfl, ⟨rv6, HR6⟩, HX6⟩))
        have HPL6 : Hid (Pl w g m B B d2 w6) := ⟨HP5.out.toB HX6.out HPi.out.lt1 HPi.out.lt2, ⟨_, HR6.out⟩, HB5.out.trans (HX6.out.mono hB'), HPi.out.lt1, HPi.out.lt2⟩
        have hi1 : i + 1 ≤ 100 := by omega
        have HPL7 := Lib.hid (Pl.dr HPL6).out
        clear c0 c1 c2 c3 c4 c5
        go_region_held3 (fun V => V.cell? ⟨B, 2, none⟩ = some (.int .i64 d2.ops) ∧ V.cell? ⟨B, 5, none⟩ = some (.bool d2.dead) ∧ Hid (Pl w g m B B d2 V)) (first | exact pl_flat (by with_reducible assumption))
          (first
          | (go_at_call 23; (with_reducible refine (CM.out _ _ _ _ _ d2 (i + 1) hi1 HSn.out HNA HNB).mono ?_); rintro e w9 ⟨rfl, hb9⟩; have HQ9 : Hid (Pl w g m B B d2 w9) := Pl.next (by with_reducible assumption) hb9)
          | (go_at_call 19; (with_reducible refine (CU.out _ d2 (i + 1) hi1 HSn.out (by with_reducible assumption)).mono ?_); rintro e w7 ⟨rfl, hb7⟩; have HQ7 : Hid (Pl w g m B B d2 w7) := Pl.next (by with_reducible assumption) hb7)
          | (go_at_call 20; (with_reducible refine (RU.out _ d2 (i + 1) hi1 HSn.out (by with_reducible assumption)).mono ?_); rintro e w8 ⟨rfl, rfl⟩)
          | (go_at_call 21; (with_reducible refine (CO.out _ d2 (by with_reducible assumption)).mono ?_); rintro e w8 ⟨rfl, rfl⟩)
          | (go_at_call 22; (with_reducible refine (CD.out _ d2 (by with_reducible assumption)).mono ?_); rintro e w8 ⟨rfl, rfl⟩)
          | (go_at_call 24; (with_reducible refine (CN.out _ d2 (i + 1) hi1 HSn.out (by with_reducible assumption)).mono ?_); rintro e wn ⟨na, nc, rfl, HNA, HBn⟩; have HQn : Hid (Pl w g m B B d2 wn) := Pl.next (by with_reducible assumption) HBn.out; (try (have HNB := Lib.hid (HNB.out.below HBn.out))))
          | (go_at_call 25; (with_reducible refine (RN.out _ d2 (i + 1) hi1 HSn.out (by with_reducible assumption)).mono ?_); rintro e wm ⟨ma, mc, rfl, HNB, HBm⟩; have HQm : Hid (Pl w g m B B d2 wm) := Pl.next (by with_reducible assumption) HBm.out; (try (have HNA := Lib.hid (HNA.out.below HBm.out)))))
        go_wp2
        go_roundw
        case rel => exact ⟨i + 1, d2, by omega, by go_num, HSn.out, (by with_reducible assumption)⟩
        case measure => simp [intOf]; omega
      · have di : decide ((i : Int) < (acts.length : Int)) = false := decide_eq_false (by omega)
        have hiI : ¬ (i : Int) < (acts.length : Int) := by omega
        go_wp2_with (go_at_call 7; (with_reducible refine (AW.out _).mono ?_); rintro e wa ⟨rfl, hba⟩)
        go_ret
        exact ⟨rfl, below2 HPi.out.bel hba⟩
end Dsk
end Go.Proofs.Ytnbmjbelmcibgaa
