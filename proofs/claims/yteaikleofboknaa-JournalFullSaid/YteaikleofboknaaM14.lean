/- Texts put together: JrL. -/
import Derived.Test.YteaikleofboknaaM13
import Derived.Test.YteaikleofboknaaM02
import Derived.Test.YteaikleofboknaaM03
set_option linter.all false
section
set_option maxRecDepth 100000
namespace Go.Proofs.Yteaikleofboknaa
open Go.RowKit Go.Great Go.Maps
namespace Jrn
open Frm (fits num put scan strs rows allS allE oks ok cats)
open In (strVals Strs)
open Dsk (below2 below_al below_dN DkIn PD Bx Dok FileIn newD namesV)
theorem bj_below {w0 a b : World} {g m j : Nat} (h : Below w0.heap.size w0 a) (hx : Bj g m j a b) (hg : w0.heap.size ≤ g) (hm : w0.heap.size ≤ m) (hj : w0.heap.size ≤ j) : Below w0.heap.size w0 b :=
  ⟨hx.os.trans h.os, hx.tape.trans h.tape, hx.output.trans h.output, Nat.le_trans h.size hx.size, fun k hk => (hx.block k (Nat.lt_of_lt_of_le hk h.size) (by omega) (by omega) (by omega)).trans (h.block k hk)⟩
theorem bx_below {w0 a b : World} {g m : Nat} (h : Below w0.heap.size w0 a) (hx : Bx g m a b) (hg : w0.heap.size ≤ g) (hm : w0.heap.size ≤ m) : Below w0.heap.size w0 b :=
  ⟨hx.os.trans h.os, hx.tape.trans h.tape, hx.output.trans h.output, Nat.le_trans h.size hx.size, fun k hk => (hx.block k (Nat.lt_of_lt_of_le hk h.size) (by omega) (by omega)).trans (h.block k hk)⟩
/-- What an opening that is done answers. -/
theorem open_ok (w : World) (g m k B : Nat) (d : DkIn) (h : PG w g m d k B) (hk : k < 800000) (hB : B ≤ 1000000) (S : SavedIn) (hR : Rest d S) (hgen : S.gen ≤ 1000000) (hbase : S.base.length ≤ 100000) (hrecs : S.recs.length ≤ 100000) (h0 : (openV d S.gen).1 = 0) : Calls Try.prog 9 #[.pointer (some ⟨g, 0, none⟩)] w fun e w' => ∃ j a cap, e = .returned (.tuple #[.pointer (some ⟨j, 0, none⟩), savedVal S a cap, .int .i64 0]) ∧ Hid (JR w' j g (S.gen : Int) (S.recs.length : Int) false) ∧ w.heap.size ≤ j ∧ Hid (Recs w' w.heap.size a S.recs) ∧ (a = none → cap = 0) ∧ Hid (PD w' g m (openV d S.gen).2.files.length (openV d S.gen).2) ∧ Hid (Bx g m w w') :=
  (open_pg w g m k B d h hk hB S hR hgen hbase hrecs).mono fun e w' ⟨h1, h2, h3⟩ => by
    obtain ⟨j, a, cap, e1, e2, e3, e4, e5⟩ := h1.1 h0
    exact ⟨j, a, cap, e1, e2, e3, e4, e5, h2, h3⟩
theorem strs_b (W : World) (T : TypeId) : Strs (W.alloc (.cells #[.string ⟨#[98]⟩] T)) (some ⟨W.heap.size, 0, none⟩) (rows [[98]]) := Frm.strs_one W ⟨#[98]⟩ T
theorem strs_b' (W : World) (T : TypeId) (x : Nat) (hx : W.heap.size = x) : Strs (W.alloc (.cells #[.string ⟨#[98]⟩] T)) (some ⟨x, 0, none⟩) (rows [[98]]) := by
  subst hx
  exact strs_b W T
theorem strs_ls (W : World) (T : TypeId) : Strs (W.alloc (.cells #[.string ⟨#[108, 111, 103]⟩, .string ⟨#[115, 110, 97, 112]⟩] T)) (some ⟨W.heap.size, 0, none⟩) (rows [logN, snapN]) := Frm.strs_new2 W ⟨#[108, 111, 103]⟩ ⟨#[115, 110, 97, 112]⟩ T
set_option maxHeartbeats 8000000 in
theorem awake_any (w : World) : Calls Try.prog 8 #[] w fun e w' => e = .returned (.bool true) ∧ Below w.heap.size w w' := by
  obtain ⟨g, hg⟩ : ∃ g, g = w.heap.size + 1 := ⟨_, rfl⟩
  obtain ⟨m, hm⟩ : ∃ m, m = w.heap.size := ⟨_, rfl⟩
  have NEW : Hid (Calls Try.prog 6 #[.int .i64 4096] w fun e w' => e = .returned (.tuple #[.pointer (some ⟨g, 0, none⟩), .int .i64 0]) ∧ Hid (PD w' g m 0 (newD 4096)) ∧ Hid (Below w.heap.size w w')) := by
    rw [hg, hm]
    exact Dsk.new_any w 4096 (by decide)
  have hg' : w.heap.size ≤ g := by omega
  have hm' : w.heap.size ≤ m := by omega
  clear hg hm
  have O1 : Hid (∀ W, PD W g m 0 (newD 4096) → Calls Try.prog 9 #[.pointer (some ⟨g, 0, none⟩)] W fun e w' => ∃ j a cap, e = .returned (.tuple #[.pointer (some ⟨j, 0, none⟩), .agg #[.int .i64 0, .bool false, .string ⟨#[]⟩, .slice a 0 cap], .int .i64 0]) ∧ Hid (JR w' j g 0 0 false) ∧ W.heap.size ≤ j ∧ Hid (Recs w' W.heap.size a []) ∧ (a = none → cap = 0) ∧ Hid (PD w' g m dA.files.length dA) ∧ Hid (Bx g m W w')) := fun W hp =>
    open_ok W g m 0 0 (newD 4096) ⟨hp, gr_new (by decide)⟩ (by decide) (by decide) S0 (new_rest 4096) (by decide) (by decide) (by decide) awk1.1
  have A1 : Hid (∀ W j, PD W g m dA.files.length dA → JR W j g 0 0 false → j ≠ g → j ≠ m → Calls Try.prog 10 #[.pointer (some ⟨j, 0, none⟩), .string ⟨#[97]⟩] W fun e w' => e = .returned (.int .i64 0) ∧ Hid (PD w' g m dB.files.length dB) ∧ Hid (JR w' j g 0 1 false) ∧ Hid (Bj g m j W w')) := fun W j hp hj h1 h2 => by
    obtain ⟨a1, a2, a3, a4⟩ := awk1
    have := append_j W j g m 3 17 dA ⟨hp, a2.gr⟩ (by decide) 0 0 (by decide) hj h1 h2 a2.goes ⟨#[97]⟩ (by decide)
    rw [show (writeV dA (ByteArray.mk #[97]).data.toList) = (0, dB) from Prod.ext awk2.1 rfl] at this
    exact this.mono fun e w' ⟨e1, e2⟩ => ⟨e1, e2.out.pd, e2.out.jr, e2.out.bj⟩
  have A2 : Hid (∀ W j, PD W g m dB.files.length dB → JR W j g 0 1 false → j ≠ g → j ≠ m → Calls Try.prog 12 #[.pointer (some ⟨j, 0, none⟩), .string ⟨#[98, 97, 115, 101]⟩] W fun e w' => e = .returned (.int .i64 0) ∧ Hid (PD w' g m dC.files.length dC) ∧ Hid (JR w' j g 1 0 false) ∧ Hid (Bj g m j W w')) := fun W j hp hj h1 h2 => by
    obtain ⟨a1, a2, a3, a4⟩ := awk2
    have := snap_j W j g m 5 26 dB ⟨hp, a2.gr⟩ (by decide) 0 (by decide) 1 hj h1 h2 a2.goes ⟨#[98, 97, 115, 101]⟩ (by decide)
    rw [show (snapV dB 0 (ByteArray.mk #[98, 97, 115, 101]).data.toList) = (0, dC) from Prod.ext awk3.1 rfl] at this
    exact this.mono fun e w' ⟨e1, e2⟩ => ⟨e1, e2.out.pd, e2.out.jr, e2.out.bj⟩
  have A3 : Hid (∀ W j, PD W g m dC.files.length dC → JR W j g 1 0 false → j ≠ g → j ≠ m → Calls Try.prog 10 #[.pointer (some ⟨j, 0, none⟩), .string ⟨#[98]⟩] W fun e w' => e = .returned (.int .i64 0) ∧ Hid (PD w' g m dD.files.length dD) ∧ Hid (JR w' j g 1 1 false) ∧ Hid (Bj g m j W w')) := fun W j hp hj h1 h2 => by
    obtain ⟨a1, a2, a3, a4⟩ := awk3
    have := append_j W j g m 13 80 dC ⟨hp, a2.gr⟩ (by decide) 1 0 (by decide) hj h1 h2 a2.goes ⟨#[98]⟩ (by decide)
    rw [show (writeV dC (ByteArray.mk #[98]).data.toList) = (0, dD) from Prod.ext awk4.1 rfl] at this
    exact this.mono fun e w' ⟨e1, e2⟩ => ⟨e1, e2.out.pd, e2.out.jr, e2.out.bj⟩
  have A4 : Hid (∀ W j, PD W g m dD.files.length dD → JR W j g 1 1 false → Calls Try.prog 10 #[.pointer (some ⟨j, 0, none⟩), .string ⟨#[]⟩] W fun e w' => e = .returned (.int .i64 1) ∧ Below W.heap.size W w') := fun W j hp hj =>
    append_arg W j g m _ dD 1 1 hj hp awk4.2.1.goes ⟨#[]⟩ (by decide) (by decide)
  have O2 : Hid (∀ W, PD W g m dD.files.length dD → Calls Try.prog 9 #[.pointer (some ⟨g, 0, none⟩)] W fun e w' => ∃ j a cap, e = .returned (.tuple #[.pointer (some ⟨j, 0, none⟩), .agg #[.int .i64 1, .bool true, .string ⟨#[98, 97, 115, 101]⟩, .slice a 1 cap], .int .i64 0]) ∧ Hid (JR w' j g 1 1 false) ∧ W.heap.size ≤ j ∧ Hid (Recs w' W.heap.size a [[98]]) ∧ (a = none → cap = 0) ∧ Hid (PD w' g m dE.files.length dE) ∧ Hid (Bx g m W w')) := fun W hp => by
    obtain ⟨a1, a2, a3, a4⟩ := awk4
    exact open_ok W g m 15 89 dD ⟨hp, a2.gr⟩ (by decide) (by decide) SD a2.rest (by decide) (by decide) (by decide) awk5.1
  have SM : Hid (∀ W (a b : Option Addr) cap, Strs W a (rows [[98]]) → Strs W b (rows [[98]]) → Calls Try.prog 13 #[.agg #[.int .i64 1, .bool true, .string ⟨#[98, 97, 115, 101]⟩, .slice a 1 cap], .agg #[.int .i64 1, .bool true, .string ⟨#[98, 97, 115, 101]⟩, .slice b 1 1]] W fun e w' => e = .returned (.bool true) ∧ Below W.heap.size W w') := fun W a b cap h1 h2 => by
    have := same33_any SD SD a b cap 1 W (by decide) (by decide) h1 h2
    rw [decide_eq_true rfl] at this
    exact this
  have NM : Hid (∀ W, PD W g m dE.files.length dE → Calls Try.prog 20 #[.pointer (some ⟨g, 0, none⟩)] W fun e w' => ∃ a cap, e = .returned (.slice a 2 cap) ∧ Hid (Strs w' a (rows [logN, snapN])) ∧ Below W.heap.size W w') := fun W hp => by
    obtain ⟨a1, a2, a3, a4⟩ := awk5
    refine (Dsk.names_any W g m _ dE hp a2.gr.ok (by have := a2.gr.len; omega)).mono fun e w' ⟨v, e1, e2, e3⟩ => ?_
    rw [names_awk] at e2
    have e4 : w'.ownsRow W.heap.size 9 1 v (rows [logN, snapN]).length (strVals (rows [logN, snapN])) := e2.out
    obtain ⟨a, cap, rfl, hst⟩ := In.strs_of_own e4
    exact ⟨a, cap, e1, hst, e3.out⟩
  have FS : Hid (∀ W (a b : Option Addr) cap, Strs W a (rows [logN, snapN]) → Strs W b (rows [logN, snapN]) → Calls Try.prog 19 #[.slice a 2 cap, .slice b 2 2] W fun e w' => e = .returned (.bool true) ∧ Below W.heap.size W w') := fun W a b cap h1 h2 => by
    have := Dsk.same_any a b cap 2 (rows [logN, snapN]) (rows [logN, snapN]) (by decide) (by decide) W h1 h2
    rw [show Dsk.same (rows [logN, snapN]) (rows [logN, snapN]) = true from decide_eq_true rfl] at this
    exact this
  go_enter Try.func8, Try.ntmps8
  go_wp2_with (first
    | (go_at_call 6; (with_reducible refine NEW.out.mono ?_); rintro e w1 ⟨rfl, HP1, HB1⟩)
    | (go_at_call 9; (with_reducible refine (O1.out _ HP1.out).mono ?_); rintro e w2 ⟨j, sa, sc, rfl, HJ2, hjw, HR2, -, HP2, HX2⟩; have HB2 := Lib.hid (bx_below HB1.out HX2.out hg' hm'); have hjg : j ≠ g := (by have := HP1.out.lt.1; omega); have hjm : j ≠ m := (by have := HP1.out.lt.2; omega); have hj' : w.heap.size ≤ j := Nat.le_trans HB1.out.size hjw)
    | (go_at_call 10; (with_reducible refine (A1.out _ j (HP2.out.below (below_al (Below.refl _ _) _)) (HJ2.out.below (below_al (Below.refl _ _) _)) hjg hjm).mono ?_); rintro e w3 ⟨rfl, HP3, HJ3, HX3⟩; have HB3 := Lib.hid (bj_below (below_al HB2.out _) HX3.out hg' hm' hj'))
    | (go_at_call 12; (with_reducible refine (A2.out _ j HP3.out HJ3.out hjg hjm).mono ?_); rintro e w4 ⟨rfl, HP4, HJ4, HX4⟩; have HB4 := Lib.hid (bj_below HB3.out HX4.out hg' hm' hj'))
    | (go_at_call 10; (with_reducible refine (A3.out _ j HP4.out HJ4.out hjg hjm).mono ?_); rintro e w5 ⟨rfl, HP5, HJ5, HX5⟩; have HB5 := Lib.hid (bj_below HB4.out HX5.out hg' hm' hj'))
    | (go_at_call 10; (with_reducible refine (A4.out _ j HP5.out HJ5.out).mono ?_); rintro e w6 ⟨rfl, hb6⟩; have HB6 := Lib.hid (below2 HB5.out hb6); have HP6 := Lib.hid (HP5.out.below hb6); have HJ6 := Lib.hid (HJ5.out.below hb6); clear hb6)
    | (go_at_call 9; (with_reducible refine (O2.out _ HP6.out).mono ?_); rintro e w7 ⟨j2, sa2, sc2, rfl, HJ7, hjw2, HR7, -, HP7, HX7⟩; have HB7 := Lib.hid (bx_below HB6.out HX7.out hg' hm'); have HK7 := Lib.hid (HJ6.out.bx HX7.out hjg hjm))
    | (go_at_call 13; (with_reducible refine (SM.out _ sa2 _ sc2 ?hs1 ?hs2).mono ?_); (case hs1 => exact (HR7.out.lie.below (below_al (below_al (Below.refl _ _) _) _))); (case hs2 => exact strs_b' _ _ _ (by simp)); rintro e w8 ⟨rfl, hb8⟩; have HB8 := Lib.hid (below2 (below_al (below_al HB7.out _) _) hb8); have HF8 := Lib.hid (below2 (below_al (below_al (Below.refl _ _) _) _) hb8); clear hb8)
    | (go_at_call 14; (with_reducible refine (gen_j _ j2 g 1 1 false (HJ7.out.below HF8.out)).mono ?_); rintro e w9 ⟨rfl, rfl⟩)
    | (go_at_call 15; (with_reducible refine (count_j _ j2 g 1 1 false (HJ7.out.below HF8.out)).mono ?_); rintro e w9 ⟨rfl, rfl⟩)
    | (go_at_call 15; (with_reducible refine (count_j _ j g 1 1 false (HK7.out.below HF8.out)).mono ?_); rintro e w9 ⟨rfl, rfl⟩)
    | (go_at_call 20; (with_reducible refine (NM.out _ (HP7.out.below HF8.out)).mono ?_); rintro e w10 ⟨na, nc, rfl, HN10, hb10⟩; have HB10 := Lib.hid (below2 HB8.out hb10); clear hb10)
    | (go_at_call 19; (with_reducible refine (FS.out _ na _ nc ?hs3 ?hs4).mono ?_); (case hs3 => exact HN10.out.below (below_al (Below.refl _ _) _)); (case hs4 => exact strs_ls _ _); rintro e w11 ⟨rfl, hb11⟩; have HB11 := Lib.hid (below2 (below_al HB10.out _) hb11); clear hb11))
  go_ret
  exact ⟨rfl, HB11.out⟩
theorem open_nil (w : World) : Calls Try.prog 9 #[.pointer none] w fun e w' => e = .returned (.tuple #[.pointer none, noSaved, .int .i64 1]) ∧ Below w.heap.size w w' := by
  go_enter Try.func9, Try.ntmps9
  go_wp2
  exact bodyPost_ret (ret_saved rfl _ _ w.heap.size _ _ _ _ _ _ rfl rfl rfl (heap_alloc_new w _)) rfl ⟨rfl, below_al (Below.refl _ _) _⟩
theorem nobody_walk (s : ByteArray) (hs : s.size ≤ maxLen) (w : World) : Calls Try.prog 4 #[.string s] w fun e w' => e = .returned (.bool true) ∧ Below w.heap.size w w' := by
  unfold maxLen at hs
  have AW : Hid (∀ W, Calls Try.prog 8 #[] W fun e w' => e = .returned (.bool true) ∧ Below W.heap.size W w') := awake_any
  by_cases h0 : 8192 < s.size
  · have d0 : decide ((8192 : Int) < (s.size : Int)) = true := decide_eq_true (by omega)
    go_enter Try.func4, Try.ntmps4
    go_wp2_with (go_at_call 8; (with_reducible refine (AW.out _).mono ?_); rintro e wa ⟨rfl, hba⟩)
    go_ret
    exact ⟨rfl, hba⟩
  · have d0 : decide ((8192 : Int) < (s.size : Int)) = false := decide_eq_false (by omega)
    have ON : Hid (∀ W, Calls Try.prog 9 #[.pointer none] W fun e w' => e = .returned (.tuple #[.pointer none, .agg #[.int .i64 0, .bool false, .string ⟨#[]⟩, .slice none 0 0], .int .i64 1]) ∧ Below W.heap.size W w') := open_nil
    have SM : Hid (∀ W, Calls Try.prog 13 #[.agg #[.int .i64 0, .bool false, .string ⟨#[]⟩, .slice none 0 0], .agg #[.int .i64 0, .bool false, .string ⟨#[]⟩, .slice none 0 0]] W fun e w' => e = .returned (.bool true) ∧ Below W.heap.size W w') := fun W => by
      have := same33_any S0 S0 none none 0 0 W (by decide) (by decide) (fun i hi => absurd hi (Nat.not_lt_zero i)) (fun i hi => absurd hi (Nat.not_lt_zero i))
      rw [decide_eq_true rfl] at this
      exact this
    go_enter Try.func4, Try.ntmps4
    go_wp2_with (first
      | (go_at_call 9; (with_reducible refine (ON.out _).mono ?_); rintro e w1 ⟨rfl, hb1⟩; have HB1 := Lib.hid hb1; clear hb1)
      | (go_at_call 13; (with_reducible refine (SM.out _).mono ?_); rintro e w2 ⟨rfl, hb2⟩; have HB2 := Lib.hid (below2 (below_al HB1.out _) hb2); clear hb2))
    obtain ⟨B, hB⟩ : ∃ B, Hid (w2.heap.size = B) := ⟨_, rfl⟩
    obtain ⟨V, hV⟩ : ∃ V, Hid ((w2.alloc (.cells #[.pointer none, .int .i64 0, .int .i64 0, .bool false] 46)).alloc (.cells #[.pointer none, .pointer (some ⟨B, 0, none⟩)] 30) = V) := ⟨_, rfl⟩
    have HBV : Hid (Below w.heap.size w V) := by rw [← hV.out]; exact below_al (below_al HB2.out _) _
    have hVs : Hid (V.heap.size = B + 2) := by show _ = _; rw [← hV.out, ← hB.out]; simp
    have z : ∀ j, V.cell? ⟨B, j, none⟩ = (#[.pointer none, .int .i64 0, .int .i64 0, .bool false] : Array Value)[j]? := fun j => by
      rw [← hV.out, ← hB.out]
      exact cell_of_row _ _ j _ _ _ (heap_alloc2_old w2 _ _)
    have u : ∀ j, V.cell? ⟨B + 1, j, none⟩ = (#[.pointer none, .pointer (some ⟨B, 0, none⟩)] : Array Value)[j]? := fun j => by
      rw [← hV.out, ← hB.out]
      exact cell_of_row _ _ j _ _ _ (heap_alloc2_new w2 _ _)
    have HF : Hid (∀ W, Below V.heap.size V W → W.cell? ⟨B + 1, 0, none⟩ = some (.pointer none) ∧ W.cell? ⟨B + 1, 1, none⟩ = some (.pointer (some ⟨B, 0, none⟩)) ∧ W.cell? ⟨B, 0, none⟩ = some (.pointer none) ∧ W.cell? ⟨B, 1, none⟩ = some (.int .i64 0) ∧ W.cell? ⟨B, 2, none⟩ = some (.int .i64 0) ∧ B + 1 < W.heap.size) := fun W hW => by
      have h1 := hVs.out
      have h2 := hW.size
      exact ⟨(hW.cell (p := ⟨B + 1, 0, none⟩) (by show B + 1 < _; omega)).trans (u 0), (hW.cell (p := ⟨B + 1, 1, none⟩) (by show B + 1 < _; omega)).trans (u 1), (hW.cell (p := ⟨B, 0, none⟩) (by show B < _; omega)).trans (z 0), (hW.cell (p := ⟨B, 1, none⟩) (by show B < _; omega)).trans (z 1), (hW.cell (p := ⟨B, 2, none⟩) (by show B < _; omega)).trans (z 2), by omega⟩
    have NA : Hid (∀ W, Calls Try.prog 10 #[.pointer none, .string s] W fun e w' => e = .returned (.int .i64 1) ∧ Below W.heap.size W w') := fun W => append_none W none (fun V _ => wakes_nil V) s
    have NS : Hid (∀ W, Calls Try.prog 12 #[.pointer none, .string s] W fun e w' => e = .returned (.int .i64 1) ∧ Below W.heap.size W w') := fun W => snap_none W none (fun V _ => wakes_nil V) s
    have ZA : Hid (∀ W, Below V.heap.size V W → Calls Try.prog 10 #[.pointer (some ⟨B, 0, none⟩), .string s] W fun e w' => e = .returned (.int .i64 1) ∧ Below W.heap.size W w') := fun W hW => append_none W _ (fun U hU => wakes_zero U B (HF.out U (below2 hW hU)).2.2.1) s
    have ZS : Hid (∀ W, Below V.heap.size V W → Calls Try.prog 12 #[.pointer (some ⟨B, 0, none⟩), .string s] W fun e w' => e = .returned (.int .i64 1) ∧ Below W.heap.size W w') := fun W hW => snap_none W _ (fun U hU => wakes_zero U B (HF.out U (below2 hW hU)).2.2.1) s
    rw [hB.out, hV.out]
    clear z u hV hB HB1 HB2
    go_loopw [7] (fun v wr => ∃ k : Nat, k ≤ 2 ∧ v = .int .i64 (k : Int) ∧ Hid (Below V.heap.size V wr)) (fun v _ => 2 - (intOf v).toNat)
    case atStart => exact ⟨0, by omega, rfl, Below.refl _ _⟩
    case round =>
      obtain ⟨k, hk, rfl, HB⟩ := hrel
      obtain ⟨y0, y1, y2, y3, y4, y5⟩ := HF.out _ HB.out
      by_cases hlt : k < 2
      · match k, hlt with
        | 0, _ =>
          go_wp2_with (first
            | (go_at_call 10; (with_reducible refine (NA.out _).mono ?_); rintro e w3 ⟨rfl, hb3⟩; have HB3 := Lib.hid (below2 HB.out hb3); clear hb3; obtain ⟨q0, q1, q2, q3, q4, q5⟩ := HF.out _ HB3.out)
            | (go_at_call 12; (with_reducible refine (NS.out _).mono ?_); rintro e w4 ⟨rfl, hb4⟩; have HB4 := Lib.hid (below2 HB3.out hb4); clear hb4; obtain ⟨r0, r1, r2, r3, r4, r5⟩ := HF.out _ HB4.out)
            | (go_at_call 14; (with_reducible refine (gen_nil _).mono ?_); rintro e w5 ⟨rfl, rfl⟩)
            | (go_at_call 15; (with_reducible refine (count_nil _).mono ?_); rintro e w6 ⟨rfl, rfl⟩))
          go_roundw
          case rel => exact ⟨1, by omega, rfl, HB4⟩
          case measure => simp [intOf]
        | 1, _ =>
          go_wp2_with (first
            | (go_at_call 10; (with_reducible refine (ZA.out _ HB.out).mono ?_); rintro e w3 ⟨rfl, hb3⟩; have HB3 := Lib.hid (below2 HB.out hb3); clear hb3; obtain ⟨q0, q1, q2, q3, q4, q5⟩ := HF.out _ HB3.out)
            | (go_at_call 12; (with_reducible refine (ZS.out _ HB3.out).mono ?_); rintro e w4 ⟨rfl, hb4⟩; have HB4 := Lib.hid (below2 HB3.out hb4); clear hb4; obtain ⟨r0, r1, r2, r3, r4, r5⟩ := HF.out _ HB4.out)
            | (go_at_call 14; (with_reducible refine (gen_zero _ B r3).mono ?_); rintro e w5 ⟨rfl, rfl⟩)
            | (go_at_call 15; (with_reducible refine (count_zero _ B r4).mono ?_); rintro e w6 ⟨rfl, rfl⟩))
          go_roundw
          case rel => exact ⟨2, by omega, rfl, HB4⟩
          case measure => simp [intOf]
      · have : k = 2 := by omega
        subst this
        go_wp2_with (go_at_call 8; (with_reducible refine (AW.out _).mono ?_); rintro e wa ⟨rfl, hba⟩; have HBa := Lib.hid (below2 (below2 HBV.out HB.out) hba))
        go_ret
        exact ⟨rfl, HBa.out⟩
end Jrn
end Go.Proofs.Yteaikleofboknaa
end
