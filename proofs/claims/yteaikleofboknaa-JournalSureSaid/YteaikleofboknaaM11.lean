/- Texts put together: JrG, JrH. -/
import Derived.Test.YteaikleofboknaaM10
set_option linter.all false
section
set_option maxRecDepth 100000
namespace Go.Proofs.Yteaikleofboknaa
open Go.RowKit Go.Great Go.Maps
namespace Jrn
open Frm (fits num put scan strs rows allS allE oks ok cats)
open In (strVals Strs)
open Dsk
/-- A journal in a box, a text in a box. -/
structure Held (w : World) (g m a b j : Nat) (gen : Int) (T : ByteArray) : Prop where
  ca : w.cell? ⟨a, 0, none⟩ = some (.pointer (some ⟨j, 0, none⟩))
  cb : w.cell? ⟨b, 0, none⟩ = some (.string T)
  j0 : w.cell? ⟨j, 0, none⟩ = some (.pointer (some ⟨g, 0, none⟩))
  j1 : w.cell? ⟨j, 1, none⟩ = some (.int .i64 gen)
  al : a < w.heap.size
  bl : b < w.heap.size
  jl : j < w.heap.size
  ag : a ≠ g ∧ a ≠ m
  bg : b ≠ g ∧ b ≠ m
  jg : j ≠ g ∧ j ≠ m
theorem held_flat {w V : World} {g m a b j : Nat} {gen : Int} {T : ByteArray} (h : Held w g m a b j gen T) (hx : Hid (Bx g m w V)) :
    V.cell? ⟨a, 0, none⟩ = some (.pointer (some ⟨j, 0, none⟩)) ∧ V.cell? ⟨b, 0, none⟩ = some (.string T) ∧ V.cell? ⟨j, 0, none⟩ = some (.pointer (some ⟨g, 0, none⟩)) ∧ V.cell? ⟨j, 1, none⟩ = some (.int .i64 gen) ∧ Hid (Bx g m w V) :=
  ⟨(bx_cell hx.out h.al h.ag.1 h.ag.2).trans h.ca, (bx_cell hx.out h.bl h.bg.1 h.bg.2).trans h.cb, (bx_cell hx.out h.jl h.jg.1 h.jg.2).trans h.j0, (bx_cell hx.out h.jl h.jg.1 h.jg.2).trans h.j1, hx⟩
theorem bx_drew {g m : Nat} {w V : World} (h : Bx g m w V) : Bx g m w V.drew := ⟨h.os, h.tape, h.output, h.size, h.block⟩
theorem pd_drew {w : World} {g m n : Nat} {d : DkIn} (h : PD w g m n d) : PD w.drew g m n d := h.below (Below.refl _ _).drew
set_option maxHeartbeats 4000000 in
theorem write1_any (w : World) (g m k B a b j : Nat) (d : DkIn) (h : PG w g m d k B) (hk : k < 1000000) (gen : Int) (T : ByteArray) (hH : Held w g m a b j gen T) (hT : T.size ≤ 1000000) : Calls Try.prog 31 #[.pointer (some ⟨a, 0, none⟩), .pointer (some ⟨b, 0, none⟩)] w fun e w' => e = .returned (.int .i64 (appendV d logN T.data.toList).1) ∧ Hid (PD w' g m (appendV d logN T.data.toList).2.files.length (appendV d logN T.data.toList).2) ∧ Hid (Bx g m w w') := by
  have CC : Hid (∀ W, PD W g m d.files.length d → Calls Try.prog 32 #[.pointer (some ⟨g, 0, none⟩), .string ⟨#[108, 111, 103]⟩, .string T] W fun e w' => e = .returned (.int .i64 (appendV d logN T.data.toList).1) ∧ Hid (PD w' g m (appendV d logN T.data.toList).2.files.length (appendV d logN T.data.toList).2) ∧ Hid (Bx g m W w')) := fun W hp => append_pg W g m k B d ⟨hp, h.gr⟩ hk ⟨#[108, 111, 103]⟩ T (by decide) (by omega)
  have HP := Lib.hid (pd_drew h.pd)
  have HH := Lib.hid hH
  have HX0 : Hid (Bx g m w w.drew) := bx_drew (Bx.refl _ _ _)
  obtain ⟨y0, y1, y2, y3, -⟩ := held_flat hH (Lib.hid (Bx.refl g m w))
  clear h hH
  generalize appendV d logN T.data.toList = R at *
  go_enter Try.func31, Try.ntmps31
  go_upto_region 1 with (fail)
  go_region_held3 (fun V => V.cell? ⟨a, 0, none⟩ = some (.pointer (some ⟨j, 0, none⟩)) ∧ V.cell? ⟨b, 0, none⟩ = some (.string T) ∧ V.cell? ⟨j, 0, none⟩ = some (.pointer (some ⟨g, 0, none⟩)) ∧ V.cell? ⟨j, 1, none⟩ = some (.int .i64 gen) ∧ Hid (Bx g m w V)) (first | exact held_flat HH.out HX1 | exact held_flat HH.out HX0)
    ((go_at_call 32; ((with_reducible refine (CC.out _ HP.out).mono ?_); rintro e w1 ⟨rfl, HP1, HXa⟩; have HX1 := Lib.hid (HX0.out.trans HXa.out))))
  all_goals go_wp2
  all_goals go_ret
  all_goals exact ⟨rfl, HP1, HX1⟩
set_option maxHeartbeats 4000000 in
theorem snap1_any (w : World) (g m k B a b j : Nat) (d : DkIn) (h : PG w g m d k B) (hk : k < 900000) (gen : Nat) (hgen : gen + 1 ≤ 1099511627776) (cnt : Int) (dead : Bool) (hj : JR w j g gen cnt dead) (T : ByteArray) (hH : Held w g m a b j gen T) (hT : T.size ≤ 100000) : Calls Try.prog 36 #[.pointer (some ⟨a, 0, none⟩), .pointer (some ⟨b, 0, none⟩)] w fun e w' => e = .returned (.int .i64 (laysV d (fileB (gen + 1) T.data.toList)).1) ∧ Hid (PD w' g m (laysV d (fileB (gen + 1) T.data.toList)).2.files.length (laysV d (fileB (gen + 1) T.data.toList)).2) ∧ Hid (Bx g m w w') := by
  obtain ⟨F, hF⟩ : ∃ F : ByteArray, Hid ((⟨(fileB (gen + 1) T.data.toList).toArray⟩ : ByteArray) = F) := ⟨_, rfl⟩
  have fl : F.data.toList = fileB (gen + 1) T.data.toList := by rw [← hF.out]
  have fsz : F.size ≤ 1000000000 := by
    have := (fileB_len (gen + 1) T.data.toList).2
    rw [← fl, sz_list, sz_list] at this
    omega
  obtain ⟨G, hG⟩ : ∃ G : Int, Hid ((gen : Int) = G) := ⟨_, rfl⟩
  have FI : Hid (∀ W, Calls Try.prog 38 #[.int .i64 (G + 1), .string T] W fun e w' => e = .returned (.string F) ∧ Below W.heap.size W w') := fun W => by
    have := file_any (gen + 1) hgen T hT W
    rw [hF.out] at this
    rw [← hG.out]
    exact this
  have CL : Hid (∀ W, PD W g m d.files.length d → JR W j g gen cnt dead → Calls Try.prog 37 #[.pointer (some ⟨j, 0, none⟩), .string F] W fun e w' => e = .returned (.int .i64 (laysV d (fileB (gen + 1) T.data.toList)).1) ∧ Hid (PD w' g m (laysV d (fileB (gen + 1) T.data.toList)).2.files.length (laysV d (fileB (gen + 1) T.data.toList)).2) ∧ Hid (Bx g m W w')) := fun W hp hjw => by
    have := lays_pg W j g m k B d ⟨hp, h.gr⟩ hk gen cnt dead hjw hH.jg.1 hH.jg.2 F fsz
    rw [fl] at this
    exact this
  rw [hG.out] at hH hj CL
  have gw : IntKind.i64.wrap (G + 1) = G + 1 := by have := hG.out; rw [IntKind.wrap_i64]; omega
  have HP := Lib.hid (pd_drew h.pd)
  have HH := Lib.hid hH
  have HJ : Hid (JR w.drew j g G cnt dead) := hj.below (Below.refl _ _).drew
  have HX0 : Hid (Bx g m w w.drew) := bx_drew (Bx.refl _ _ _)
  obtain ⟨y0, y1, y2, y3, -⟩ := held_flat hH (Lib.hid (Bx.refl g m w))
  clear h hH hj fl
  generalize laysV d (fileB (gen + 1) T.data.toList) = R at *
  go_enter Try.func36, Try.ntmps36
  go_upto_region 1 with (fail)
  go_region_held3 (fun V => V.cell? ⟨a, 0, none⟩ = some (.pointer (some ⟨j, 0, none⟩)) ∧ V.cell? ⟨b, 0, none⟩ = some (.string T) ∧ V.cell? ⟨j, 0, none⟩ = some (.pointer (some ⟨g, 0, none⟩)) ∧ V.cell? ⟨j, 1, none⟩ = some (.int .i64 G) ∧ Hid (Bx g m w V)) (first | exact held_flat HH.out HX2 | exact held_flat HH.out HX1 | exact held_flat HH.out HX0)
    (first
      | (go_at_call 38; ((with_reducible refine (FI.out _).mono ?_); rintro e w1 ⟨rfl, hb1⟩; have HB1 := Lib.hid hb1; have HX1 := Lib.hid (HX0.out.trans (Bx.below hb1)); clear hb1))
      | (go_at_call 37; ((with_reducible refine (CL.out _ (HP.out.below HB1.out) (HJ.out.below HB1.out)).mono ?_); rintro e w2 ⟨rfl, HP2, HXa⟩; have HX2 := Lib.hid (HX1.out.trans HXa.out))))
  all_goals go_wp2
  all_goals go_ret
  all_goals exact ⟨rfl, HP2, HX2⟩
set_option maxHeartbeats 4000000 in
theorem snap4_any (w : World) (g m k B a j : Nat) (d : DkIn) (h : PG w g m d k B) (hk : k < 900000) (gen : Nat) (hgen : gen + 1 ≤ 1099511627776) (T : ByteArray) (b : Nat) (hH : Held w g m a b j gen T) : Calls Try.prog 42 #[.pointer (some ⟨a, 0, none⟩)] w fun e w' => e = .returned (.int .i64 (beginsD d (gen + 1)).1) ∧ Hid (PD w' g m (beginsD d (gen + 1)).2.files.length (beginsD d (gen + 1)).2) ∧ Hid (Bx g m w w') := by
  obtain ⟨G, hG⟩ : ∃ G : Int, Hid ((gen : Int) = G) := ⟨_, rfl⟩
  have CB : Hid (∀ W, PD W g m d.files.length d → Calls Try.prog 26 #[.pointer (some ⟨g, 0, none⟩), .int .i64 (G + 1)] W fun e w' => e = .returned (.int .i64 (beginsV d (gen + 1)).1) ∧ Hid (PD w' g m (beginsV d (gen + 1)).2.files.length (beginsV d (gen + 1)).2) ∧ Hid (Bx g m W w')) := fun W hp => by
    have := begins_pg W g m k B d ⟨hp, h.gr⟩ hk (gen + 1) hgen
    rw [← hG.out]
    exact this
  rw [hG.out] at hH
  have gw : IntKind.i64.wrap (G + 1) = G + 1 := by have := hG.out; rw [IntKind.wrap_i64]; omega
  have HP := Lib.hid (pd_drew h.pd)
  have HH := Lib.hid hH
  have HX0 : Hid (Bx g m w w.drew) := bx_drew (Bx.refl _ _ _)
  obtain ⟨y0, y1, y2, y3, -⟩ := held_flat hH (Lib.hid (Bx.refl g m w))
  clear h hH
  unfold beginsD
  generalize beginsV d (gen + 1) = R at *
  obtain ⟨z, d1⟩ := R
  dsimp only at *
  by_cases h0 : z = 0
  · subst h0
    rw [if_pos rfl]
    go_enter Try.func42, Try.ntmps42
    go_upto_region 1 with (fail)
    go_region_held3 (fun V => V.cell? ⟨a, 0, none⟩ = some (.pointer (some ⟨j, 0, none⟩)) ∧ V.cell? ⟨b, 0, none⟩ = some (.string T) ∧ V.cell? ⟨j, 0, none⟩ = some (.pointer (some ⟨g, 0, none⟩)) ∧ V.cell? ⟨j, 1, none⟩ = some (.int .i64 G) ∧ Hid (Bx g m w V)) (first | exact held_flat HH.out HX1 | exact held_flat HH.out HX0)
      ((go_at_call 26; ((with_reducible refine (CB.out _ HP.out).mono ?_); rintro e w1 ⟨rfl, HP1, HXa⟩; have HX1 := Lib.hid (HX0.out.trans HXa.out))))
    all_goals go_wp2
    all_goals go_ret
    all_goals exact ⟨rfl, HP1, HX1⟩
  · have e0 : (z != 0) = true := bne_iff_ne.2 h0
    rw [if_neg h0]
    go_enter Try.func42, Try.ntmps42
    go_upto_region 1 with (fail)
    go_region_held3 (fun V => V.cell? ⟨a, 0, none⟩ = some (.pointer (some ⟨j, 0, none⟩)) ∧ V.cell? ⟨b, 0, none⟩ = some (.string T) ∧ V.cell? ⟨j, 0, none⟩ = some (.pointer (some ⟨g, 0, none⟩)) ∧ V.cell? ⟨j, 1, none⟩ = some (.int .i64 G) ∧ Hid (Bx g m w V)) (first | exact held_flat HH.out HX1 | exact held_flat HH.out HX0)
      ((go_at_call 26; ((with_reducible refine (CB.out _ HP.out).mono ?_); rintro e w1 ⟨rfl, HP1, HXa⟩; have HX1 := Lib.hid (HX0.out.trans HXa.out))))
    all_goals go_wp2
    all_goals go_ret
    all_goals exact ⟨rfl, HP1, HX1⟩
end Jrn
end Go.Proofs.Yteaikleofboknaa
end
section
set_option maxRecDepth 100000
namespace Go.Proofs.Yteaikleofboknaa
open Go.RowKit Go.Great Go.Maps
namespace Jrn
open Frm (fits num put scan strs rows allS allE oks ok cats)
open In (strVals Strs)
open Dsk
theorem Held.bx {w V : World} {g m a b j : Nat} {gen : Int} {T : ByteArray} (h : Held w g m a b j gen T) (hx : Bx g m w V) : Held V g m a b j gen T := by
  obtain ⟨h1, h2, h3, h4, -⟩ := held_flat h (Lib.hid hx)
  exact ⟨h1, h2, h3, h4, Nat.lt_of_lt_of_le h.al hx.size, Nat.lt_of_lt_of_le h.bl hx.size, Nat.lt_of_lt_of_le h.jl hx.size, h.ag, h.bg, h.jg⟩
def writeR (d : DkIn) (r : List UInt8) : Nat → Int × DkIn
  | 0 => (0, d)
  | 1 => appendV d logN (put r)
  | _ => syncV (appendV d logN (put r)).2 logN
theorem write_pick (d : DkIn) (r : List UInt8) : pickR (writeR d r) 2 = writeV d r := by
  unfold pickR pickF pickF pickF writeV thenV
  show (if (appendV d logN (put r)).1 = 0 then _ else _) = _
  by_cases h1 : (appendV d logN (put r)).1 = 0
  · rw [if_pos h1, if_pos h1]
    show (if (syncV (appendV d logN (put r)).2 logN).1 = 0 then _ else _) = _
    split <;> rfl
  · rw [if_neg h1, if_neg h1]
    rfl
def snapR (d : DkIn) (g : Nat) (base : List UInt8) : Nat → Int × DkIn
  | 0 => (0, d)
  | 1 => laysV d (fileB (g + 1) base)
  | 2 => syncV (laysV d (fileB (g + 1) base)).2 newN
  | 3 => renameV (syncV (laysV d (fileB (g + 1) base)).2 newN).2 newN snapN
  | _ => beginsD (renameV (syncV (laysV d (fileB (g + 1) base)).2 newN).2 newN snapN).2 (g + 1)
theorem snap_pick (d : DkIn) (g : Nat) (base : List UInt8) : pickR (snapR d g base) 4 = snapV d g base := by
  unfold pickR pickF pickF pickF pickF pickF snapV
  show (if (laysV d (fileB (g + 1) base)).1 = 0 then _ else _) = _
  by_cases h1 : (laysV d (fileB (g + 1) base)).1 = 0
  · rw [if_pos h1, thenV_ok h1]
    show (if (syncV (laysV d (fileB (g + 1) base)).2 newN).1 = 0 then _ else _) = _
    by_cases h2 : (syncV (laysV d (fileB (g + 1) base)).2 newN).1 = 0
    · rw [if_pos h2, thenV_ok h2]
      show (if (renameV (syncV (laysV d (fileB (g + 1) base)).2 newN).2 newN snapN).1 = 0 then _ else _) = _
      by_cases h3 : (renameV (syncV (laysV d (fileB (g + 1) base)).2 newN).2 newN snapN).1 = 0
      · rw [if_pos h3, thenV_ok h3]
        show (if (beginsD (renameV (syncV (laysV d (fileB (g + 1) base)).2 newN).2 newN snapN).2 (g + 1)).1 = 0 then _ else _) = _
        split <;> rfl
      · rw [if_neg h3, thenV_no h3]
        rfl
    · rw [if_neg h2, thenV_no (r := syncV (laysV d (fileB (g + 1) base)).2 newN) h2, thenV_no h2]
      rfl
  · rw [if_neg h1, thenV_no (r := laysV d (fileB (g + 1) base)) h1, thenV_no (r := laysV d (fileB (g + 1) base)) h1, thenV_no h1]
    rfl
theorem gr_snapR {d : DkIn} {k B : Nat} (h : Gr d k B) (hk : k < 900000) (g : Nat) (base : List UInt8) : ∀ j, j ≤ 3 → Gr (snapR d g base j).2 (k + 5) (B + (fileB (g + 1) base).length)
  | 0, _ => h.mono (by omega) (by omega)
  | 1, _ => (gr_lays h (by omega) _).mono (by omega) (by omega)
  | 2, _ => (gr_sync (gr_lays h (by omega) _) (by omega) newN).mono (by omega) (by omega)
  | 3, _ => (gr_rename (gr_sync (gr_lays h (by omega) _) (by omega) newN) (by omega) newN snapN).mono (by omega) (by omega)
/-- What behind an act is known of a journal. -/
structure Acted (w w' : World) (g m j : Nat) (r : Int × DkIn) (gen cnt : Int) (dead : Bool) : Prop where
  pd : PD w' g m r.2.files.length r.2
  jr : JR w' j g gen cnt dead
  bj : Bj g m j w w'
theorem append_dead (w : World) (j g m n : Nat) (d : DkIn) (gen cnt : Int) (dead : Bool) (hj : JR w j g gen cnt dead) (h : PD w g m n d) (hd : (dead || d.dead) = true) (s : ByteArray) : Calls Try.prog 10 #[.pointer (some ⟨j, 0, none⟩), .string s] w fun e w' => e = .returned (.int .i64 14) ∧ Below w.heap.size w w' := by
  have CW : Hid (∀ W, Below w.heap.size w W → Calls Try.prog 28 #[.pointer (some ⟨j, 0, none⟩)] W fun e w' => e = .returned (.int .i64 14) ∧ W = w') := fun W hb => by
    have := wakes_j W j g m n d gen cnt dead (hj.below hb) (h.below hb)
    rw [hd, if_pos rfl] at this
    exact this
  clear hj h hd
  go_enter Try.func10, Try.ntmps10
  go_wp2_with (go_at_call 28; (with_reducible refine (CW.out _ (below_al (Below.refl _ _) _)).mono ?_); rintro e w1 ⟨rfl, rfl⟩)
  go_ret
  exact ⟨rfl, below_al (Below.refl _ _) _⟩
theorem append_none (w : World) (q : Option Addr) (CW : ∀ W, Below w.heap.size w W → Calls Try.prog 28 #[.pointer q] W fun e w' => e = .returned (.int .i64 1) ∧ W = w') (s : ByteArray) : Calls Try.prog 10 #[.pointer q, .string s] w fun e w' => e = .returned (.int .i64 1) ∧ Below w.heap.size w w' := by
  have CW := Lib.hid CW
  go_enter Try.func10, Try.ntmps10
  go_wp2_with (go_at_call 28; (with_reducible refine (CW.out _ (below_al (Below.refl _ _) _)).mono ?_); rintro e w1 ⟨rfl, rfl⟩)
  go_ret
  exact ⟨rfl, below_al (Below.refl _ _) _⟩
theorem append_arg (w : World) (j g m n : Nat) (d : DkIn) (gen cnt : Int) (hj : JR w j g gen cnt false) (h : PD w g m n d) (hd : d.dead = false) (s : ByteArray) (hm : s.size ≤ maxLen) (hs : fits s.size = false) : Calls Try.prog 10 #[.pointer (some ⟨j, 0, none⟩), .string s] w fun e w' => e = .returned (.int .i64 1) ∧ Below w.heap.size w w' := by
  have CW : Hid (∀ W, Below w.heap.size w W → Calls Try.prog 28 #[.pointer (some ⟨j, 0, none⟩)] W fun e w' => e = .returned (.int .i64 0) ∧ W = w') := fun W hb => by
    have := wakes_j W j g m n d gen cnt false (hj.below hb) (h.below hb)
    rw [hd] at this
    exact this
  have CP : Hid (∀ W, Calls Try.prog 29 #[.string s] W fun e w' => e = .returned (.tuple #[.string ⟨#[]⟩, .int .i64 1]) ∧ Below W.heap.size W w') := fun W => Frm.put_no s hm hs W
  clear hj h hd hs
  go_enter Try.func10, Try.ntmps10
  go_wp2_with (first
    | (go_at_call 28; (with_reducible refine (CW.out _ (below_al (Below.refl _ _) _)).mono ?_); rintro e w1 ⟨rfl, rfl⟩)
    | (go_at_call 29; (with_reducible refine (CP.out _).mono ?_); rintro e w2 ⟨rfl, hb2⟩; have HB2 := Lib.hid (below2 (below_al (Below.refl _ _) _) hb2)))
  go_ret
  exact ⟨rfl, below_al HB2.out _⟩
set_option maxHeartbeats 4000000 in
theorem append_j (w : World) (j g m k B : Nat) (d : DkIn) (h : PG w g m d k B) (hk : k < 900000) (gen cnt : Int) (hc : 0 ≤ cnt ∧ cnt ≤ 1000000) (hj : JR w j g gen cnt false) (hjg : j ≠ g) (hjm : j ≠ m) (hd : d.dead = false) (s : ByteArray) (hs : fits s.size = true) : Calls Try.prog 10 #[.pointer (some ⟨j, 0, none⟩), .string s] w fun e w' => e = .returned (.int .i64 (writeV d s.data.toList).1) ∧ Hid (Acted w w' g m j (writeV d s.data.toList) gen (if (writeV d s.data.toList).1 = 0 then cnt + 1 else cnt) (kills (writeV d s.data.toList).1)) := by
  have CW : Hid (∀ W, Below w.heap.size w W → Calls Try.prog 28 #[.pointer (some ⟨j, 0, none⟩)] W fun e w' => e = .returned (.int .i64 0) ∧ W = w') := fun W hb => by
    have := wakes_j W j g m _ d gen cnt false (hj.below hb) (h.pd.below hb)
    rw [hd] at this
    exact this
  obtain ⟨T, hT⟩ : ∃ T : ByteArray, Hid ((⟨(put s.data.toList).toArray⟩ : ByteArray) = T) := ⟨_, rfl⟩
  have tl : T.data.toList = put s.data.toList := by rw [← hT.out]
  have tsz : T.size ≤ 1000000 := by
    rw [← sz_list, tl, Frm.put_length, sz_list]
    unfold fits at hs
    rw [decide_eq_true_eq] at hs
    omega
  have CP : Hid (∀ W, Calls Try.prog 29 #[.string s] W fun e w' => e = .returned (.tuple #[.string T, .int .i64 0]) ∧ Below W.heap.size W w') := fun W => by
    have := Frm.put_yes s hs W
    rw [hT.out] at this
    exact this
  obtain ⟨hgl, hml⟩ := h.pd.lt
  have hjl := hj.lt
  have HPD := Lib.hid h.pd
  have HJ := Lib.hid hj
  have HG1 := Lib.hid (gr_append h.gr (by omega) logN (put s.data.toList))
  have ST : Hid (∀ (W : World) (x a b : Nat), x < W.heap.size → a < W.heap.size → b < W.heap.size → w.heap.size ≤ x → w.heap.size ≤ a → w.heap.size ≤ b → Below w.heap.size w W →
      W.cell? ⟨a, 0, none⟩ = some (.pointer (some ⟨j, 0, none⟩)) → W.cell? ⟨b, 0, none⟩ = some (.string T) →
      W.cell? ⟨x, 0, none⟩ = some (.func (.func 31) #[] #[.pointer (some ⟨a, 0, none⟩), .pointer (some ⟨b, 0, none⟩)]) →
      W.cell? ⟨x, 1, none⟩ = some (.func (.func 33) #[] #[.pointer (some ⟨a, 0, none⟩)]) →
      Calls Try.prog 30 #[.slice (some ⟨x, 0, none⟩) 2 2] W fun e w' => e = .returned (.int .i64 (writeV d s.data.toList).1) ∧ Hid (PD w' g m (writeV d s.data.toList).2.files.length (writeV d s.data.toList).2) ∧ Hid (Bx g m W w')) := by
    intro W x a b hx ha hb hx0 ha0 hb0 hw ca cb c0 c1
    have hJW : JR W j g gen cnt false := hj.below hw
    have hHW : Held W g m a b j gen T := ⟨ca, cb, hJW.cells.1, hJW.cells.2.1, ha, hb, hJW.lt, ⟨by omega, by omega⟩, ⟨by omega, by omega⟩, ⟨hjg, hjm⟩⟩
    have hq := steps_write W g m x a b (writeR d s.data.toList) hx (by omega) (by omega) c0 c1
      (fun V hV hX => by
        have := write1_any V g m k B a b j d ⟨hV, h.gr⟩ (by omega) gen T (hHW.bx hX) tsz
        rw [tl] at this
        exact this)
      (fun V hV hX => write2_any V g m (k + 1) _ a j _ ⟨hV, HG1.out⟩ (by omega) gen cnt false (hJW.bx hX hjg hjm) ((hHW.bx hX).ca)) (h.pd.below hw)
    rw [write_pick] at hq
    exact hq
  clear h hj hd tl HG1
  generalize writeV d s.data.toList = R at *
  obtain ⟨z, d1⟩ := R
  dsimp only at *
  have ew : wrap64 (cnt + 1) = cnt + 1 := by unfold wrap64; omega
  by_cases h0 : z = 0
  · subst h0
    rw [if_pos rfl]
    go_enter Try.func10, Try.ntmps10
    go_wp2_with (first
      | (go_at_call 28; (with_reducible refine (CW.out _ (below_al (Below.refl _ _) _)).mono ?_); rintro e w1 ⟨rfl, rfl⟩)
      | (go_at_call 29; (with_reducible refine (CP.out _).mono ?_); rintro e w2 ⟨rfl, hb2⟩; have HB2 := Lib.hid hb2; clear hb2)
      | (go_at_call 30; obtain ⟨ca, cb, cx, hbl, hlt, hsz⟩ := three_lies (tB := 9) (tC := 71) HB2.out (Below.refl _ _); (with_reducible refine (ST.out _ _ w.heap.size w2.heap.size ?_ ?_ ?_ ?_ ?_ ?_ hbl ca cb (cx 0) (cx 1)).mono ?_); (rw [hsz]; exact Nat.lt_succ_self _); (rw [hsz]; omega); (rw [hsz]; omega); omega; omega; omega; rintro e w3 ⟨rfl, HP3, HX3⟩; have ca3 := (bx_cell HX3.out (by rw [hsz]; omega) (by omega) (by omega)).trans ca; have HJ3 := Lib.hid ((HJ.out.below hbl).bx HX3.out hjg hjm); obtain ⟨y0, y1, y2, y3⟩ := HJ3.out.cells; have yf := World.rowIs.frozen HJ3.out.row 2; have HB3 := Lib.hid ((Bx.below hbl).trans HX3.out); have HJ4 := Lib.hid (HJ3.out.setCnt (cnt + 1)))
      | (go_at_call 35; (with_reducible refine (tells_any _ j g gen (cnt + 1) HJ4.out 0).mono ?_); rintro e w4 ⟨rfl, HJ5, HG5⟩))
    go_ret
    refine ⟨rfl, (HP3.out.grown (set_grw w3 j 2 _) ?_ ?_).grown HG5.out ?_ ?_, HJ5.out, ((Bj.of j HB3.out).trans (Bj.grown g m j (set_grw w3 j 2 _))).trans (Bj.grown g m j HG5.out)⟩
    all_goals (intro e; cases e; contradiction)
  · have e0 : (z == 0) = false := beq_eq_false_iff_ne.2 h0
    rw [if_neg h0]
    go_enter Try.func10, Try.ntmps10
    go_wp2_with (first
      | (go_at_call 28; (with_reducible refine (CW.out _ (below_al (Below.refl _ _) _)).mono ?_); rintro e w1 ⟨rfl, rfl⟩)
      | (go_at_call 29; (with_reducible refine (CP.out _).mono ?_); rintro e w2 ⟨rfl, hb2⟩; have HB2 := Lib.hid hb2; clear hb2)
      | (go_at_call 30; obtain ⟨ca, cb, cx, hbl, hlt, hsz⟩ := three_lies (tB := 9) (tC := 71) HB2.out (Below.refl _ _); (with_reducible refine (ST.out _ _ w.heap.size w2.heap.size ?_ ?_ ?_ ?_ ?_ ?_ hbl ca cb (cx 0) (cx 1)).mono ?_); (rw [hsz]; exact Nat.lt_succ_self _); (rw [hsz]; omega); (rw [hsz]; omega); omega; omega; omega; rintro e w3 ⟨rfl, HP3, HX3⟩; have ca3 := (bx_cell HX3.out (by rw [hsz]; omega) (by omega) (by omega)).trans ca; have HJ3 := Lib.hid ((HJ.out.below hbl).bx HX3.out hjg hjm); have HB3 := Lib.hid ((Bx.below hbl).trans HX3.out))
      | (go_at_call 35; (with_reducible refine (tells_any _ j g gen cnt HJ3.out z).mono ?_); rintro e w4 ⟨rfl, HJ5, HG5⟩))
    go_ret
    refine ⟨rfl, HP3.out.grown HG5.out ?_ ?_, HJ5.out, (Bj.of j HB3.out).trans (Bj.grown g m j HG5.out)⟩
    all_goals (intro e; cases e; contradiction)
theorem snap_dead (w : World) (j g m n : Nat) (d : DkIn) (gen cnt : Int) (dead : Bool) (hj : JR w j g gen cnt dead) (h : PD w g m n d) (hd : (dead || d.dead) = true) (s : ByteArray) : Calls Try.prog 12 #[.pointer (some ⟨j, 0, none⟩), .string s] w fun e w' => e = .returned (.int .i64 14) ∧ Below w.heap.size w w' := by
  have CW : Hid (∀ W, Below w.heap.size w W → Calls Try.prog 28 #[.pointer (some ⟨j, 0, none⟩)] W fun e w' => e = .returned (.int .i64 14) ∧ W = w') := fun W hb => by
    have := wakes_j W j g m n d gen cnt dead (hj.below hb) (h.below hb)
    rw [hd, if_pos rfl] at this
    exact this
  clear hj h hd
  go_enter Try.func12, Try.ntmps12
  go_wp2_with (go_at_call 28; (with_reducible refine (CW.out _ (below_al (below_al (Below.refl _ _) _) _)).mono ?_); rintro e w1 ⟨rfl, rfl⟩)
  go_ret
  exact ⟨rfl, below_al (below_al (Below.refl _ _) _) _⟩
theorem snap_none (w : World) (q : Option Addr) (CW : ∀ W, Below w.heap.size w W → Calls Try.prog 28 #[.pointer q] W fun e w' => e = .returned (.int .i64 1) ∧ W = w') (s : ByteArray) : Calls Try.prog 12 #[.pointer q, .string s] w fun e w' => e = .returned (.int .i64 1) ∧ Below w.heap.size w w' := by
  have CW := Lib.hid CW
  go_enter Try.func12, Try.ntmps12
  go_wp2_with (go_at_call 28; (with_reducible refine (CW.out _ (below_al (below_al (Below.refl _ _) _) _)).mono ?_); rintro e w1 ⟨rfl, rfl⟩)
  go_ret
  exact ⟨rfl, below_al (below_al (Below.refl _ _) _) _⟩
theorem three_lies2 (w : World) (oA oB : Value) (tA tB tC : TypeId) (cs : Array Value) :
    (((w.alloc (.cells #[oA] tA)).alloc (.cells #[oB] tB)).alloc (.cells cs tC)).cell? ⟨w.heap.size, 0, none⟩ = some oA ∧ (((w.alloc (.cells #[oA] tA)).alloc (.cells #[oB] tB)).alloc (.cells cs tC)).cell? ⟨w.heap.size + 1, 0, none⟩ = some oB ∧ (∀ j, (((w.alloc (.cells #[oA] tA)).alloc (.cells #[oB] tB)).alloc (.cells cs tC)).cell? ⟨w.heap.size + 1 + 1, j, none⟩ = cs[j]?) ∧
    Below w.heap.size w (((w.alloc (.cells #[oA] tA)).alloc (.cells #[oB] tB)).alloc (.cells cs tC)) ∧ (((w.alloc (.cells #[oA] tA)).alloc (.cells #[oB] tB)).alloc (.cells cs tC)).heap.size = w.heap.size + 3 := by
  have e1 : (w.alloc (.cells #[oA] tA)).heap.size = w.heap.size + 1 := by simp
  have h3 : Below (w.alloc (.cells #[oA] tA)).heap.size (w.alloc (.cells #[oA] tA)) (((w.alloc (.cells #[oA] tA)).alloc (.cells #[oB] tB)).alloc (.cells cs tC)) := below_al (below_al (Below.refl _ _) _) _
  have h4 : Below ((w.alloc (.cells #[oA] tA)).alloc (.cells #[oB] tB)).heap.size ((w.alloc (.cells #[oA] tA)).alloc (.cells #[oB] tB)) (((w.alloc (.cells #[oA] tA)).alloc (.cells #[oB] tB)).alloc (.cells cs tC)) := below_al (Below.refl _ _) _
  refine ⟨(h3.cell (p := ⟨w.heap.size, 0, none⟩) (by rw [e1]; exact Nat.lt_succ_self _)).trans (Own.cell_new _ _ _), ?_, fun j => ?_, below2 (below_al (Below.refl _ _) _) h3, by simp⟩
  · have hc := Own.cell_new (w.alloc (.cells #[oA] tA)) oB tB
    rw [e1] at hc
    exact (h4.cell (p := ⟨w.heap.size + 1, 0, none⟩) (by simp)).trans hc
  · have := heap_alloc2_new (w.alloc (.cells #[oA] tA)) (.cells #[oB] tB) (.cells cs tC)
    rw [e1] at this
    exact cell_of_row _ _ j _ _ _ this
set_option maxHeartbeats 4000000 in
theorem snap_j (w : World) (j g m k B : Nat) (d : DkIn) (h : PG w g m d k B) (hk : k < 800000) (gen : Nat) (hgen : gen ≤ 1000000) (cnt : Int) (hj : JR w j g gen cnt false) (hjg : j ≠ g) (hjm : j ≠ m) (hd : d.dead = false) (s : ByteArray) (hs : s.size ≤ 100000) : Calls Try.prog 12 #[.pointer (some ⟨j, 0, none⟩), .string s] w fun e w' => e = .returned (.int .i64 (snapV d gen s.data.toList).1) ∧ Hid (Acted w w' g m j (snapV d gen s.data.toList) (if (snapV d gen s.data.toList).1 = 0 then (gen : Int) + 1 else (gen : Int)) (if (snapV d gen s.data.toList).1 = 0 then 0 else cnt) (kills (snapV d gen s.data.toList).1)) := by
  have CW : Hid (∀ W, Below w.heap.size w W → Calls Try.prog 28 #[.pointer (some ⟨j, 0, none⟩)] W fun e w' => e = .returned (.int .i64 0) ∧ W = w') := fun W hb => by
    have := wakes_j W j g m _ d gen cnt false (hj.below hb) (h.pd.below hb)
    rw [hd] at this
    exact this
  obtain ⟨hgl, hml⟩ := h.pd.lt
  have hjl := hj.lt
  have HJ := Lib.hid hj
  have HGR := Lib.hid (gr_snapR h.gr (by omega) gen s.data.toList)
  have ST : Hid (∀ (W : World) (x a b : Nat), x < W.heap.size → a < W.heap.size → b < W.heap.size → w.heap.size ≤ x → w.heap.size ≤ a → w.heap.size ≤ b → Below w.heap.size w W →
      W.cell? ⟨a, 0, none⟩ = some (.pointer (some ⟨j, 0, none⟩)) → W.cell? ⟨b, 0, none⟩ = some (.string s) →
      W.cell? ⟨x, 0, none⟩ = some (.func (.func 36) #[] #[.pointer (some ⟨a, 0, none⟩), .pointer (some ⟨b, 0, none⟩)]) →
      W.cell? ⟨x, 1, none⟩ = some (.func (.func 39) #[] #[.pointer (some ⟨a, 0, none⟩)]) →
      W.cell? ⟨x, 2, none⟩ = some (.func (.func 40) #[] #[.pointer (some ⟨a, 0, none⟩)]) →
      W.cell? ⟨x, 3, none⟩ = some (.func (.func 42) #[] #[.pointer (some ⟨a, 0, none⟩)]) →
      Calls Try.prog 30 #[.slice (some ⟨x, 0, none⟩) 4 4] W fun e w' => e = .returned (.int .i64 (snapV d gen s.data.toList).1) ∧ Hid (PD w' g m (snapV d gen s.data.toList).2.files.length (snapV d gen s.data.toList).2) ∧ Hid (Bx g m W w')) := by
    intro W x a b hx ha hb hx0 ha0 hb0 hw ca cb c0 c1 c2 c3
    have hJW : JR W j g gen cnt false := hj.below hw
    have hHW : Held W g m a b j gen s := ⟨ca, cb, hJW.cells.1, hJW.cells.2.1, ha, hb, hJW.lt, ⟨by omega, by omega⟩, ⟨by omega, by omega⟩, ⟨hjg, hjm⟩⟩
    have hq := steps_snap W g m x a b (snapR d gen s.data.toList) hx (by omega) (by omega) c0 c1 c2 c3
      (fun V hV hX => snap1_any V g m k B a b j d ⟨hV, h.gr⟩ (by omega) gen (by omega) cnt false (hJW.bx hX hjg hjm) s (hHW.bx hX) (by omega))
      (fun V hV hX => snap2_any V g m _ _ a j _ ⟨hV, HGR.out 1 (by omega)⟩ (by omega) gen cnt false (hJW.bx hX hjg hjm) (hHW.bx hX).ca)
      (fun V hV hX => snap3_any V g m _ _ a j _ ⟨hV, HGR.out 2 (by omega)⟩ (by omega) gen cnt false (hJW.bx hX hjg hjm) (hHW.bx hX).ca)
      (fun V hV hX => snap4_any V g m _ _ a j _ ⟨hV, HGR.out 3 (by omega)⟩ (by omega) gen (by omega) s b (hHW.bx hX)) (h.pd.below hw)
    rw [snap_pick] at hq
    exact hq
  clear h hj hd HGR
  generalize snapV d gen s.data.toList = R at *
  obtain ⟨z, d1⟩ := R
  obtain ⟨G, hG⟩ : ∃ G : Int, Hid ((gen : Int) = G) := ⟨_, rfl⟩
  rw [hG.out] at HJ ⊢
  dsimp only at *
  have ew : wrap64 (G + 1) = G + 1 := by have := hG.out; unfold wrap64; omega
  have gm : (G == 1099511627776) = false := beq_eq_false_iff_ne.2 (by have := hG.out; omega)
  obtain ⟨y0, y1, y2, y3⟩ := HJ.out.cells
  by_cases h0 : z = 0
  · subst h0
    rw [if_pos rfl, if_pos rfl]
    go_enter Try.func12, Try.ntmps12
    go_wp2_with (first
      | (go_at_call 28; (with_reducible refine (CW.out _ (below_al (below_al (Below.refl _ _) _) _)).mono ?_); rintro e w1 ⟨rfl, rfl⟩)
      | (go_at_call 30; obtain ⟨ca, cb, cx, hbl, hsz⟩ := three_lies2 w (.pointer (some ⟨j, 0, none⟩)) (.string s) 30 9 71 _; (with_reducible refine (ST.out _ _ w.heap.size (w.heap.size + 1) ?_ ?_ ?_ ?_ ?_ ?_ hbl ca cb (cx 0) (cx 1) (cx 2) (cx 3)).mono ?_); (rw [hsz]; omega); (rw [hsz]; omega); (rw [hsz]; omega); omega; omega; omega; rintro e w3 ⟨rfl, HP3, HX3⟩; have ca3 := (bx_cell HX3.out (by rw [hsz]; omega) (by omega) (by omega)).trans ca; have HJ3 := Lib.hid ((HJ.out.below hbl).bx HX3.out hjg hjm); obtain ⟨u0, u1, u2, u3⟩ := HJ3.out.cells; have yf1 := World.rowIs.frozen HJ3.out.row 1; have yf2 := World.rowIs.frozen HJ3.out.row 2; have HB3 := Lib.hid ((Bx.below hbl).trans HX3.out); have HJ4 := Lib.hid ((HJ3.out.setGen (G + 1)).setCnt 0))
      | (go_at_call 35; (with_reducible refine (tells_any _ j g (G + 1) 0 HJ4.out 0).mono ?_); rintro e w4 ⟨rfl, HJ5, HG5⟩))
    go_ret
    refine ⟨rfl, ((HP3.out.grown (set_grw w3 j 1 _) ?_ ?_).grown (set_grw _ j 2 _) ?_ ?_).grown HG5.out ?_ ?_, HJ5.out, (((Bj.of j HB3.out).trans (Bj.grown g m j (set_grw w3 j 1 _))).trans (Bj.grown g m j (set_grw _ j 2 _))).trans (Bj.grown g m j HG5.out)⟩
    all_goals (intro e; cases e; contradiction)
  · have e0 : (z == 0) = false := beq_eq_false_iff_ne.2 h0
    rw [if_neg h0, if_neg h0]
    go_enter Try.func12, Try.ntmps12
    go_wp2_with (first
      | (go_at_call 28; (with_reducible refine (CW.out _ (below_al (below_al (Below.refl _ _) _) _)).mono ?_); rintro e w1 ⟨rfl, rfl⟩)
      | (go_at_call 30; obtain ⟨ca, cb, cx, hbl, hsz⟩ := three_lies2 w (.pointer (some ⟨j, 0, none⟩)) (.string s) 30 9 71 _; (with_reducible refine (ST.out _ _ w.heap.size (w.heap.size + 1) ?_ ?_ ?_ ?_ ?_ ?_ hbl ca cb (cx 0) (cx 1) (cx 2) (cx 3)).mono ?_); (rw [hsz]; omega); (rw [hsz]; omega); (rw [hsz]; omega); omega; omega; omega; rintro e w3 ⟨rfl, HP3, HX3⟩; have ca3 := (bx_cell HX3.out (by rw [hsz]; omega) (by omega) (by omega)).trans ca; have HJ3 := Lib.hid ((HJ.out.below hbl).bx HX3.out hjg hjm); have HB3 := Lib.hid ((Bx.below hbl).trans HX3.out))
      | (go_at_call 35; (with_reducible refine (tells_any _ j g G cnt HJ3.out z).mono ?_); rintro e w4 ⟨rfl, HJ5, HG5⟩))
    go_ret
    refine ⟨rfl, HP3.out.grown HG5.out ?_ ?_, HJ5.out, (Bj.of j HB3.out).trans (Bj.grown g m j HG5.out)⟩
    all_goals (intro e; cases e; contradiction)
end Jrn
end Go.Proofs.Yteaikleofboknaa
end
