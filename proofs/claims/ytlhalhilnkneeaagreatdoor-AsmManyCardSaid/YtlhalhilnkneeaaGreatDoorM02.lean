/- Texts put together: RdP, StkP, In, CmdP. -/
import Derived.Test.YtlhalhilnkneeaaGreatDoorM01
import Derived.Laws.OwnMore
import Derived.Test.YtlhalhilnkneeaaGreatDoorM00
import Derived.WalkKit
import Derived.ProofKit
import Derived.Below
import Derived.WalkLawsBesides
import Derived.Lib.Hide
import Derived.Test.YtlhalhilnkneeaaGreatDoorChecked
import Derived.SliceStrings
import Derived.WalkSmall
import Derived.Lib.Fields
import Derived.Lib.SlicesS
set_option linter.all false
section
namespace Go.Proofs.YtlhalhilnkneeaaGreatDoor
open Go.RowKit
namespace Cat
open Pen (bs bs_append uintB uintS intS intB doneS below2 below_al below_dN zag zig)
abbrev Left := Option (List UInt8)
/-- All blocks ahead of the n-th, but some, are as they were. -/
structure Bx (n : Nat) (E : Nat → Prop) (a b : World) : Prop where
  os : b.os = a.os
  tape : b.tape = a.tape
  output : b.output = a.output
  size : a.heap.size ≤ b.heap.size
  block : ∀ k, k < n → ¬ E k → b.heap[k]? = a.heap[k]?
section
variable {n : Nat} {E : Nat → Prop} {a b c : World}
theorem Bx.refl (n : Nat) (E : Nat → Prop) (a : World) : Bx n E a a := ⟨rfl, rfl, rfl, Nat.le_refl _, fun _ _ _ => rfl⟩
theorem Bx.mono {m : Nat} {F : Nat → Prop} (h : Bx n E a b) (hm : m ≤ n) (hE : ∀ k, k < m → E k → F k) : Bx m F a b := ⟨h.os, h.tape, h.output, h.size, fun k hk hg => h.block k (Nat.lt_of_lt_of_le hk hm) fun e => hg (hE k hk e)⟩
theorem Bx.trans (h : Bx n E a b) (h2 : Bx n E b c) : Bx n E a c :=
  ⟨h2.os.trans h.os, h2.tape.trans h.tape, h2.output.trans h.output, Nat.le_trans h.size h2.size, fun k hk hg => (h2.block k hk hg).trans (h.block k hk hg)⟩
theorem Bx.grown {o : Option Nat} (h : Bx n E a b) (h2 : b.grownBy c o) (hn : n ≤ b.heap.size) (ho : ∀ k, o = some k → n ≤ k ∨ E k) : Bx n E a c :=
  ⟨h2.os.trans h.os, h2.tape.trans h.tape, h2.output.trans h.output, Nat.le_trans h.size h2.size, fun k hk hg => (h2.block k (Nat.lt_of_lt_of_le hk hn) (fun e => by
    rcases ho k e.symm with h3 | h3
    · omega
    · exact hg h3)).trans (h.block k hk hg)⟩
theorem Bx.alloc (h : Bx n E a b) (hn : n ≤ b.heap.size) (o : Obj) : Bx n E a (b.alloc o) := h.grown (World.grownBy_alloc b o none) hn fun k hk => by cases hk
theorem Bx.below (h : Bx n E a b) (hn : n ≤ b.heap.size) (h2 : Below b.heap.size b c) : Bx n E a c :=
  ⟨h2.os.trans h.os, h2.tape.trans h.tape, h2.output.trans h.output, Nat.le_trans h.size h2.size, fun k hk hg => (h2.block k (Nat.lt_of_lt_of_le hk hn)).trans (h.block k hk hg)⟩
theorem Bx.set (h : Bx n E a b) (x : Addr) (u : Value) (hx : n ≤ x.block ∨ E x.block) : Bx n E a (b.setCell x u) :=
  ⟨h.os, h.tape, h.output, by simpa using h.size, fun k hk hg => (Below.heap_setCell _ _ _ _ (fun e => by
    rcases hx with h3 | h3
    · omega
    · exact hg (e ▸ h3))).trans (h.block k hk hg)⟩
theorem Bx.dN (h : Bx n E a b) (q : Nat) : Bx n E a (b.drewN q) := ⟨h.os, h.tape, h.output, h.size, h.block⟩
theorem Bx.drew (h : Bx n E a b) : Bx n E a b.drew := ⟨h.os, h.tape, h.output, h.size, h.block⟩
theorem Bx.keep (h : Bx n E a b) {k i : Nat} (hk : k < n) (hg : ¬ E k) {v : Value} (hc : a.cell? ⟨k, i, none⟩ = some v) : b.cell? ⟨k, i, none⟩ = some v := by
  unfold World.cell? at hc ⊢
  rw [h.block k hk hg]
  exact hc
theorem Bx.toGrown {g : Nat} (h : Bx a.heap.size (· = g) a b) : a.grownBy b (some g) := ⟨h.os, h.tape, h.output, h.size, fun k hk hne => h.block k hk fun e => hne (by rw [e])⟩
theorem Bx.toBelow (h : Bx a.heap.size E a b) (hg : ∀ k, E k → a.heap.size ≤ k) : Below a.heap.size a b :=
  ⟨h.os, h.tape, h.output, h.size, fun k hk => h.block k hk fun e => by have := hg k e; omega⟩
end
/-- A reader of either side at a block. -/
def Rd (T : TypeId) (Q : (Nat → Value) → Left → Prop) (w : World) (g : Nat) (o : Left) : Prop := ∃ f, w.rowIs g T 3 f ∧ Q f o
section
variable {T : TypeId} {Q : (Nat → Value) → Left → Prop} {w w' : World} {g : Nat} {o : Left}
theorem Rd.of_block (h : Rd T Q w g o) (e : w'.heap[g]? = w.heap[g]?) : Rd T Q w' g o := by
  obtain ⟨f, h1, h2⟩ := h
  exact ⟨f, h1.of_block e, h2⟩
theorem Rd.lt (h : Rd T Q w g o) : g < w.heap.size := by
  obtain ⟨f, h1, h2⟩ := h
  exact h1.lt
theorem Rd.grown (h : Rd T Q w g o) {r : Option Nat} (hg : w.grownBy w' r) (hr : r ≠ some g) : Rd T Q w' g o := h.of_block (hg.block g h.lt fun e => hr e.symm)
theorem Rd.below (h : Rd T Q w g o) (hb : Below w.heap.size w w') : Rd T Q w' g o := h.of_block (hb.block g h.lt)
theorem Rd.alloc (h : Rd T Q w g o) (x : Obj) : Rd T Q (w.alloc x) g o := h.of_block (heap_alloc_old w x h.lt)
theorem Rd.set (h : Rd T Q w g o) {a : Addr} (ha : a.block ≠ g) (u : Value) : Rd T Q (w.setCell a u) g o := h.of_block (Below.heap_setCell _ _ _ _ (fun e => ha e.symm))
theorem Rd.drew (h : Rd T Q w g o) : Rd T Q w.drew g o := h
theorem Rd.dN (h : Rd T Q w g o) (q : Nat) : Rd T Q (w.drewN q) g o := h
end
/-- What a call of a reader leaves behind. -/
def Rs (T : TypeId) (Q : (Nat → Value) → Left → Prop) (w : World) (g : Nat) (r : Int × Left) (e : Ending) (w' : World) : Prop := e = .returned (.int .i64 r.1) ∧ Hid (Rd T Q w' g r.2) ∧ Hid (w.grownBy w' (some g))
def QP (f : Nat → Value) (o : Left) : Prop := ∃ rest bad, f = Pen.rc rest bad ∧ Pen.st rest bad = o ∧ rest.size ≤ 1000000000
def QR (f : Nat → Value) (o : Left) : Prop := ∃ S p bad, f = Pen.rrc S p bad ∧ Pen.st2 S p bad = o ∧ p ≤ S.size ∧ S.size ≤ 1000000000
theorem pUint_any (g : Nat) (o : Left) (most : Int) (w : World) (h : Rd 140 QP w g o) :
    Calls Tryz.prog 79 #[.pointer (some ⟨g, 0, none⟩), .int .i64 most] w (Rs 140 QP w g (uintS most o)) := by
  obtain ⟨f, h1, rest, bad, rfl, rfl, hs⟩ := h
  refine (Pen.rUint_any g rest bad most hs w h1).mono ?_
  rintro e w' ⟨rest', bad', rfl, H1, H2, H3⟩
  exact ⟨rfl, ⟨_, H2.out, rest', bad', rfl, H1.out.1, Nat.le_trans H1.out.2 hs⟩, H3⟩
theorem pBad_any (g : Nat) (o : Left) (w : World) (h : Rd 140 QP w g o) :
    Calls Tryz.prog 118 #[.pointer (some ⟨g, 0, none⟩)] w fun e w' => e = .returned (.bool o.isNone) ∧ w = w' := by
  obtain ⟨f, h1, rest, bad, rfl, rfl, hs⟩ := h
  have := Pen.bad_any g rest bad w h1
  cases bad <;> exact this
theorem pDone_any (g : Nat) (o : Left) (w : World) (h : Rd 140 QP w g o) :
    Calls Tryz.prog 81 #[.pointer (some ⟨g, 0, none⟩)] w fun e w' => e = .returned (.bool (doneS o)) ∧ w = w' := by
  obtain ⟨f, h1, rest, bad, rfl, rfl, hs⟩ := h
  exact Pen.done_any g rest bad w h1
theorem pNew_any (s : ByteArray) (hs : s.size ≤ 1000000000) (w : World) :
    Calls Tryz.prog 78 #[.string s] w fun e w' => e = .returned (.pointer (some ⟨w.heap.size, 0, none⟩)) ∧ Hid (Rd 140 QP w' w.heap.size (some s.data.toList)) ∧ Hid (Below w.heap.size w w') := by
  refine (Pen.new_any s w).mono ?_
  rintro e w' ⟨rfl, h1, h2⟩
  exact ⟨rfl, ⟨_, h1, s, false, rfl, rfl, hs⟩, h2⟩
theorem rrU_any (g : Nat) (o : Left) (most : Int) (w : World) (h : Rd 121 QR w g o) :
    Calls Tryz.prog 91 #[.pointer (some ⟨g, 0, none⟩), .int .i64 most] w (Rs 121 QR w g (uintS most o)) := by
  obtain ⟨f, h1, S, p, bad, rfl, rfl, hp, hs⟩ := h
  refine (Pen.rrUint_any g S p bad most hp hs w h1).mono ?_
  rintro e w' ⟨p', bad', rfl, H1, H2, H3⟩
  exact ⟨rfl, ⟨_, H2.out, S, p', bad', rfl, H1.out.1, H1.out.2, hs⟩, H3⟩
theorem rrD_any (g : Nat) (o : Left) (w : World) (h : Rd 121 QR w g o) :
    Calls Tryz.prog 94 #[.pointer (some ⟨g, 0, none⟩)] w fun e w' => e = .returned (.bool (doneS o)) ∧ Below w.heap.size w w' := by
  obtain ⟨f, h1, S, p, bad, rfl, rfl, hp, hs⟩ := h
  exact Pen.rrDone_any g S p bad hp w h1
theorem rrNew (s : ByteArray) (hs : s.size ≤ 1000000000) (w : World) : Rd 121 QR (w.alloc (.cells #[.string s, .int .i64 0, .bool false] 121)) w.heap.size (some s.data.toList) :=
  ⟨Pen.rrc s 0 false, ⟨_, heap_alloc_new w _, rfl, fun i hi => by
    match i, hi with
    | 0, _ => rfl
    | 1, _ => rfl
    | 2, _ => rfl⟩, s, 0, false, rfl, rfl, Nat.zero_le _, hs⟩
theorem rrBad {w : World} {g : Nat} {o : Left} (h : Rd 121 QR w g o) : w.cell? ⟨g, 2, none⟩ = some (.bool o.isNone) := by
  obtain ⟨f, h1, S, p, bad, rfl, rfl, hp, hs⟩ := h
  have := h1.cell (i := 2) (by decide)
  rw [this]
  cases bad <;> rfl
theorem and_one (m : Nat) : bits .and .u64 (m : Int) 1 = ((m % 2 : Nat) : Int) := by
  show IntKind.u64.wrap (((BitVec.ofInt 64 (m : Int)) &&& (BitVec.ofInt 64 1)).toNat : Int) = _
  have ha : BitVec.ofInt 64 (m : Int) = BitVec.ofNat 64 m := BitVec.ofInt_natCast 64 m
  rw [ha, BitVec.toNat_and, BitVec.toNat_ofNat, show (BitVec.ofInt 64 1).toNat = 1 from rfl, Nat.and_one_is_mod, IntKind.wrap_u64]
  omega
theorem xor_mask (a : Nat) (h : a < 9223372036854775808) : bits .xor .i64 (a : Int) (-1) = -(a : Int) - 1 := by
  show IntKind.i64.wrap (((BitVec.ofInt 64 (a : Int)) ^^^ (BitVec.ofInt 64 (-1))).toNat : Int) = _
  have ha : BitVec.ofInt 64 (a : Int) = BitVec.ofNat 64 a := BitVec.ofInt_natCast 64 a
  have hb : (BitVec.ofInt 64 (-1)).toNat = 18446744073709551615 := by decide
  have e1 : (BitVec.ofNat 64 a).toNat = a := by rw [BitVec.toNat_ofNat]; exact Nat.mod_eq_of_lt (by omega)
  rw [ha, BitVec.toNat_xor, e1, hb, Pen.xor_ones _ (by omega), IntKind.wrap_i64]
  omega
theorem xor_none (a : Nat) (h : a < 9223372036854775808) : bits .xor .i64 (a : Int) 0 = (a : Int) := by
  show IntKind.i64.wrap (((BitVec.ofInt 64 (a : Int)) ^^^ (BitVec.ofInt 64 0)).toNat : Int) = _
  have ha : BitVec.ofInt 64 (a : Int) = BitVec.ofNat 64 a := BitVec.ofInt_natCast 64 a
  have hb : (BitVec.ofInt 64 0).toNat = 0 := by decide
  have e1 : (BitVec.ofNat 64 a).toNat = a := by rw [BitVec.toNat_ofNat]; exact Nat.mod_eq_of_lt (by omega)
  rw [ha, BitVec.toNat_xor, e1, hb, Nat.xor_zero, IntKind.wrap_i64]
  omega
theorem zag_bits {m : Nat} (h : m < 18446744073709551616) : bits .xor .i64 (wrap64 ((m : Int) / 2)) (wrap64 (-wrap64 (bits .and .u64 (m : Int) 1))) = zag m := by
  rw [and_one m]
  have e1 : wrap64 ((m : Int) / 2) = ((m / 2 : Nat) : Int) := by unfold wrap64; omega
  rw [e1]
  unfold zag
  rcases Nat.mod_two_eq_zero_or_one m with hm | hm
  · rw [if_pos hm, hm, show wrap64 (-wrap64 ((0 : Nat) : Int)) = 0 from by unfold wrap64; omega, xor_none _ (by omega)]
  · rw [if_neg (by omega), hm, show wrap64 (-wrap64 ((1 : Nat) : Int)) = -1 from by unfold wrap64; omega, xor_mask _ (by omega)]
/-- What the program makes of a word. -/
def zi (V : Int) : Int := bits .xor .i64 (wrap64 (V / 2)) (wrap64 (-wrap64 (bits .and .u64 V 1)))
theorem zi_zero : zi 0 = 0 := (zag_bits (m := 0) (by decide)).trans (by decide)
theorem zi_word (o : List UInt8) : zi (Pen.wordS o).1 = (intS (some o)).1 ∧ (intS (some o)).2 = Pen.st (bs (Pen.wordS o).2.2.1) (Pen.wordS o).2.2.2 ∧ (bs (Pen.wordS o).2.2.1).size ≤ o.length := by
  unfold Pen.wordS intS
  cases hr : Pen.rd o with
  | none => simp only [hr]; exact ⟨zi_zero, rfl, by rw [Pen.bs_size]; exact Nat.le_refl _⟩
  | some r =>
    obtain ⟨m, l'⟩ := r
    simp only [hr]
    have hm := Pen.rd_small hr
    exact ⟨zag_bits (by omega), rfl, by rw [Pen.bs_size]; have := hm.2; show l'.length ≤ _; simp only at this; omega⟩
set_option maxRecDepth 100000 in
theorem pInt_any (g : Nat) (o : Left) (w : World) (h : Rd 140 QP w g o) :
    Calls Tryz.prog 80 #[.pointer (some ⟨g, 0, none⟩)] w (Rs 140 QP w g (intS o)) := by
  obtain ⟨f, h1, rest, bad, rfl, rfl, hs⟩ := h
  cases bad with
  | true =>
    have HK := Lib.hid h1
    have CW := Lib.hid (Pen.word_bad g rest w h1)
    have HZ : Hid (zi 0 = 0) := zi_zero
    obtain ⟨V, hV⟩ : ∃ V : Int, Hid ((0 : Int) = V) := ⟨_, rfl⟩
    have HS : Hid (intS (Pen.st rest true) = (0, none)) := rfl
    rw [HS.out]
    have CW2 : Hid (Calls Tryz.prog 116 #[.pointer (some ⟨g, 0, none⟩)] w fun e w' => e = .returned (.tuple #[.int .u64 V, .bool false]) ∧ w = w') := by rw [← hV.out]; exact CW
    clear h1
    go_enter Tryz.func80, Tryz.ntmps80
    go_wp2_with (go_at_call 116; (with_reducible refine CW2.out.mono ?_); rintro e w1 ⟨rfl, rfl⟩)
    go_ret
    refine ⟨?_, ⟨_, HK.out, rest, true, rfl, rfl, hs⟩, ⟨rfl, rfl, rfl, Nat.le_refl _, fun _ _ _ => rfl⟩⟩
    show Ending.returned (.int .i64 (zi V)) = _
    rw [← hV.out, HZ.out]
  | false =>
    have CW := Lib.hid (Pen.word_good g rest hs w h1)
    have HZ := Lib.hid (zi_word rest.data.toList)
    have HS : Hid (Pen.st rest false = some rest.data.toList) := rfl
    rw [HS.out]
    generalize Pen.wordS rest.data.toList = R at CW HZ
    obtain ⟨V, k, l', bd⟩ := R
    clear h1
    go_enter Tryz.func80, Tryz.ntmps80
    go_wp2_with (go_at_call 116; (with_reducible refine CW.out.mono ?_); rintro e w1 ⟨rfl, H1, G1⟩)
    go_ret
    obtain ⟨z1, z2, z3⟩ := HZ.out
    refine ⟨?_, ⟨_, H1.out, bs l', bd, rfl, z2.symm, ?_⟩, G1⟩
    · show Ending.returned (.int .i64 (zi V)) = _
      rw [← z1]
    · have : rest.data.toList.length = rest.size := by simp
      omega
theorem rdO_zag (o : Left) : (intS o).2 = (Pen.rdO o).2 ∧ 0 ≤ (Pen.rdO o).1 ∧ (Pen.rdO o).1 < 18446744073709551616 ∧ (intS o).1 = if (Pen.rdO o).1.tmod 2 = 0 then (Pen.rdO o).1 / 2 else -((Pen.rdO o).1 / 2) - 1 := by
  cases o with
  | none => exact ⟨rfl, by decide, by decide, by decide⟩
  | some l =>
    unfold Pen.rdO intS
    simp only
    cases hr : Pen.rd l with
    | none => exact ⟨rfl, by decide, by decide, by decide⟩
    | some r =>
      obtain ⟨m, l'⟩ := r
      simp only
      have hm := (Pen.rd_small hr).1
      refine ⟨trivial, by omega, by omega, ?_⟩
      unfold zag
      rw [Int.tmod_eq_emod_of_nonneg (by omega)]
      by_cases h2 : m % 2 = 0
      · rw [if_pos h2, if_pos (by omega)]; omega
      · rw [if_neg h2, if_neg (by omega)]; omega
set_option maxRecDepth 100000 in
theorem rrI_any (g : Nat) (o : Left) (w : World) (h : Rd 121 QR w g o) :
    Calls Tryz.prog 92 #[.pointer (some ⟨g, 0, none⟩)] w (Rs 121 QR w g (intS o)) := by
  obtain ⟨f, h1, S, p, bad, rfl, rfl, hp, hs⟩ := h
  have CW := Lib.hid (Pen.rword_any g S p bad hp hs w h1)
  clear h1
  have HZ := Lib.hid (rdO_zag (Pen.st2 S p bad))
  generalize Pen.rdO (Pen.st2 S p bad) = R at CW HZ
  obtain ⟨V, o'⟩ := R
  obtain ⟨z1, z2, z3, z4⟩ := HZ.out
  simp only at z1 z2 z3 z4
  have e0 : V.tdiv 2 = V / 2 := Int.tdiv_eq_ediv_of_nonneg z2
  have e1 : IntKind.u64.wrap (V / 2) = V / 2 := by rw [IntKind.wrap_u64]; omega
  have e2 : wrap64 (V / 2) = V / 2 := by unfold wrap64; omega
  have e3 : wrap64 (-(V / 2)) = -(V / 2) := by unfold wrap64; omega
  have e4 : wrap64 (-(V / 2) - 1) = -(V / 2) - 1 := by unfold wrap64; omega
  clear HZ z2 z3
  by_cases h2 : V.tmod 2 = 0
  · rw [if_pos h2] at z4
    have z4 := Lib.hid z4
    have z1 := Lib.hid z1
    go_enter Tryz.func92, Tryz.ntmps92
    go_wp2_with (go_at_call 125; (with_reducible refine CW.out.mono ?_); rintro e w1 ⟨p', bad', rfl, hst, H1, G1⟩)
    go_ret
    exact ⟨by rw [z4.out]; show Ending.returned (.int .i64 (wrap64 (V / 2))) = _; rw [e2], ⟨_, H1.out, S, p', bad', rfl, hst.out.1.trans z1.out.symm, hst.out.2, hs⟩, G1⟩
  · rw [if_neg h2] at z4
    have z4 := Lib.hid z4
    have z1 := Lib.hid z1
    have h3 : (V.tmod 2 == 0) = false := beq_eq_false_iff_ne.2 h2
    go_enter Tryz.func92, Tryz.ntmps92
    go_wp2_with (go_at_call 125; (with_reducible refine CW.out.mono ?_); rintro e w1 ⟨p', bad', rfl, hst, H1, G1⟩)
    go_ret
    exact ⟨by rw [z4.out]; show Ending.returned (.int .i64 (wrap64 (-(V / 2) - 1))) = _; rw [e4], ⟨_, H1.out, S, p', bad', rfl, hst.out.1.trans z1.out.symm, hst.out.2, hs⟩, G1⟩
end Cat
end Go.Proofs.YtlhalhilnkneeaaGreatDoor
end
section
namespace Go.Proofs.YtlhalhilnkneeaaGreatDoor
open Go.RowKit
namespace Rec
theorem below2 {w a b : World} (h : Below w.heap.size w a) (h2 : Below a.heap.size a b) : Below w.heap.size w b := h.trans (h2.mono h.size)
theorem below_al {w x : World} (h : Below w.heap.size w x) (o : Obj) : Below w.heap.size w (x.alloc o) := h.alloc h.size o
theorem below_dN {B : Nat} {a w : World} (h : Below B a w) (n : Nat) : Below B a (w.drewN n) := ⟨h.os, h.tape, h.output, h.size, h.block⟩
abbrev Stk := Int × Int
/-- The stacks that stand from an address on. -/
def Stks (w : World) (a : Option Addr) (l : List Stk) : Prop :=
  ∀ i, i < l.length → ∃ b off, a = some ⟨b, off, none⟩ ∧ b < w.heap.size ∧ w.cell? ⟨b, off + i * 2, none⟩ = some (.int .i64 (l.getD i (0, 0)).1) ∧ w.cell? ⟨b, off + i * 2 + 1, none⟩ = some (.int .i64 (l.getD i (0, 0)).2)
theorem Stks.below {w w' : World} {a : Option Addr} {l : List Stk} (h : Stks w a l) (hb : Below w.heap.size w w') : Stks w' a l := fun i hi => by
  obtain ⟨b, off, ha, hlt, hc, hd⟩ := h i hi
  exact ⟨b, off, ha, Nat.lt_of_lt_of_le hlt hb.size, (hb.cell (p := ⟨b, off + i * 2, none⟩) hlt).trans hc, (hb.cell (p := ⟨b, off + i * 2 + 1, none⟩) hlt).trans hd⟩
/-- Stacks as cells. -/
def stkVals (l : List Stk) : List Value := l.flatMap fun s => [Value.int .i64 s.1, Value.int .i64 s.2]
theorem stkVals_append (a b : List Stk) : stkVals (a ++ b) = stkVals a ++ stkVals b := by simp [stkVals]
theorem stkVals_length (l : List Stk) : (stkVals l).length = l.length * 2 := by
  induction l with
  | nil => rfl
  | cons a l ih => simp only [stkVals, List.flatMap_cons, List.length_append, List.length_cons, List.length_nil] at ih ⊢; omega
theorem stkVals_get (l : List Stk) (i : Nat) (h : i < l.length) : (stkVals l)[i * 2]? = some (.int .i64 (l.getD i (0, 0)).1) ∧ (stkVals l)[i * 2 + 1]? = some (.int .i64 (l.getD i (0, 0)).2) := by
  induction l generalizing i with
  | nil => simp at h
  | cons a l ih =>
    cases i with
    | zero => exact ⟨rfl, rfl⟩
    | succ i =>
      have := ih i (by simpa using h)
      have e1 : (i + 1) * 2 = i * 2 + 1 + 1 := by omega
      rw [e1]
      exact this
/-- One pair behind a row of one's own. -/
theorem list_pair {P : Program} {ops : Array Oper} {rest : List Oper} {o : Oper} {a : Act} {w : World} {Q : Exit → Act → World → Prop} (hgd : o.guard = none) (s x : Operand) (t : TypeId)
    (ho : o.op = .call { callee := .builtin .append, args := #[s, x], argTypes := #[t, t] })
    (base : Nat) (e : TypeId) (i : TypeInfo) (z : Value) (bytes : Nat) (ht : P.underlying t = some (.slice e)) (hi : P.info? e = some i) (hz : i.zero = some z)
    (hsize : i.size = 2) (hby : i.bytes = bytes) (hzs : z.cells.size = 2)
    (v : Value) (n : Nat) (xs : List Value) (hs : a.eval s = v) (ad : Addr) (c : Nat) (u0 u1 : Value) (hx : a.eval x = .slice (some ad) 1 c) (hown : w.ownsRow base e 2 v n xs)
    (hu0 : w.cell? (ad.add 0) = some u0) (hu1 : w.cell? (ad.add 1) = some u1) (h0 : u0.oneCell' = true) (h1 : u1.oneCell' = true) (h63 : n + 1 ≤ maxLen) (hbytes : (n + 1) * bytes ≤ 140737488355328) (hbase : base ≤ w.heap.size)
    (h : ∀ v' w', w'.ownsRow base e 2 v' (n + 1) (xs ++ [u0, u1]) → w.grownBy w' v.ownBlock → wpList P ops Q rest (a.put o.dst v') w') : wpList P ops Q (o :: rest) a w :=
  wpList_append_own w hgd s x t ho base e i z 2 bytes ht hi hz hsize hby hzs (by decide) v n xs hs hown ad 1 c [u0, u1] hx rfl
    (fun j u hj => by
      match j, hj with
      | 0, hj => simp at hj; subst hj; exact hu0
      | 1, hj => simp at hj; subst hj; exact hu1
      | j + 2, hj => simp at hj) (fun u hw => by simp at hw; rcases hw with rfl | rfl <;> assumption) h63 hbytes hbase
    (fun v' w' hown' hgrow _ => h v' w' hown' hgrow)
theorem stks_of_own {w : World} {base : Nat} {T : TypeId} {v : Value} {l : List Stk} (h : w.ownsRow base T 2 v l.length (stkVals l)) : ∃ a cap, v = .slice a l.length cap ∧ Stks w a l := by
  rcases h.2 with ⟨rfl, h0⟩ | ⟨g, cap, cur, rfl, _, hg, _⟩
  · exact ⟨none, 0, by rw [h0], fun i hi => by omega⟩
  · refine ⟨some ⟨g, 0, none⟩, cap, rfl, fun i hi => ⟨g, 0, rfl, ?_, ?_, ?_⟩⟩
    · exact (Array.getElem?_eq_some_iff.1 hg).1
    · have := h.cells rfl (i * 2) _ (stkVals_get l i hi).1
      have hadd : (⟨g, 0, none⟩ : Addr).add (i * 2) = ⟨g, 0 + i * 2, none⟩ := by unfold Addr.add; split <;> simp_all
      rwa [hadd] at this
    · have := h.cells rfl (i * 2 + 1) _ (stkVals_get l i hi).2
      have hadd : (⟨g, 0, none⟩ : Addr).add (i * 2 + 1) = ⟨g, 0 + i * 2 + 1, none⟩ := by unfold Addr.add; split <;> simp_all <;> omega
      rwa [hadd] at this
theorem pair_new (w : World) (u0 u1 : Value) (t : TypeId) : (w.alloc (.cells #[u0, u1] t)).cell? ((⟨w.heap.size, 0, none⟩ : Addr).add 0) = some u0 ∧ (w.alloc (.cells #[u0, u1] t)).cell? ((⟨w.heap.size, 0, none⟩ : Addr).add 1) = some u1 := by
  constructor <;> simp [Addr.add, go_sem]
theorem ext_stk (l m : List Stk) (h : l.length = m.length) (hg : ∀ j, j < l.length → l.getD j (0, 0) = m.getD j (0, 0)) : l = m := by
  apply List.ext_getElem h
  intro j h1 h2
  have := hg j h1
  rwa [List.getD_eq_getElem?_getD, List.getD_eq_getElem?_getD, List.getElem?_eq_getElem h1, List.getElem?_eq_getElem h2] at this
set_option maxHeartbeats 1000000 in
theorem same_any (a b : Option Addr) (c1 c2 : Nat) (l m : List Stk) (hl : l.length ≤ 4096) (hm : m.length ≤ 4096) (w : World) (ha : Stks w a l) (hb : Stks w b m) :
    Calls Tryz.prog 62 #[.slice a l.length c1, .slice b m.length c2] w fun e w' => e = .returned (.bool (decide (l = m))) ∧ Below w.heap.size w w' := by
  have HA := Lib.hid ha
  have HB := Lib.hid hb
  clear ha hb
  by_cases hlen : l.length = m.length
  · rw [← hlen]
    have HLEN := Lib.hid hlen
    clear hlen
    go_enter Tryz.func62, Tryz.ntmps62
    go_wp2
    go_loopw [5] (fun i wr => ∃ k : Nat, k ≤ l.length ∧ i = .int .i64 k ∧ Hid (∀ j, j < k → l.getD j (0, 0) = m.getD j (0, 0)) ∧ Below w.heap.size w wr) (fun i _ => l.length - (intOf i).toNat)
    case atStart => exact ⟨0, by omega, rfl, fun j hj => by omega, Below.refl _ _⟩
    case round =>
      obtain ⟨k, hk, rfl, HE, hb⟩ := hrel
      by_cases hlt : k < l.length
      · obtain ⟨b1, o1, rfl, hbl1, hc1, hd1⟩ := (Stks.below HA.out hb) k hlt
        obtain ⟨b2, o2, rfl, hbl2, hc2, hd2⟩ := (Stks.below HB.out hb) k (by rw [← HLEN.out]; exact hlt)
        have hlt1 : (k : Int) < (l.length : Int) := by omega
        have e1 : decide ((k : Int) < (l.length : Int)) = true := decide_eq_true hlt1
        have hy : Hid ((l.getD k (0, 0)).1 = (m.getD k (0, 0)).1 ∧ (l.getD k (0, 0)).2 = (m.getD k (0, 0)).2 → ∀ j, j < k + 1 → l.getD j (0, 0) = m.getD j (0, 0)) := fun h j hj => by
          by_cases e : j = k
          · subst e; exact Prod.ext h.1 h.2
          · exact HE.out j (by omega)
        have hn : Hid (¬ ((l.getD k (0, 0)).1 = (m.getD k (0, 0)).1 ∧ (l.getD k (0, 0)).2 = (m.getD k (0, 0)).2) → decide (l = m) = false) := fun h => decide_eq_false fun e => h (by subst e; exact ⟨rfl, rfl⟩)
        generalize (l.getD k (0, 0)).1 = T1 at *
        generalize (l.getD k (0, 0)).2 = Q1 at *
        generalize (m.getD k (0, 0)).1 = T2 at *
        generalize (m.getD k (0, 0)).2 = Q2 at *
        by_cases g1 : T1 = T2
        · subst g1
          by_cases g2 : Q1 = Q2
          · subst g2
            have HY := Lib.hid (hy.out ⟨rfl, rfl⟩)
            go_wp2
            go_quiet (fail)
            go_wp2
            go_roundw
            case rel => exact ⟨k + 1, by omega, by go_num, HY, below_dN hb _⟩
            case measure => simp [intOf]; omega
          · have d2 : (Q1 == Q2) = false := beq_eq_false_iff_ne.2 g2
            have HN := Lib.hid (hn.out fun h => g2 h.2)
            go_wp2
            go_quiet (fail)
            go_wp2
            go_ret
            exact ⟨by rw [HN.out]; rfl, below_dN hb _⟩
        · have d1 : (T1 == T2) = false := beq_eq_false_iff_ne.2 g1
          have HN := Lib.hid (hn.out fun h => g1 h.1)
          go_wp2
          go_quiet (fail)
          go_wp2
          go_ret
          exact ⟨by rw [HN.out]; rfl, below_dN hb _⟩
      · have hke : k = l.length := by omega
        rw [hke] at HE
        have HN : Hid (decide (l = m) = true) := decide_eq_true (ext_stk l m HLEN.out HE.out)
        have n1 : ¬ (k : Int) < (l.length : Int) := by omega
        have e1 : decide ((k : Int) < (l.length : Int)) = false := decide_eq_false n1
        clear hke
        go_wp2
        go_ret
        exact ⟨by rw [HN.out]; rfl, hb⟩
  · have dl : ((l.length : Int) == (m.length : Int)) = false := beq_eq_false_iff_ne.2 (by omega)
    have hlen' : ¬ (l.length : Int) = (m.length : Int) := by omega
    have HN : Hid (decide (l = m) = false) := decide_eq_false fun e => hlen (by rw [e])
    go_enter Tryz.func62, Tryz.ntmps62
    go_wp2
    go_ret
    exact ⟨by rw [HN.out]; rfl, Below.refl _ _⟩
end Rec
end Go.Proofs.YtlhalhilnkneeaaGreatDoor
end
section
namespace Go.Proofs.YtlhalhilnkneeaaGreatDoor
open Go.RowKit Go.WideShapes Go.WideElems Go.ChangeAt Go.ChangeShapes
namespace In
/-- The strings that stand from an address on. -/
def Strs (w : World) (a : Option Addr) (l : List ByteArray) : Prop :=
  ∀ i, i < l.length → ∃ b off, a = some ⟨b, off, none⟩ ∧ b < w.heap.size ∧ w.cell? ⟨b, off + i, none⟩ = some (.string (l.getD i ByteArray.empty))
def IsStrs (w : World) (v : Value) (l : List ByteArray) : Prop :=
  ∃ a cap, v = .slice a l.length cap ∧ l.length ≤ maxLen ∧ Strs w a l ∧ (∀ s ∈ l, s.size ≤ maxLen) ∧ l.length ≤ cap ∧ cap ≤ maxLen
theorem Strs.below {w w' : World} {a : Option Addr} {l : List ByteArray} (h : Strs w a l) (hb : Below w.heap.size w w') : Strs w' a l := fun i hi => by
  obtain ⟨b, off, ha, hlt, hc⟩ := h i hi
  exact ⟨b, off, ha, Nat.lt_of_lt_of_le hlt hb.size, (hb.cell (p := ⟨b, off + i, none⟩) hlt).trans hc⟩
theorem cell_addr {w : World} {a : Addr} {i : Nat} {v : Value} (h : w.cell? (a.add i) = some v) (h0 : ∃ v0, w.cell? (a.add 0) = some v0) : ∃ b off, a = ⟨b, off, none⟩ ∧ b < w.heap.size ∧ w.cell? ⟨b, off + i, none⟩ = some v := by
  obtain ⟨b, off, spot⟩ := a
  obtain ⟨v0, h0⟩ := h0
  have hs : spot = none := by simpa [Addr.add] using World.cell?_spot h0
  subst hs
  refine ⟨b, off, rfl, block_lt_of_cell h0, ?_⟩
  have e : (⟨b, off, none⟩ : Addr).add i = ⟨b, off + i, none⟩ := by unfold Addr.add; split <;> simp_all
  rwa [e] at h
theorem isStrs_of {H : Type} {enc : TypeId × Value → H} {P : Program} {t e : TypeId} (ht : P.underlying t = some (.slice e)) (he : P.underlying e = some .string) (hc : P.cellsOf e = 1) {W : World} {r : Reach} {b0 : Nat} {v : Value} {d : DataW H} {p : List MemPlace} {base : Nat} {spare held : _}
    (hv : Value.okWide P W r b0 t v) (h : DataW.Trod enc P W base spare held t v d p) : ∃ l, IsStrs W v l := by
  obtain ⟨a0, len, cap, rfl⟩ := okWide_slice ht hv
  obtain ⟨fuel, hf⟩ := h
  rcases open_strings ht he hc hf with ⟨hcs, _⟩ | ⟨x, l, c, ss, hcs, _, hl, hm, hz, _, hcell, hws⟩
  · simp [Value.cells] at hcs
    obtain ⟨rfl, rfl, rfl⟩ := hcs
    exact ⟨[], none, 0, rfl, Nat.zero_le _, fun i hi => absurd hi (Nat.not_lt_zero i), fun s hs => (by cases hs), Nat.le_refl _, Nat.zero_le _⟩
  · simp [Value.cells] at hcs
    obtain ⟨rfl, rfl, rfl⟩ := hcs
    have hlz : len ≤ ss.length := by rw [hz]; split <;> omega
    refine ⟨ss.take len, some x, cap, by rw [List.length_take, Nat.min_eq_left hlz], by rw [List.length_take]; omega, fun i hi => ?_, fun s hs => hws s (List.mem_of_mem_take hs), by rw [List.length_take]; omega, hm⟩
    rw [List.length_take, Nat.min_eq_left hlz] at hi
    obtain ⟨b, off, rfl, hb, hc⟩ := cell_addr (hcell i (by omega)) ⟨_, hcell 0 (by omega)⟩
    refine ⟨b, off, rfl, hb, ?_⟩
    rw [hc]
    simp [List.getD, hi]
/-- Strings as values. -/
def strVals (l : List ByteArray) : List Value := l.map Value.string
theorem Strs.drewN {w : World} {a : Option Addr} {l : List ByteArray} (h : Strs w a l) (q : Nat) : Strs (w.drewN q) a l := h
theorem strs_of_own {w : World} {base : Nat} {T : TypeId} {v : Value} {l : List ByteArray} (h : w.ownsRow base T 1 v l.length (strVals l)) : ∃ a cap, v = .slice a l.length cap ∧ Strs w a l := by
  rcases h.2 with ⟨rfl, h0⟩ | ⟨g, cap, cur, rfl, _, hg, _⟩
  · exact ⟨none, 0, by rw [h0], fun i hi => by omega⟩
  · refine ⟨some ⟨g, 0, none⟩, cap, rfl, fun i hi => ⟨g, 0, rfl, ?_, ?_⟩⟩
    · exact (Array.getElem?_eq_some_iff.1 hg).1
    · have := h.cells rfl i (.string (l.getD i ByteArray.empty)) (by simp [strVals, List.getD, hi])
      have hadd : (⟨g, 0, none⟩ : Addr).add i = ⟨g, 0 + i, none⟩ := by unfold Addr.add; split <;> simp_all
      rwa [hadd] at this
end In
end Go.Proofs.YtlhalhilnkneeaaGreatDoor
end
section
namespace Go.Proofs.YtlhalhilnkneeaaGreatDoor
open Go.RowKit
namespace Cmd
open Pen (bs)
/-- The names of the numbers. -/
def names : List (List UInt8) := [[119, 104, 111], [97, 115], [100, 105, 118], [105, 100], [116, 111], [105, 110, 116, 111], [112, 108, 97, 99, 101], [100, 101, 115, 116], [116, 121, 112, 101], [110], [112, 108, 101, 100, 103, 101], [108, 97, 115, 116, 115], [100, 97, 121, 115], [114, 117, 110, 115], [99, 111, 112, 105, 101, 115], [114, 111, 108, 101, 115], [109, 101], [116, 101], [98, 97, 121]]
/-- The kinds' words. -/
def words : List (List UInt8) := [[109, 105, 110, 116], [115, 101, 101, 100], [100, 114, 97, 102, 116], [102, 111, 117, 110, 100], [101, 110, 114, 111, 108], [101, 120, 112, 101, 108], [112, 97, 121], [103, 105, 118, 101], [105, 110, 115, 116, 97, 108, 108], [112, 97, 117, 115, 101], [114, 101, 115, 117, 109, 101], [99, 97, 110, 99, 101, 108], [100, 101, 108, 105, 118, 101, 114], [105, 115, 115, 117, 101], [97, 99, 99, 101, 112, 116], [104, 97, 110, 100], [102, 97, 105, 108], [114, 101, 106, 101, 99, 116], [114, 101, 118, 111, 107, 101], [116, 105, 99, 107], [109, 111, 110, 101, 121], [115, 116, 97, 99, 107], [106, 111, 98], [100, 101, 97, 108], [99, 108, 111, 99, 107]]
/-- The kinds' fields as a text. -/
def texts : List (List UInt8) := [[97, 115, 32, 110], [97, 115, 32, 100, 105, 118, 32, 112, 108, 97, 99, 101, 32, 116, 121, 112, 101, 32, 110], [97, 115, 32, 100, 105, 118, 32, 112, 108, 97, 99, 101, 32, 116, 121, 112, 101, 32, 109, 101, 32, 116, 101, 32, 114, 117, 110, 115], [119, 104, 111], [119, 104, 111, 32, 97, 115, 32, 116, 111, 32, 114, 111, 108, 101, 115], [119, 104, 111, 32, 97, 115, 32, 116, 111], [119, 104, 111, 32, 97, 115, 32, 116, 111, 32, 110], [119, 104, 111, 32, 97, 115, 32, 100, 105, 118, 32, 116, 111, 32, 105, 110, 116, 111, 32, 112, 108, 97, 99, 101, 32, 116, 121, 112, 101, 32, 110], [119, 104, 111, 32, 97, 115, 32, 100, 105, 118, 32, 98, 97, 121, 32, 105, 100, 32, 116, 121, 112, 101, 32, 114, 117, 110, 115, 32, 99, 111, 112, 105, 101, 115], [119, 104, 111, 32, 105, 100], [119, 104, 111, 32, 105, 100], [119, 104, 111, 32, 105, 100], [119, 104, 111, 32, 105, 100], [119, 104, 111, 32, 97, 115, 32, 100, 105, 118, 32, 116, 121, 112, 101, 32, 116, 111, 32, 112, 108, 97, 99, 101, 32, 100, 101, 115, 116, 32, 110, 32, 112, 108, 101, 100, 103, 101, 32, 108, 97, 115, 116, 115, 32, 100, 97, 121, 115], [119, 104, 111, 32, 97, 115, 32, 100, 105, 118, 32, 105, 100], [119, 104, 111, 32, 105, 100], [119, 104, 111, 32, 105, 100], [119, 104, 111, 32, 105, 100], [119, 104, 111, 32, 105, 100], [110], [119, 104, 111, 32, 97, 115], [119, 104, 111, 32, 97, 115, 32, 100, 105, 118, 32, 112, 108, 97, 99, 101, 32, 116, 121, 112, 101], [119, 104, 111, 32, 105, 100], [119, 104, 111, 32, 105, 100], [119, 104, 111]]
/-- The kinds' fields as places. -/
def fis : List (List Nat) := [[1, 9], [1, 2, 6, 8, 9], [1, 2, 6, 8, 16, 17, 13], [0], [0, 1, 4, 15], [0, 1, 4], [0, 1, 4, 9], [0, 1, 2, 4, 5, 6, 8, 9], [0, 1, 2, 18, 3, 8, 13, 14], [0, 3], [0, 3], [0, 3], [0, 3], [0, 1, 2, 8, 4, 6, 7, 9, 10, 11, 12], [0, 1, 2, 3], [0, 3], [0, 3], [0, 3], [0, 3], [9], [0, 1], [0, 1, 2, 6, 8], [0, 3], [0, 3], [0]]
def nm (i : Nat) : ByteArray := bs (names.getD i [])
def wd (k : Nat) : ByteArray := bs (words.getD k [])
def tx (k : Nat) : ByteArray := bs (texts.getD k [])
/-- The places of a kind's fields. -/
def fi (kind : Int) : List Nat := if 1 ≤ kind ∧ kind ≤ 25 then fis.getD (kind - 1).toNat [] else []
def fn (kind : Int) : List ByteArray := (fi kind).map nm
/-- The first place of a name, among the first so many. -/
def placeTo (s : ByteArray) : Nat → Option Nat
  | 0 => none
  | n + 1 => match placeTo s n with
    | some i => some i
    | none => if nm n = s then some n else none
def place (s : ByteArray) : Option Nat := placeTo s 19
def kindTo (s : ByteArray) : Nat → Int
  | 0 => 0
  | n + 1 => if kindTo s n = 0 then (if wd n = s then ((n : Nat) : Int) + 1 else 0) else kindTo s n
def kindOf (s : ByteArray) : Int := kindTo s 25
def nameOf (kind : Int) : ByteArray := if 1 ≤ kind ∧ kind ≤ 25 then wd (kind - 1).toNat else ByteArray.empty
theorem bs_inj {a b : List UInt8} (h : bs a = bs b) : a = b := by have := congrArg (fun x => x.data.toList) h; exact this
theorem names_apart : ∀ i, i < 19 → ∀ j, j < 19 → names.getD i [] = names.getD j [] → i = j := by decide +kernel
theorem words_apart : ∀ i, i < 25 → ∀ j, j < 25 → words.getD i [] = words.getD j [] → i = j := by decide +kernel
theorem nm_inj {i j : Nat} (hi : i < 19) (hj : j < 19) (h : nm i = nm j) : i = j := names_apart i hi j hj (bs_inj h)
theorem wd_inj {i j : Nat} (hi : i < 25) (hj : j < 25) (h : wd i = wd j) : i = j := words_apart i hi j hj (bs_inj h)
theorem fis_small : ∀ k, k < 25 → ∀ i ∈ fis.getD k [], i < 19 := by decide +kernel
theorem fis_nodup : ∀ k, k < 25 → (fis.getD k []).Nodup := by decide +kernel
theorem fis_some : ∀ k, k < 25 → fis.getD k [] ≠ [] := by decide +kernel
theorem fis_len : ∀ k, k < 25 → (fis.getD k []).length ≤ 11 := by decide +kernel
theorem fis_text : ∀ k, k < 25 → Lib.fields (texts.getD k []) = (fis.getD k []).map fun i => names.getD i [] := by decide +kernel
theorem texts_ascii : ∀ k, k < 25 → ∀ b ∈ texts.getD k [], b.toNat < 128 := by decide +kernel
theorem texts_len : ∀ k, k < 25 → (texts.getD k []).length ≤ 100 := by decide +kernel
theorem fi_in {kind : Int} (h : 1 ≤ kind ∧ kind ≤ 25) : fi kind = fis.getD (kind - 1).toNat [] := if_pos h
theorem fi_out {kind : Int} (h : ¬ (1 ≤ kind ∧ kind ≤ 25)) : fi kind = [] := if_neg h
theorem fi_small (kind : Int) : ∀ i ∈ fi kind, i < 19 := by
  by_cases h : 1 ≤ kind ∧ kind ≤ 25
  · rw [fi_in h]; exact fis_small _ (by omega)
  · rw [fi_out h]; exact fun i hi => by cases hi
theorem fi_nodup (kind : Int) : (fi kind).Nodup := by
  by_cases h : 1 ≤ kind ∧ kind ≤ 25
  · rw [fi_in h]; exact fis_nodup _ (by omega)
  · rw [fi_out h]; exact List.nodup_nil
theorem fi_len (kind : Int) : (fi kind).length ≤ 11 := by
  by_cases h : 1 ≤ kind ∧ kind ≤ 25
  · rw [fi_in h]; exact fis_len _ (by omega)
  · rw [fi_out h]; exact Nat.zero_le _
theorem fi_none (kind : Int) : (fi kind).length = 0 ↔ ¬ (1 ≤ kind ∧ kind ≤ 25) := by
  constructor
  · intro h hk
    rw [fi_in hk] at h
    exact fis_some _ (by omega) (List.eq_nil_of_length_eq_zero h)
  · intro h; rw [fi_out h]; rfl
theorem place_lt {s : ByteArray} : ∀ n i, placeTo s n = some i → i < n ∧ nm i = s := by
  intro n
  induction n with
  | zero => intro i h; cases h
  | succ n ih =>
    intro i h
    unfold placeTo at h
    cases hp : placeTo s n with
    | some j => rw [hp] at h; simp only at h; cases h; exact ⟨Nat.lt_succ_of_lt (ih _ hp).1, (ih _ hp).2⟩
    | none =>
      rw [hp] at h; simp only at h
      split at h
      · rename_i he; cases h; exact ⟨Nat.lt_succ_self _, he⟩
      · cases h
theorem place_not {s : ByteArray} : ∀ n, placeTo s n = none → ∀ i, i < n → nm i ≠ s := by
  intro n
  induction n with
  | zero => intro h i hi; omega
  | succ n ih =>
    intro h i hi
    unfold placeTo at h
    cases hp : placeTo s n with
    | some j => rw [hp] at h; simp only at h; cases h
    | none =>
      rw [hp] at h; simp only at h
      split at h
      · cases h
      · rename_i he
        by_cases hin : i = n
        · subst hin; exact he
        · exact ih hp i (by omega)
theorem place_nm {i : Nat} (hi : i < 19) : place (nm i) = some i := by
  cases h : place (nm i) with
  | some j =>
    have := place_lt 19 j h
    rw [nm_inj this.1 hi this.2]
  | none => exact absurd rfl (place_not 19 h i hi)
end Cmd
end Go.Proofs.YtlhalhilnkneeaaGreatDoor
end
