/- A reader of either side: what its calls leave behind; numbers with a sign. -/
import Derived.Test.YtmaddebfoefckaaDoorPenI
import Derived.Laws.OwnMore
set_option linter.unusedSimpArgs false
namespace Go.Proofs.YtmaddebfoefckaaDoor
open Go.RowKit
namespace Cat
open Pen (bs bs_append uintB uintS intS intB doneS below2 below_al below_dN zag zig)
abbrev Left := Option (List UInt8)
/-- All blocks ahead of the n-th, but some, are as they were. -/
structure Bx (n : Nat) (E : Nat → Prop) (a b : World) : Prop where
  os : b.os = a.os
  tape : b.tape = a.tape
  output : b.output = a.output
  size : a.heap.size ≤ b.heap.size
  block : ∀ k, k < n → ¬ E k → b.heap[k]? = a.heap[k]?
section
variable {n : Nat} {E : Nat → Prop} {a b c : World}
theorem Bx.refl (n : Nat) (E : Nat → Prop) (a : World) : Bx n E a a := ⟨rfl, rfl, rfl, Nat.le_refl _, fun _ _ _ => rfl⟩
theorem Bx.mono {m : Nat} {F : Nat → Prop} (h : Bx n E a b) (hm : m ≤ n) (hE : ∀ k, k < m → E k → F k) : Bx m F a b := ⟨h.os, h.tape, h.output, h.size, fun k hk hg => h.block k (Nat.lt_of_lt_of_le hk hm) fun e => hg (hE k hk e)⟩
theorem Bx.trans (h : Bx n E a b) (h2 : Bx n E b c) : Bx n E a c :=
  ⟨h2.os.trans h.os, h2.tape.trans h.tape, h2.output.trans h.output, Nat.le_trans h.size h2.size, fun k hk hg => (h2.block k hk hg).trans (h.block k hk hg)⟩
theorem Bx.grown {o : Option Nat} (h : Bx n E a b) (h2 : b.grownBy c o) (hn : n ≤ b.heap.size) (ho : ∀ k, o = some k → n ≤ k ∨ E k) : Bx n E a c :=
  ⟨h2.os.trans h.os, h2.tape.trans h.tape, h2.output.trans h.output, Nat.le_trans h.size h2.size, fun k hk hg => (h2.block k (Nat.lt_of_lt_of_le hk hn) (fun e => by
    rcases ho k e.symm with h3 | h3
    · omega
    · exact hg h3)).trans (h.block k hk hg)⟩
theorem Bx.alloc (h : Bx n E a b) (hn : n ≤ b.heap.size) (o : Obj) : Bx n E a (b.alloc o) := h.grown (World.grownBy_alloc b o none) hn fun k hk => by cases hk
theorem Bx.below (h : Bx n E a b) (hn : n ≤ b.heap.size) (h2 : Below b.heap.size b c) : Bx n E a c :=
  ⟨h2.os.trans h.os, h2.tape.trans h.tape, h2.output.trans h.output, Nat.le_trans h.size h2.size, fun k hk hg => (h2.block k (Nat.lt_of_lt_of_le hk hn)).trans (h.block k hk hg)⟩
theorem Bx.set (h : Bx n E a b) (x : Addr) (u : Value) (hx : n ≤ x.block ∨ E x.block) : Bx n E a (b.setCell x u) :=
  ⟨h.os, h.tape, h.output, by simpa using h.size, fun k hk hg => (Below.heap_setCell _ _ _ _ (fun e => by
    rcases hx with h3 | h3
    · omega
    · exact hg (e ▸ h3))).trans (h.block k hk hg)⟩
theorem Bx.dN (h : Bx n E a b) (q : Nat) : Bx n E a (b.drewN q) := ⟨h.os, h.tape, h.output, h.size, h.block⟩
theorem Bx.drew (h : Bx n E a b) : Bx n E a b.drew := ⟨h.os, h.tape, h.output, h.size, h.block⟩
theorem Bx.keep (h : Bx n E a b) {k i : Nat} (hk : k < n) (hg : ¬ E k) {v : Value} (hc : a.cell? ⟨k, i, none⟩ = some v) : b.cell? ⟨k, i, none⟩ = some v := by
  unfold World.cell? at hc ⊢
  rw [h.block k hk hg]
  exact hc
theorem Bx.toGrown {g : Nat} (h : Bx a.heap.size (· = g) a b) : a.grownBy b (some g) := ⟨h.os, h.tape, h.output, h.size, fun k hk hne => h.block k hk fun e => hne (by rw [e])⟩
theorem Bx.toBelow (h : Bx a.heap.size E a b) (hg : ∀ k, E k → a.heap.size ≤ k) : Below a.heap.size a b :=
  ⟨h.os, h.tape, h.output, h.size, fun k hk => h.block k hk fun e => by have := hg k e; omega⟩
end
/-- A reader of either side at a block. -/
def Rd (T : TypeId) (Q : (Nat → Value) → Left → Prop) (w : World) (g : Nat) (o : Left) : Prop := ∃ f, w.rowIs g T 3 f ∧ Q f o
section
variable {T : TypeId} {Q : (Nat → Value) → Left → Prop} {w w' : World} {g : Nat} {o : Left}
theorem Rd.of_block (h : Rd T Q w g o) (e : w'.heap[g]? = w.heap[g]?) : Rd T Q w' g o := by
  obtain ⟨f, h1, h2⟩ := h
  exact ⟨f, h1.of_block e, h2⟩
theorem Rd.lt (h : Rd T Q w g o) : g < w.heap.size := by
  obtain ⟨f, h1, h2⟩ := h
  exact h1.lt
theorem Rd.grown (h : Rd T Q w g o) {r : Option Nat} (hg : w.grownBy w' r) (hr : r ≠ some g) : Rd T Q w' g o := h.of_block (hg.block g h.lt fun e => hr e.symm)
theorem Rd.below (h : Rd T Q w g o) (hb : Below w.heap.size w w') : Rd T Q w' g o := h.of_block (hb.block g h.lt)
theorem Rd.alloc (h : Rd T Q w g o) (x : Obj) : Rd T Q (w.alloc x) g o := h.of_block (heap_alloc_old w x h.lt)
theorem Rd.set (h : Rd T Q w g o) {a : Addr} (ha : a.block ≠ g) (u : Value) : Rd T Q (w.setCell a u) g o := h.of_block (Below.heap_setCell _ _ _ _ (fun e => ha e.symm))
theorem Rd.drew (h : Rd T Q w g o) : Rd T Q w.drew g o := h
theorem Rd.dN (h : Rd T Q w g o) (q : Nat) : Rd T Q (w.drewN q) g o := h
end
/-- What a call of a reader leaves behind. -/
def Rs (T : TypeId) (Q : (Nat → Value) → Left → Prop) (w : World) (g : Nat) (r : Int × Left) (e : Ending) (w' : World) : Prop := e = .returned (.int .i64 r.1) ∧ Hid (Rd T Q w' g r.2) ∧ Hid (w.grownBy w' (some g))
def QP (f : Nat → Value) (o : Left) : Prop := ∃ rest bad, f = Pen.rc rest bad ∧ Pen.st rest bad = o ∧ rest.size ≤ 1000000000
def QR (f : Nat → Value) (o : Left) : Prop := ∃ S p bad, f = Pen.rrc S p bad ∧ Pen.st2 S p bad = o ∧ p ≤ S.size ∧ S.size ≤ 1000000000
theorem pUint_any (g : Nat) (o : Left) (most : Int) (w : World) (h : Rd 55 QP w g o) :
    Calls Tryd.prog 21 #[.pointer (some ⟨g, 0, none⟩), .int .i64 most] w (Rs 55 QP w g (uintS most o)) := by
  obtain ⟨f, h1, rest, bad, rfl, rfl, hs⟩ := h
  refine (Pen.rUint_any g rest bad most hs w h1).mono ?_
  rintro e w' ⟨rest', bad', rfl, H1, H2, H3⟩
  exact ⟨rfl, ⟨_, H2.out, rest', bad', rfl, H1.out.1, Nat.le_trans H1.out.2 hs⟩, H3⟩
theorem pBad_any (g : Nat) (o : Left) (w : World) (h : Rd 55 QP w g o) :
    Calls Tryd.prog 36 #[.pointer (some ⟨g, 0, none⟩)] w fun e w' => e = .returned (.bool o.isNone) ∧ w = w' := by
  obtain ⟨f, h1, rest, bad, rfl, rfl, hs⟩ := h
  have := Pen.bad_any g rest bad w h1
  cases bad <;> exact this
theorem pDone_any (g : Nat) (o : Left) (w : World) (h : Rd 55 QP w g o) :
    Calls Tryd.prog 23 #[.pointer (some ⟨g, 0, none⟩)] w fun e w' => e = .returned (.bool (doneS o)) ∧ w = w' := by
  obtain ⟨f, h1, rest, bad, rfl, rfl, hs⟩ := h
  exact Pen.done_any g rest bad w h1
theorem pNew_any (s : ByteArray) (hs : s.size ≤ 1000000000) (w : World) :
    Calls Tryd.prog 20 #[.string s] w fun e w' => e = .returned (.pointer (some ⟨w.heap.size, 0, none⟩)) ∧ Hid (Rd 55 QP w' w.heap.size (some s.data.toList)) ∧ Hid (Below w.heap.size w w') := by
  refine (Pen.new_any s w).mono ?_
  rintro e w' ⟨rfl, h1, h2⟩
  exact ⟨rfl, ⟨_, h1, s, false, rfl, rfl, hs⟩, h2⟩
theorem rrU_any (g : Nat) (o : Left) (most : Int) (w : World) (h : Rd 44 QR w g o) :
    Calls Tryd.prog 24 #[.pointer (some ⟨g, 0, none⟩), .int .i64 most] w (Rs 44 QR w g (uintS most o)) := by
  obtain ⟨f, h1, S, p, bad, rfl, rfl, hp, hs⟩ := h
  refine (Pen.rrUint_any g S p bad most hp hs w h1).mono ?_
  rintro e w' ⟨p', bad', rfl, H1, H2, H3⟩
  exact ⟨rfl, ⟨_, H2.out, S, p', bad', rfl, H1.out.1, H1.out.2, hs⟩, H3⟩
theorem rrD_any (g : Nat) (o : Left) (w : World) (h : Rd 44 QR w g o) :
    Calls Tryd.prog 26 #[.pointer (some ⟨g, 0, none⟩)] w fun e w' => e = .returned (.bool (doneS o)) ∧ Below w.heap.size w w' := by
  obtain ⟨f, h1, S, p, bad, rfl, rfl, hp, hs⟩ := h
  exact Pen.rrDone_any g S p bad hp w h1
theorem rrNew (s : ByteArray) (hs : s.size ≤ 1000000000) (w : World) : Rd 44 QR (w.alloc (.cells #[.string s, .int .i64 0, .bool false] 44)) w.heap.size (some s.data.toList) :=
  ⟨Pen.rrc s 0 false, ⟨_, heap_alloc_new w _, rfl, fun i hi => by
    match i, hi with
    | 0, _ => rfl
    | 1, _ => rfl
    | 2, _ => rfl⟩, s, 0, false, rfl, rfl, Nat.zero_le _, hs⟩
theorem rrBad {w : World} {g : Nat} {o : Left} (h : Rd 44 QR w g o) : w.cell? ⟨g, 2, none⟩ = some (.bool o.isNone) := by
  obtain ⟨f, h1, S, p, bad, rfl, rfl, hp, hs⟩ := h
  have := h1.cell (i := 2) (by decide)
  rw [this]
  cases bad <;> rfl
theorem and_one (m : Nat) : bits .and .u64 (m : Int) 1 = ((m % 2 : Nat) : Int) := by
  show IntKind.u64.wrap (((BitVec.ofInt 64 (m : Int)) &&& (BitVec.ofInt 64 1)).toNat : Int) = _
  have ha : BitVec.ofInt 64 (m : Int) = BitVec.ofNat 64 m := BitVec.ofInt_natCast 64 m
  rw [ha, BitVec.toNat_and, BitVec.toNat_ofNat, show (BitVec.ofInt 64 1).toNat = 1 from rfl, Nat.and_one_is_mod, IntKind.wrap_u64]
  omega
theorem xor_mask (a : Nat) (h : a < 9223372036854775808) : bits .xor .i64 (a : Int) (-1) = -(a : Int) - 1 := by
  show IntKind.i64.wrap (((BitVec.ofInt 64 (a : Int)) ^^^ (BitVec.ofInt 64 (-1))).toNat : Int) = _
  have ha : BitVec.ofInt 64 (a : Int) = BitVec.ofNat 64 a := BitVec.ofInt_natCast 64 a
  have hb : (BitVec.ofInt 64 (-1)).toNat = 18446744073709551615 := by decide
  have e1 : (BitVec.ofNat 64 a).toNat = a := by rw [BitVec.toNat_ofNat]; exact Nat.mod_eq_of_lt (by omega)
  rw [ha, BitVec.toNat_xor, e1, hb, Pen.xor_ones _ (by omega), IntKind.wrap_i64]
  omega
theorem xor_none (a : Nat) (h : a < 9223372036854775808) : bits .xor .i64 (a : Int) 0 = (a : Int) := by
  show IntKind.i64.wrap (((BitVec.ofInt 64 (a : Int)) ^^^ (BitVec.ofInt 64 0)).toNat : Int) = _
  have ha : BitVec.ofInt 64 (a : Int) = BitVec.ofNat 64 a := BitVec.ofInt_natCast 64 a
  have hb : (BitVec.ofInt 64 0).toNat = 0 := by decide
  have e1 : (BitVec.ofNat 64 a).toNat = a := by rw [BitVec.toNat_ofNat]; exact Nat.mod_eq_of_lt (by omega)
  rw [ha, BitVec.toNat_xor, e1, hb, Nat.xor_zero, IntKind.wrap_i64]
  omega
theorem zag_bits {m : Nat} (h : m < 18446744073709551616) : bits .xor .i64 (wrap64 ((m : Int) / 2)) (wrap64 (-wrap64 (bits .and .u64 (m : Int) 1))) = zag m := by
  rw [and_one m]
  have e1 : wrap64 ((m : Int) / 2) = ((m / 2 : Nat) : Int) := by unfold wrap64; omega
  rw [e1]
  unfold zag
  rcases Nat.mod_two_eq_zero_or_one m with hm | hm
  · rw [if_pos hm, hm, show wrap64 (-wrap64 ((0 : Nat) : Int)) = 0 from by unfold wrap64; omega, xor_none _ (by omega)]
  · rw [if_neg (by omega), hm, show wrap64 (-wrap64 ((1 : Nat) : Int)) = -1 from by unfold wrap64; omega, xor_mask _ (by omega)]
/-- What the program makes of a word. -/
def zi (V : Int) : Int := bits .xor .i64 (wrap64 (V / 2)) (wrap64 (-wrap64 (bits .and .u64 V 1)))
theorem zi_zero : zi 0 = 0 := (zag_bits (m := 0) (by decide)).trans (by decide)
theorem zi_word (o : List UInt8) : zi (Pen.wordS o).1 = (intS (some o)).1 ∧ (intS (some o)).2 = Pen.st (bs (Pen.wordS o).2.2.1) (Pen.wordS o).2.2.2 ∧ (bs (Pen.wordS o).2.2.1).size ≤ o.length := by
  unfold Pen.wordS intS
  cases hr : Pen.rd o with
  | none => simp only [hr]; exact ⟨zi_zero, rfl, by rw [Pen.bs_size]; exact Nat.le_refl _⟩
  | some r =>
    obtain ⟨m, l'⟩ := r
    simp only [hr]
    have hm := Pen.rd_small hr
    exact ⟨zag_bits (by omega), rfl, by rw [Pen.bs_size]; have := hm.2; show l'.length ≤ _; simp only at this; omega⟩
set_option maxRecDepth 100000 in
theorem pInt_any (g : Nat) (o : Left) (w : World) (h : Rd 55 QP w g o) :
    Calls Tryd.prog 22 #[.pointer (some ⟨g, 0, none⟩)] w (Rs 55 QP w g (intS o)) := by
  obtain ⟨f, h1, rest, bad, rfl, rfl, hs⟩ := h
  cases bad with
  | true =>
    have HK := Lib.hid h1
    have CW := Lib.hid (Pen.word_bad g rest w h1)
    have HZ : Hid (zi 0 = 0) := zi_zero
    obtain ⟨V, hV⟩ : ∃ V : Int, Hid ((0 : Int) = V) := ⟨_, rfl⟩
    have HS : Hid (intS (Pen.st rest true) = (0, none)) := rfl
    rw [HS.out]
    have CW2 : Hid (Calls Tryd.prog 34 #[.pointer (some ⟨g, 0, none⟩)] w fun e w' => e = .returned (.tuple #[.int .u64 V, .bool false]) ∧ w = w') := by rw [← hV.out]; exact CW
    clear h1
    go_enter Tryd.func22, Tryd.ntmps22
    go_wp2_with (go_at_call 34; (with_reducible refine CW2.out.mono ?_); rintro e w1 ⟨rfl, rfl⟩)
    go_ret
    refine ⟨?_, ⟨_, HK.out, rest, true, rfl, rfl, hs⟩, ⟨rfl, rfl, rfl, Nat.le_refl _, fun _ _ _ => rfl⟩⟩
    show Ending.returned (.int .i64 (zi V)) = _
    rw [← hV.out, HZ.out]
  | false =>
    have CW := Lib.hid (Pen.word_good g rest hs w h1)
    have HZ := Lib.hid (zi_word rest.data.toList)
    have HS : Hid (Pen.st rest false = some rest.data.toList) := rfl
    rw [HS.out]
    generalize Pen.wordS rest.data.toList = R at CW HZ
    obtain ⟨V, k, l', bd⟩ := R
    clear h1
    go_enter Tryd.func22, Tryd.ntmps22
    go_wp2_with (go_at_call 34; (with_reducible refine CW.out.mono ?_); rintro e w1 ⟨rfl, H1, G1⟩)
    go_ret
    obtain ⟨z1, z2, z3⟩ := HZ.out
    refine ⟨?_, ⟨_, H1.out, bs l', bd, rfl, z2.symm, ?_⟩, G1⟩
    · show Ending.returned (.int .i64 (zi V)) = _
      rw [← z1]
    · have : rest.data.toList.length = rest.size := by simp
      omega
theorem rdO_zag (o : Left) : (intS o).2 = (Pen.rdO o).2 ∧ 0 ≤ (Pen.rdO o).1 ∧ (Pen.rdO o).1 < 18446744073709551616 ∧ (intS o).1 = if (Pen.rdO o).1.tmod 2 = 0 then (Pen.rdO o).1 / 2 else -((Pen.rdO o).1 / 2) - 1 := by
  cases o with
  | none => exact ⟨rfl, by decide, by decide, by decide⟩
  | some l =>
    unfold Pen.rdO intS
    simp only
    cases hr : Pen.rd l with
    | none => exact ⟨rfl, by decide, by decide, by decide⟩
    | some r =>
      obtain ⟨m, l'⟩ := r
      simp only
      have hm := (Pen.rd_small hr).1
      refine ⟨trivial, by omega, by omega, ?_⟩
      unfold zag
      rw [Int.tmod_eq_emod_of_nonneg (by omega)]
      by_cases h2 : m % 2 = 0
      · rw [if_pos h2, if_pos (by omega)]; omega
      · rw [if_neg h2, if_neg (by omega)]; omega
set_option maxRecDepth 100000 in
theorem rrI_any (g : Nat) (o : Left) (w : World) (h : Rd 44 QR w g o) :
    Calls Tryd.prog 25 #[.pointer (some ⟨g, 0, none⟩)] w (Rs 44 QR w g (intS o)) := by
  obtain ⟨f, h1, S, p, bad, rfl, rfl, hp, hs⟩ := h
  have CW := Lib.hid (Pen.rword_any g S p bad hp hs w h1)
  clear h1
  have HZ := Lib.hid (rdO_zag (Pen.st2 S p bad))
  generalize Pen.rdO (Pen.st2 S p bad) = R at CW HZ
  obtain ⟨V, o'⟩ := R
  obtain ⟨z1, z2, z3, z4⟩ := HZ.out
  simp only at z1 z2 z3 z4
  have e0 : V.tdiv 2 = V / 2 := Int.tdiv_eq_ediv_of_nonneg z2
  have e1 : IntKind.u64.wrap (V / 2) = V / 2 := by rw [IntKind.wrap_u64]; omega
  have e2 : wrap64 (V / 2) = V / 2 := by unfold wrap64; omega
  have e3 : wrap64 (-(V / 2)) = -(V / 2) := by unfold wrap64; omega
  have e4 : wrap64 (-(V / 2) - 1) = -(V / 2) - 1 := by unfold wrap64; omega
  clear HZ z2 z3
  by_cases h2 : V.tmod 2 = 0
  · rw [if_pos h2] at z4
    have z4 := Lib.hid z4
    have z1 := Lib.hid z1
    go_enter Tryd.func25, Tryd.ntmps25
    go_wp2_with (go_at_call 37; (with_reducible refine CW.out.mono ?_); rintro e w1 ⟨p', bad', rfl, hst, H1, G1⟩)
    go_ret
    exact ⟨by rw [z4.out]; show Ending.returned (.int .i64 (wrap64 (V / 2))) = _; rw [e2], ⟨_, H1.out, S, p', bad', rfl, hst.out.1.trans z1.out.symm, hst.out.2, hs⟩, G1⟩
  · rw [if_neg h2] at z4
    have z4 := Lib.hid z4
    have z1 := Lib.hid z1
    have h3 : (V.tmod 2 == 0) = false := beq_eq_false_iff_ne.2 h2
    go_enter Tryd.func25, Tryd.ntmps25
    go_wp2_with (go_at_call 37; (with_reducible refine CW.out.mono ?_); rintro e w1 ⟨p', bad', rfl, hst, H1, G1⟩)
    go_ret
    exact ⟨by rw [z4.out]; show Ending.returned (.int .i64 (wrap64 (-(V / 2) - 1))) = _; rw [e4], ⟨_, H1.out, S, p', bad', rfl, hst.out.1.trans z1.out.symm, hst.out.2, hs⟩, G1⟩
end Cat
end Go.Proofs.YtmaddebfoefckaaDoor
