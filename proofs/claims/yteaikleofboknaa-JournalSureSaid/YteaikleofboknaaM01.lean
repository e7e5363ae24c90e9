/- Texts put together: DskR, DskN, DskT, DskU, DskV. -/
import Derived.Test.YteaikleofboknaaM00
import Derived.WalkKit
import Derived.WalkLawsBesides
import Derived.Great.Walk
import Derived.Lib.Hide
import Derived.BigQuiet
import Derived.Laws.Rows
import Derived.Deep.OwnRows
import Derived.Maps.OwnSet
import Derived.Maps.RangeWalk
import Derived.Lib.ConvBytes
import Derived.StringKeys
import Derived.Deep.DeepMust
import Derived.Deep.LoopGhost
import Derived.Deep.Cut
set_option linter.all false
section
namespace Go.Proofs.Yteaikleofboknaa
open Go.RowKit Go.Great Go.Maps
namespace Dsk
theorem below2 {w a b : World} (h : Below w.heap.size w a) (h2 : Below a.heap.size a b) : Below w.heap.size w b := h.trans (h2.mono h.size)
theorem below_al {w x : World} (h : Below w.heap.size w x) (o : Obj) : Below w.heap.size w (x.alloc o) := h.alloc h.size o
theorem below_dN {B : Nat} {a w : World} (h : Below B a w) (n : Nat) : Below B a (w.drewN n) := ⟨h.os, h.tape, h.output, h.size, h.block⟩
def cellP (m : Nat) (d : DkIn) (i : Nat) : Value := if i = 0 then .map (some m) else if i = 1 then .int .i64 d.room else if i = 2 then .int .i64 d.ops else if i = 3 then .int .i64 d.last else if i = 4 then .bool d.half else .bool d.dead
/-- A disk that stands in a block, its files in a map. -/
structure PD (w : World) (g m n : Nat) (d : DkIn) : Prop where
  row : w.rowIs g 56 6 (cellP m d)
  own : w.ownsMap Try.prog 9 fileElem m n (datum d.files)
  ne : g ≠ m
/-- The numbers of a disk are small. -/
structure Dok (d : DkIn) : Prop where
  fok : Fok d.files
  room : 0 ≤ d.room ∧ d.room ≤ 16777216
  ops : 0 ≤ d.ops ∧ d.ops ≤ 1000000000
  last : 0 ≤ d.last ∧ d.last ≤ 9223372036854775807
theorem PD.cells {w : World} {g m n : Nat} {d : DkIn} (h : PD w g m n d) : w.cell? ⟨g, 0, none⟩ = some (.map (some m)) ∧ w.cell? ⟨g, 1, none⟩ = some (.int .i64 d.room) ∧ w.cell? ⟨g, 2, none⟩ = some (.int .i64 d.ops) ∧ w.cell? ⟨g, 3, none⟩ = some (.int .i64 d.last) ∧ w.cell? ⟨g, 4, none⟩ = some (.bool d.half) ∧ w.cell? ⟨g, 5, none⟩ = some (.bool d.dead) :=
  ⟨World.rowIs.cell h.row (i := 0) (by decide), World.rowIs.cell h.row (i := 1) (by decide), World.rowIs.cell h.row (i := 2) (by decide), World.rowIs.cell h.row (i := 3) (by decide), World.rowIs.cell h.row (i := 4) (by decide), World.rowIs.cell h.row (i := 5) (by decide)⟩
theorem PD.lt {w : World} {g m n : Nat} {d : DkIn} (h : PD w g m n d) : g < w.heap.size ∧ m < w.heap.size := ⟨World.rowIs.lt h.row, h.own.lt⟩
theorem PD.grown {w w' : World} {g m n : Nat} {d : DkIn} {o : Option Nat} (h : PD w g m n d) (hg : w.grownBy w' o) (h1 : o ≠ some g) (h2 : o ≠ some m) : PD w' g m n d :=
  ⟨h.row.of_block (hg.block g h.lt.1 fun e => h1 e.symm), h.own.kept hg fun e => h2 e.symm, h.ne⟩
theorem PD.below {w w' : World} {g m n : Nat} {d : DkIn} (h : PD w g m n d) (hb : Below w.heap.size w w') : PD w' g m n d :=
  h.grown (o := none) ⟨hb.os, hb.tape, hb.output, hb.size, fun k hk _ => hb.block k hk⟩ (by simp) (by simp)
theorem PD.setOps {w : World} {g m n : Nat} {d : DkIn} (h : PD w g m n d) (x : Int) : PD (w.setCell ⟨g, 2, none⟩ (.int .i64 x)) g m n { d with ops := x } := by
  refine ⟨World.rowIs.congr (World.rowIs.set h.row 2 _) fun i hi => ?_, h.own.kept (w' := w.setCell ⟨g, 2, none⟩ (.int .i64 x)) (row := some g) ⟨rfl, rfl, rfl, by simp, fun j hj hne => Below.heap_setCell _ _ _ _ fun e => hne (by rw [e])⟩ (fun e => h.ne (Option.some.inj e).symm), h.ne⟩
  match i, hi with
  | 0, _ => rfl
  | 1, _ => rfl
  | 2, _ => rfl
  | 3, _ => rfl
  | 4, _ => rfl
  | 5, _ => rfl
theorem PD.setLast {w : World} {g m n : Nat} {d : DkIn} (h : PD w g m n d) (x : Int) : PD (w.setCell ⟨g, 3, none⟩ (.int .i64 x)) g m n { d with last := x } := by
  refine ⟨World.rowIs.congr (World.rowIs.set h.row 3 _) fun i hi => ?_, h.own.kept (w' := w.setCell ⟨g, 3, none⟩ (.int .i64 x)) (row := some g) ⟨rfl, rfl, rfl, by simp, fun j hj hne => Below.heap_setCell _ _ _ _ fun e => hne (by rw [e])⟩ (fun e => h.ne (Option.some.inj e).symm), h.ne⟩
  match i, hi with
  | 0, _ => rfl
  | 1, _ => rfl
  | 2, _ => rfl
  | 3, _ => rfl
  | 4, _ => rfl
  | 5, _ => rfl
theorem PD.setDead {w : World} {g m n : Nat} {d : DkIn} (h : PD w g m n d) (x : Bool) : PD (w.setCell ⟨g, 5, none⟩ (.bool x)) g m n { d with dead := x } := by
  refine ⟨World.rowIs.congr (World.rowIs.set h.row 5 _) fun i hi => ?_, h.own.kept (w' := w.setCell ⟨g, 5, none⟩ (.bool x)) (row := some g) ⟨rfl, rfl, rfl, by simp, fun j hj hne => Below.heap_setCell _ _ _ _ fun e => hne (by rw [e])⟩ (fun e => h.ne (Option.some.inj e).symm), h.ne⟩
  match i, hi with
  | 0, _ => rfl
  | 1, _ => rfl
  | 2, _ => rfl
  | 3, _ => rfl
  | 4, _ => rfl
  | 5, _ => rfl
theorem grw_trans {a b c : World} {g : Nat} (h1 : a.grownBy b (some g)) (h2 : b.grownBy c (some g)) : a.grownBy c (some g) :=
  ⟨h2.os.trans h1.os, h2.tape.trans h1.tape, h2.output.trans h1.output, Nat.le_trans h1.size h2.size, fun k hk hne => (h2.block k (Nat.lt_of_lt_of_le hk h1.size) hne).trans (h1.block k hk hne)⟩
theorem map_ne (m : Nat) (w : World) : Sem.run Try.prog (binOp .neq 54 (.map (some m)) (.map none)) w = .ok (.bool true) w := by kernel_rfl
theorem map_eq (w : World) : Sem.run Try.prog (binOp .neq 54 (.map none) (.map none)) w = .ok (.bool false) w := by kernel_rfl
set_option maxRecDepth 100000 in
theorem given_any (w : World) (g m n : Nat) (d : DkIn) (h : PD w g m n d) : Calls Try.prog 43 #[.pointer (some ⟨g, 0, none⟩)] w fun e w' => e = .returned (.bool true) ∧ w = w' := by
  obtain ⟨c0, -⟩ := h.cells
  have q := map_ne m w
  go_enter Try.func43, Try.ntmps43
  go_wp2
  go_ret
  exact ⟨rfl, rfl⟩
set_option maxRecDepth 100000 in
theorem given_nil (w : World) : Calls Try.prog 43 #[.pointer none] w fun e w' => e = .returned (.bool false) ∧ w = w' := by
  go_enter Try.func43, Try.ntmps43
  go_wp2
  go_ret
  exact ⟨rfl, rfl⟩
set_option maxRecDepth 100000 in
theorem given_zero (w : World) (g : Nat) (h : w.cell? ⟨g, 0, none⟩ = some (.map none)) : Calls Try.prog 43 #[.pointer (some ⟨g, 0, none⟩)] w fun e w' => e = .returned (.bool false) ∧ w = w' := by
  have q := map_eq w
  go_enter Try.func43, Try.ntmps43
  go_wp2
  go_ret
  exact ⟨rfl, rfl⟩
set_option maxRecDepth 100000 in
theorem wakes_any (w : World) (g m n : Nat) (d : DkIn) (h : PD w g m n d) : Calls Try.prog 45 #[.pointer (some ⟨g, 0, none⟩)] w fun e w' => e = .returned (.int .i64 (if d.dead then 14 else 0)) ∧ w = w' := by
  have CG : Hid (Calls Try.prog 43 #[.pointer (some ⟨g, 0, none⟩)] w fun e w' => e = .returned (.bool true) ∧ w = w') := given_any w g m n d h
  obtain ⟨c0, c1, c2, c3, c4, c5⟩ := h.cells
  clear h
  cases hd : d.dead with
  | true =>
    rw [hd] at c5
    go_enter Try.func45, Try.ntmps45
    go_wp2_with (go_at_call 43; (with_reducible refine CG.out.mono ?_); rintro e w2 ⟨rfl, rfl⟩)
    go_ret
    exact ⟨rfl, rfl⟩
  | false =>
    rw [hd] at c5
    go_enter Try.func45, Try.ntmps45
    go_wp2_with (go_at_call 43; (with_reducible refine CG.out.mono ?_); rintro e w2 ⟨rfl, rfl⟩)
    go_ret
    exact ⟨rfl, rfl⟩
set_option maxRecDepth 100000 in
set_option maxHeartbeats 1000000 in
theorem begins_any (w : World) (g m n : Nat) (d : DkIn) (h : PD w g m n d) (hd : Dok d) : Calls Try.prog 57 #[.pointer (some ⟨g, 0, none⟩)] w fun e w' => e = .returned (.tuple #[.bool (opV d).1, .int .i64 (opV d).2.1]) ∧ Hid (PD w' g m n (opV d).2.2) ∧ Hid (w.grownBy w' (some g)) := by
  have HP := Lib.hid h
  obtain ⟨c0, c1, c2, c3, c4, c5⟩ := h.cells
  have f2 := World.rowIs.frozen h.row 2
  have f3 := World.rowIs.frozen h.row 3
  have f5 := World.rowIs.frozen h.row 5
  obtain ⟨o0, o1⟩ := hd.ops
  obtain ⟨l0, l1⟩ := hd.last
  have gset : ∀ (W : World) (i : Nat) (u : Value), W.grownBy (W.setCell ⟨g, i, none⟩ u) (some g) := fun W i u => ⟨rfl, rfl, rfl, by simp, fun j hj hne => Below.heap_setCell _ _ _ _ fun e => hne (by rw [e])⟩
  have ew : wrap64 (d.ops + 1) = d.ops + 1 := by unfold wrap64; omega
  have el : wrap64 (d.last - 1) = d.last - 1 := by unfold wrap64; omega
  by_cases hz : d.last = 0
  · have dz : (d.last == 0) = true := beq_iff_eq.2 hz
    have e : opV d = (true, 0, { d with ops := d.ops + 1 }) := by unfold opV; rw [if_pos hz]
    rw [e]
    go_enter Try.func57, Try.ntmps57
    go_wp2
    go_ret2
    exact ⟨rfl, HP.out.setOps (d.ops + 1), gset _ _ _⟩
  · have dz : (d.last == 0) = false := beq_eq_false_iff_ne.2 hz
    by_cases h1 : 0 < d.last - 1
    · have d1 : decide (1 < d.last) = true := decide_eq_true (by omega)
      have h1' : 1 < d.last := by omega
      have e : opV d = (true, 0, { d with ops := d.ops + 1, last := d.last - 1 }) := by unfold opV; rw [if_neg hz, if_pos h1]
      rw [e]
      go_enter Try.func57, Try.ntmps57
      go_wp2
      go_ret2
      exact ⟨rfl, (HP.out.setOps (d.ops + 1)).setLast (d.last - 1), grw_trans (gset _ _ _) (gset _ _ _)⟩
    · have d1 : decide (1 < d.last) = false := decide_eq_false (by omega)
      have h1' : ¬ 1 < d.last := by omega
      have e : opV d = (d.half, 14, { d with ops := d.ops + 1, last := d.last - 1, dead := true }) := by unfold opV; rw [if_neg hz, if_neg h1]
      rw [e]
      go_enter Try.func57, Try.ntmps57
      go_wp2
      go_ret2
      exact ⟨rfl, ((HP.out.setOps (d.ops + 1)).setLast (d.last - 1)).setDead true, grw_trans (grw_trans (gset _ _ _) (gset _ _ _)) (gset _ _ _)⟩
end Dsk
end Go.Proofs.Yteaikleofboknaa
end
section
namespace Go.Proofs.Yteaikleofboknaa
open Go.RowKit Go.Great Go.Maps
namespace Dsk
theorem letter_yes {b : UInt8} {B : Int} (hB : (b.toNat : Int) = B) (h : B = 46 ∨ (97 ≤ B ∧ B ≤ 122)) : letter b = true := by
  unfold letter
  rcases h with h | h
  · have : b = 46 := by
      apply UInt8.toNat_inj.1
      show b.toNat = 46
      omega
    rw [this]
    rfl
  · rw [Bool.or_eq_true, Bool.and_eq_true, decide_eq_true_eq, decide_eq_true_eq, decide_eq_true_eq]
    exact Or.inr ⟨by omega, by omega⟩
theorem letter_no {b : UInt8} {B : Int} (hB : (b.toNat : Int) = B) (h : B ≠ 46 ∧ (B < 97 ∨ 122 < B)) : letter b = false := by
  cases hl : letter b with
  | false => rfl
  | true =>
    unfold letter at hl
    rw [Bool.or_eq_true, Bool.and_eq_true, decide_eq_true_eq, decide_eq_true_eq, decide_eq_true_eq] at hl
    rcases hl with e | e
    · exact absurd (by rw [← hB, e]; rfl) h.1
    · omega
theorem all_step {s : List UInt8} {k : Nat} (hk : k < s.length) (h : (s.take k).all letter = true) (hl : letter (s.getD k 0) = true) : (s.take (k + 1)).all letter = true := by
  rw [List.take_add_one, List.all_append, h, List.getElem?_eq_getElem hk]
  rw [List.getD_eq_getElem?_getD, List.getElem?_eq_getElem hk] at hl
  simpa using hl
theorem all_not {s : List UInt8} {k : Nat} (hk : k < s.length) (hl : letter (s.getD k 0) = false) : isName s = false := by
  have h : s.all letter = false := by
    rw [List.all_eq_false]
    refine ⟨s[k], List.getElem_mem hk, ?_⟩
    rw [List.getD_eq_getElem?_getD, List.getElem?_eq_getElem hk] at hl
    simpa using hl
  unfold isName
  rw [h]
  rfl
theorem all_end {s : List UInt8} (h : (s.take s.length).all letter = true) : isName s = (decide ((1 : Int) ≤ (s.length : Int)) && decide ((s.length : Int) ≤ 12)) := by
  rw [List.take_length] at h
  unfold isName
  rw [h, Bool.true_and]
  congr 1
  · exact decide_eq_decide.2 ⟨fun h => by omega, fun h => by omega⟩
  · exact decide_eq_decide.2 ⟨fun h => by omega, fun h => by omega⟩
theorem bytesWorld_below (w : World) (e : TypeId) (s : ByteArray) : Below w.heap.size w (Lib.bytesWorld w e s) :=
  ⟨rfl, rfl, rfl, by rw [Lib.bytesWorld_size]; omega, fun k hk => Lib.bytesWorld_at_old w e s k hk⟩
set_option maxRecDepth 100000 in
set_option maxHeartbeats 2000000 in
theorem name_any (s : ByteArray) (hs : s.size ≤ 1000000000) (w : World) : Calls Try.prog 59 #[.string s] w fun e w' => e = .returned (.bool (isName s.data.toList)) ∧ Below w.heap.size w w' := by
  have hconv := fun w => Lib.run_convert_string_bytes (P := Try.prog) w 9 97 5 s Try.underlying9 Try.underlying97 Try.underlying5
  have HL : Hid (s.data.toList.length = s.size) := by show _ = _; rw [Array.length_toList]; rfl
  have HY : Hid (∀ k, k < s.size → (s.data.toList.take k).all letter = true → letter (s.data.toList.getD k 0) = true → (s.data.toList.take (k + 1)).all letter = true) := fun k hk h1 h2 => all_step (by rw [HL.out]; exact hk) h1 h2
  have HN : Hid (∀ k, k < s.size → letter (s.data.toList.getD k 0) = false → isName s.data.toList = false) := fun k hk h => all_not (by rw [HL.out]; exact hk) h
  have HE : Hid ((s.data.toList.take s.size).all letter = true → isName s.data.toList = (decide ((1 : Int) ≤ (s.size : Int)) && decide ((s.size : Int) ≤ 12))) := fun h => by
    have := all_end (s := s.data.toList) (by rw [HL.out]; exact h)
    rw [HL.out] at this
    exact this
  have H0 : Hid ((s.data.toList.take 0).all letter = true) := rfl
  obtain ⟨NV, hNV⟩ : ∃ N, Hid (isName s.data.toList = N) := ⟨_, rfl⟩
  rw [hNV.out]
  go_enter Try.func59, Try.ntmps59
  go_wp2
  go_loop [8] (fun i => ∃ k : Nat, k ≤ s.size ∧ i = .int .i64 k ∧ Hid ((s.data.toList.take k).all letter = true)) (fun i => s.size - (intOf i).toNat)
  case atStart => exact ⟨0, by omega, rfl, H0⟩
  case round =>
    obtain ⟨k, hk, rfl, HA⟩ := hrel
    by_cases hlt : k < s.size
    · have hcell := Lib.bytesWorld_cell w 5 s k hlt
      have HY' := Lib.hid (HY.out k hlt HA.out)
      have HN' := Lib.hid (HN.out k hlt)
      have hlt1 : (k : Int) < (s.size : Int) := by omega
      generalize s.data.toList.getD k 0 = b at *
      obtain ⟨B, hB⟩ : ∃ B : Int, Hid ((b.toNat : Int) = B) := ⟨_, rfl⟩
      rw [hB.out] at hcell
      by_cases h46 : B = 46
      · have d46 : (B != 46) = false := by rw [h46]; rfl
        have HQ := Lib.hid (HY'.out (letter_yes hB.out (Or.inl h46)))
        clear HY' HN'
        go_wp2
        go_round
        case rel => exact ⟨k + 1, by omega, by go_num, HQ⟩
        case measure => simp [intOf]; omega
      · have d46 : (B != 46) = true := bne_iff_ne.2 h46
        by_cases h97 : B < 97
        · have d97 : decide (B < 97) = true := decide_eq_true h97
          have HQ := Lib.hid (HN'.out (letter_no hB.out ⟨h46, Or.inl h97⟩))
          clear HY' HN'
          go_wp2
          go_ret
          exact ⟨by rw [← hNV.out, HQ.out]; rfl, bytesWorld_below _ _ _⟩
        · have d97 : decide (B < 97) = false := decide_eq_false h97
          by_cases h122 : 122 < B
          · have d122 : decide (122 < B) = true := decide_eq_true h122
            have HQ := Lib.hid (HN'.out (letter_no hB.out ⟨h46, Or.inr h122⟩))
            clear HY' HN'
            go_wp2
            go_ret
            exact ⟨by rw [← hNV.out, HQ.out]; rfl, bytesWorld_below _ _ _⟩
          · have d122 : decide (122 < B) = false := decide_eq_false h122
            have HQ := Lib.hid (HY'.out (letter_yes hB.out (Or.inr ⟨by omega, by omega⟩)))
            clear HY' HN'
            go_wp2
            go_round
            case rel => exact ⟨k + 1, by omega, by go_num, HQ⟩
            case measure => simp [intOf]; omega
    · have hke : k = s.size := by omega
      rw [hke] at HA
      have HV := Lib.hid (HE.out HA.out)
      have hn1 : ¬ (k : Int) < (s.size : Int) := by omega
      clear hke
      by_cases h1 : (1 : Int) ≤ (s.size : Int)
      · have d1 : decide ((1 : Int) ≤ (s.size : Int)) = true := decide_eq_true h1
        by_cases h12 : (s.size : Int) ≤ 12
        · have d12 : decide ((s.size : Int) ≤ 12) = true := decide_eq_true h12
          rw [d1, d12] at HV
          go_wp2
          go_ret
          exact ⟨by rw [← hNV.out, HV.out]; rfl, bytesWorld_below _ _ _⟩
        · have d12 : decide ((s.size : Int) ≤ 12) = false := decide_eq_false h12
          rw [d1, d12] at HV
          go_wp2
          go_ret
          exact ⟨by rw [← hNV.out, HV.out]; rfl, bytesWorld_below _ _ _⟩
      · have d1 : decide ((1 : Int) ≤ (s.size : Int)) = false := decide_eq_false h1
        rw [d1] at HV
        go_wp2
        go_ret
        exact ⟨by rw [← hNV.out, HV.out]; rfl, bytesWorld_below _ _ _⟩
end Dsk
end Go.Proofs.Yteaikleofboknaa
end
section
namespace Go.Proofs.Yteaikleofboknaa
open Go.RowKit Go.Great Go.Maps
namespace Dsk
theorem law : Keyed Try.prog 9 := string_keyed Try.underlying9
theorem zeroF (w : World) : (zeroValue 82).run Try.prog w = .ok (.agg #[.string ByteArray.empty, .int .i64 0]) w := by kernel_rfl
section
variable {ops : Array Oper} {rest : List Oper} {o : Oper} {a : Act} {w : World} {Q : Exit → Act → World → Prop}
theorem lookup_some (hg : o.guard = none) (m x : Operand) (hop : o.op = Op.lookup 54 m x true) (b n : Nat) (l : List FileIn) (hm : a.eval m = .map (some b)) (hown : w.ownsMap Try.prog 9 fileElem b n (datum l))
    (s : ByteArray) (hx : a.eval x = .string s) (hs : s.size ≤ 1000000000) {f : FileIn} (hf : find s.data.toList l = some f) (h : wpList Try.prog ops Q rest (a.put o.dst (.tuple #[.agg #[.string ⟨f.by'.toArray⟩, .int .i64 f.sure], .bool true])) w) : wpList Try.prog ops Q (o :: rest) a w :=
  wpList_lookup_own_ok w hg m x 54 hop 9 82 law Try.underlying54 fileElem (zeroF w) _ [] (fileElem_mk [] 0 []) b n _ hm hown _ (.string s.data.toList) hx (Go.WideMaps.keyOf_string_mk Try.underlying9 (by unfold maxLen; omega)) fun v ps hv => by
    rw [datum_at, hf] at hv
    obtain ⟨rfl, _⟩ := fileElem_inv hv
    rw [datum_has, hf]
    exact h
theorem lookup_none (hg : o.guard = none) (m x : Operand) (hop : o.op = Op.lookup 54 m x true) (b n : Nat) (l : List FileIn) (hm : a.eval m = .map (some b)) (hown : w.ownsMap Try.prog 9 fileElem b n (datum l))
    (s : ByteArray) (hx : a.eval x = .string s) (hs : s.size ≤ 1000000000) (hf : find s.data.toList l = none) (h : wpList Try.prog ops Q rest (a.put o.dst (.tuple #[.agg #[.string ⟨#[]⟩, .int .i64 0], .bool false])) w) : wpList Try.prog ops Q (o :: rest) a w :=
  wpList_lookup_own_ok w hg m x 54 hop 9 82 law Try.underlying54 fileElem (zeroF w) _ [] (fileElem_mk [] 0 []) b n _ hm hown _ (.string s.data.toList) hx (Go.WideMaps.keyOf_string_mk Try.underlying9 (by unfold maxLen; omega)) fun v ps hv => by
    rw [datum_at, hf] at hv
    obtain ⟨rfl, _⟩ := fileElem_inv (f := ⟨[], [], 0⟩) hv
    rw [datum_has, hf]
    exact h
end
theorem size_file (x y : Value) : (Try.prog.info? 82).map (·.size) = some (#[x, y] : Array Value).size := by kernel_rfl
theorem ret_file {fn : Func} {p q : Tmp} (h : fn.results = #[.cell p 82, ResultVar.tmp q]) (tmps : Array Value) (w : World) (g : Nat) (x y b : Value)
    (hp : tmps.getD p undef = .pointer (some ⟨g, 0, none⟩)) (hq : tmps.getD q undef = b) (hg : w.heap[g]? = some (.cells #[x, y] 82 (0, 0))) :
    (results fn tmps).run Try.prog w = .ok (.tuple #[.agg #[x, y], b]) w := by
  have hp' : tmps[p]?.getD undef = .pointer (some ⟨g, 0, none⟩) := by simpa using hp
  have hq' : tmps[q]?.getD undef = b := by simpa using hq
  rw [results_cell_tmp h]
  simp [hp', hq', asAddr, run_loadVar_row _ _ _ _ #[x, y] _ _ hg Try.underlying82 rfl (size_file x y)]
theorem below_setRow {k : Nat} {a b : World} (h : Below k a b) (g : Nat) (hg : k ≤ g) (cs : Array Value) : Below k a (b.setRow g cs) := by
  refine ⟨h.os, h.tape, h.output, ?_, fun j hj => ?_⟩
  · have := h.size
    simpa [World.setRow] using this
  · rw [← h.block j hj]
    simp [World.setRow, Array.getElem?_modify]
    omega
set_option maxRecDepth 100000 in
theorem dead_any (w : World) (g m n : Nat) (d : DkIn) (h : PD w g m n d) : Calls Try.prog 21 #[.pointer (some ⟨g, 0, none⟩)] w fun e w' => e = .returned (.bool d.dead) ∧ w = w' := by
  have CG : Hid (Calls Try.prog 43 #[.pointer (some ⟨g, 0, none⟩)] w fun e w' => e = .returned (.bool true) ∧ w = w') := given_any w g m n d h
  obtain ⟨c0, c1, c2, c3, c4, c5⟩ := h.cells
  clear h
  go_enter Try.func21, Try.ntmps21
  go_wp2_with (go_at_call 43; (with_reducible refine CG.out.mono ?_); rintro e w2 ⟨rfl, rfl⟩)
  go_ret
  exact ⟨rfl, rfl⟩
/-- What there answers. -/
def thereV (d : DkIn) (s : List UInt8) : FileIn × Int := if d.dead then (⟨[], [], 0⟩, 14) else match find s d.files with
  | none => (⟨[], [], 0⟩, 3)
  | some f => (f, 0)
set_option maxRecDepth 100000 in
set_option maxHeartbeats 1000000 in
theorem there_any (w : World) (g m n : Nat) (d : DkIn) (h : PD w g m n d) (s : ByteArray) (hs : s.size ≤ 1000000000) : Calls Try.prog 48 #[.pointer (some ⟨g, 0, none⟩), .string s] w fun e w' => e = .returned (.tuple #[.agg #[.string ⟨(thereV d s.data.toList).1.by'.toArray⟩, .int .i64 (thereV d s.data.toList).1.sure], .int .i64 (thereV d s.data.toList).2]) ∧ Below w.heap.size w w' := by
  have HP := Lib.hid h
  have CW : Hid (∀ W, PD W g m n d → Calls Try.prog 45 #[.pointer (some ⟨g, 0, none⟩)] W fun e w' => e = .returned (.int .i64 (if d.dead then 14 else 0)) ∧ W = w') := fun W h => wakes_any W g m n d h
  have HP1 := Lib.hid (h.below (below_al (Below.refl w.heap.size w) (.cells #[.string ⟨#[]⟩, .int .i64 0] 82)))
  have hc := HP1.out.cells
  clear h
  cases hd : d.dead with
  | true =>
    have e : thereV d s.data.toList = (⟨[], [], 0⟩, 14) := by unfold thereV; rw [hd]; rfl
    rw [e]
    rw [hd] at CW
    go_enter Try.func48, Try.ntmps48
    go_wp2_with (go_at_call 45; (refine (CW.out _ HP1.out).mono ?_); rintro e w2 ⟨rfl, rfl⟩)
    refine bodyPost_ret (v := .tuple #[.agg #[.string ⟨#[]⟩, .int .i64 0], .int .i64 14]) (ret_file rfl _ _ w.heap.size _ _ _ rfl rfl ?_) rfl ⟨rfl, ?_⟩
    · exact heap_alloc_new w _
    · exact below_al (Below.refl _ _) _
  | false =>
    rw [hd] at CW
    cases hf : find s.data.toList d.files with
    | none =>
      have e : thereV d s.data.toList = (⟨[], [], 0⟩, 3) := by unfold thereV; rw [hd, hf]; rfl
      rw [e]
      go_enter Try.func48, Try.ntmps48
      go_wp2_with (first
        | (go_at_call 45; (refine (CW.out _ HP1.out).mono ?_); rintro e w2 ⟨rfl, rfl⟩; obtain ⟨c0, -⟩ := hc)
        | (at_lookup; refine lookup_none rfl (.tmp 19) (.tmp 20) rfl m n d.files rfl HP1.out.own s rfl hs hf ?_))
      refine bodyPost_ret (v := .tuple #[.agg #[.string ⟨#[]⟩, .int .i64 0], .int .i64 3]) (ret_file rfl _ _ w.heap.size _ _ _ rfl rfl ?_) rfl ⟨rfl, ?_⟩
      · exact (heap_alloc_old _ _ (by simp)).trans (heap_alloc_new w _)
      · exact below_al (below_al (Below.refl _ _) _) _
    | some f =>
      have e : thereV d s.data.toList = (f, 0) := by unfold thereV; rw [hd, hf]; rfl
      rw [e]
      go_enter Try.func48, Try.ntmps48
      go_wp2_with (first
        | (go_at_call 45; (refine (CW.out _ HP1.out).mono ?_); rintro e w2 ⟨rfl, rfl⟩; obtain ⟨c0, -⟩ := hc)
        | (at_lookup; refine lookup_some rfl (.tmp 19) (.tmp 20) rfl m n d.files rfl HP1.out.own s rfl hs hf ?_))
      refine bodyPost_ret (v := .tuple #[.agg #[.string ⟨f.by'.toArray⟩, .int .i64 f.sure], .int .i64 0]) (ret_file rfl _ _ w.heap.size _ _ _ rfl rfl ?_) rfl ⟨rfl, ?_⟩
      · exact (heap_alloc_old _ _ (by simp)).trans (heap_alloc_new w _)
      · exact below_al (below_al (Below.refl _ _) _) _
theorem there_read (d : DkIn) (s : List UInt8) : readV d s = ((thereV d s).1.by', (thereV d s).2) := by
  unfold readV thereV
  cases d.dead with
  | true => rfl
  | false =>
    cases find s d.files with
    | none => rfl
    | some f => rfl
set_option maxRecDepth 100000 in
theorem read_any (w : World) (g m n : Nat) (d : DkIn) (h : PD w g m n d) (s : ByteArray) (hs : s.size ≤ 1000000000) : Calls Try.prog 22 #[.pointer (some ⟨g, 0, none⟩), .string s] w fun e w' => e = .returned (.tuple #[.string ⟨(readV d s.data.toList).1.toArray⟩, .int .i64 (readV d s.data.toList).2]) ∧ Below w.heap.size w w' := by
  have CT : Hid (Calls Try.prog 48 #[.pointer (some ⟨g, 0, none⟩), .string s] w fun e w' => e = .returned (.tuple #[.agg #[.string ⟨(thereV d s.data.toList).1.by'.toArray⟩, .int .i64 (thereV d s.data.toList).1.sure], .int .i64 (thereV d s.data.toList).2]) ∧ Below w.heap.size w w') := there_any w g m n d h s hs
  rw [there_read]
  generalize thereV d s.data.toList = T at *
  clear h
  go_enter Try.func22, Try.ntmps22
  go_wp2_with (go_at_call 48; (with_reducible refine CT.out.mono ?_); rintro e w2 ⟨rfl, hb⟩; have HB := Lib.hid hb; clear hb)
  go_ret2
  exact ⟨rfl, below_al HB.out _⟩
end Dsk
end Go.Proofs.Yteaikleofboknaa
end
section
namespace Go.Proofs.Yteaikleofboknaa
open Go.RowKit Go.Great Go.Maps
namespace Dsk
/-- A load is taken first; the place that it writes is named. -/
theorem take_at {P : Program} {ops : Array Oper} {Q : Exit → Act → World → Prop} {md : Region.Mode} {S : World → Prop} {l : List Nat} {i : Nat} {oi : Oper} {v : Value} {fuel : Nat} {listed : Array Bool} {a : Act} {w : World} (t : Tmp) (hi : ops[i]? = some oi) (ht : oi.dst = some t)
    (hs : Region.noSelect ops = true) (hf : Region.free md ops listed i = true) (hr : (Region.ready md ops listed).contains i = true)
    (hd : l.all (fun j => (Ord.desc md ops i).contains j) = true) (hw : Ord.waits md ops (Ord.among (Ord.desc md ops i)) i = true) (hl : (Ord.desc md ops i).all (fun j => decide (j < listed.size)) = true) (ha : Ord.ahead (Ord.among (Ord.desc md ops i)) listed.size listed = true)
    (hQ : ∀ c a w, Q (.panic c) (a.put oi.dst v) w → Q (.panic c) a w) (hy : YieldsIf P ops S oi v a) (hS : S w)
    (h : Ord.wpAnyU P md ops Q S (Ord.among l) fuel (listed.setIfInBounds i true) (a.put (some t) v) w) : Ord.wpAnyU P md ops Q S (Ord.among l) (fuel + 1) listed a w :=
  Ord.wpAnyU_take hi hs hf hr hd hw hl ha hQ hy hS (by rw [ht]; exact h)

/-- A file is put into the map, in a region that draws its order. -/
theorem one_upd {o : Oper} {a : Act} {w : World} {K : Act → World → Prop} {Q : Exit → Act → World → Prop} (m x v : Operand) (hop : o.op = Op.mapUpdate 54 m x v) (hd : o.dst = none) (b n : Nat) (l : List FileIn) (hn : n < 1000000)
    (hm : a.eval m = .map (some b)) (hown : w.ownsMap Try.prog 9 fileElem b n (datum l)) (s : ByteArray) (hx : a.eval x = .string s) (hs : s.size ≤ 1000000000) (c : List UInt8) (k : Nat) (hv : a.eval v = .agg #[.string ⟨c.toArray⟩, .int .i64 (k : Int)])
    (hK : ∀ w', w'.ownsMap Try.prog 9 fileElem b (n + 1) (datum (putF ⟨s.data.toList, c, k⟩ l)) → w.grownBy w' (some b) → K a w') : o.wp Try.prog a w K Q := by
  obtain ⟨w', hrun, r1, r2⟩ := hown.update law Try.underlying54 (by unfold maxLen; omega) (WideMaps.keyOf_string_mk Try.underlying9 (s := s) (by unfold maxLen; omega)) (fileElem_mk c k s.data.toList)
  rw [datum_put ⟨s.data.toList, c, k⟩ l] at r1
  unfold Oper.wp
  simp [execOp, hop, hm, hx, hv, hrun, Result.andThen]
  show K (a.put o.dst undef) w'
  rw [hd]
  exact hK w' r1 r2
theorem PD.put {w w' : World} {g m n n' : Nat} {d : DkIn} {l : List FileIn} (h : PD w g m n d) (ho : w'.ownsMap Try.prog 9 fileElem m n' (datum l)) (hg : w.grownBy w' (some m)) : PD w' g m n' { d with files := l } :=
  ⟨h.row.of_block (hg.block g h.lt.1 fun e => h.ne (Option.some.inj e)), ho, h.ne⟩
theorem Dok.op {d : DkIn} (h : Dok d) (hs : d.ops < 1000000000) : Dok (opV d).2.2 := by
  refine ⟨by rw [op_files]; exact h.fok, by rw [op_room]; exact h.room, ?_, ?_⟩
  · have := h.ops
    unfold opV
    dsimp only
    split
    · show 0 ≤ d.ops + 1 ∧ d.ops + 1 ≤ 1000000000
      omega
    · split
      · show 0 ≤ d.ops + 1 ∧ d.ops + 1 ≤ 1000000000
        omega
      · show 0 ≤ d.ops + 1 ∧ d.ops + 1 ≤ 1000000000
        omega
  · have := h.last
    unfold opV
    dsimp only
    split
    · exact h.last
    · split
      · show 0 ≤ d.last - 1 ∧ d.last - 1 ≤ _
        omega
      · show 0 ≤ d.last - 1 ∧ d.last - 1 ≤ _
        omega
/-- Of the blocks that were there none has turned but those of a disk. -/
structure Bx (g m : Nat) (a b : World) : Prop where
  os : b.os = a.os
  tape : b.tape = a.tape
  output : b.output = a.output
  size : a.heap.size ≤ b.heap.size
  block : ∀ k, k < a.heap.size → k ≠ g → k ≠ m → b.heap[k]? = a.heap[k]?
theorem Bx.below {g m : Nat} {a b : World} (h : Below a.heap.size a b) : Bx g m a b := ⟨h.os, h.tape, h.output, h.size, fun k hk _ _ => h.block k hk⟩
theorem Bx.refl (g m : Nat) (a : World) : Bx g m a a := ⟨rfl, rfl, rfl, Nat.le_refl _, fun _ _ _ _ => rfl⟩
theorem Bx.trans {g m : Nat} {a b c : World} (h : Bx g m a b) (h2 : Bx g m b c) : Bx g m a c :=
  ⟨h2.os.trans h.os, h2.tape.trans h.tape, h2.output.trans h.output, Nat.le_trans h.size h2.size, fun k hk h3 h4 => (h2.block k (Nat.lt_of_lt_of_le hk h.size) h3 h4).trans (h.block k hk h3 h4)⟩
theorem Bx.grown {g m : Nat} {a b : World} {o : Option Nat} (h : a.grownBy b o) (ho : ∀ k, o = some k → k = g ∨ k = m) : Bx g m a b :=
  ⟨h.os, h.tape, h.output, h.size, fun k hk h3 h4 => h.block k hk fun e => by rcases ho k e.symm with e | e; exact h3 e; exact h4 e⟩
set_option maxRecDepth 100000 in
set_option maxHeartbeats 2000000 in
theorem sync_any (w : World) (g m n : Nat) (d : DkIn) (h : PD w g m n d) (hd : Dok d) (hn : n < 1000000) (s : ByteArray) (hs : s.size ≤ 1000000000) : Calls Try.prog 34 #[.pointer (some ⟨g, 0, none⟩), .string s] w fun e w' => e = .returned (.int .i64 (syncV d s.data.toList).1) ∧ Hid (PD w' g m (n + 1) (syncV d s.data.toList).2) ∧ Hid (Bx g m w w') := by
  have CT : Hid (Calls Try.prog 48 #[.pointer (some ⟨g, 0, none⟩), .string s] w fun e w' => e = .returned (.tuple #[.agg #[.string ⟨(thereV d s.data.toList).1.by'.toArray⟩, .int .i64 (thereV d s.data.toList).1.sure], .int .i64 (thereV d s.data.toList).2]) ∧ Below w.heap.size w w') := there_any w g m n d h s hs
  have CB : Hid (∀ W, PD W g m n d → Calls Try.prog 57 #[.pointer (some ⟨g, 0, none⟩)] W fun e w' => e = .returned (.tuple #[.bool (opV d).1, .int .i64 (opV d).2.1]) ∧ Hid (PD w' g m n (opV d).2.2) ∧ Hid (W.grownBy w' (some g))) := fun W h => begins_any W g m n d h hd
  have HP := Lib.hid h
  have up : ∀ {W : World} {d : DkIn}, PD W g m n d → PD W g m (n + 1) d := fun h => ⟨h.row, h.own.mono (by omega), h.ne⟩
  clear h
  by_cases ht : (thereV d s.data.toList).2 = 0
  · obtain ⟨f, hf, e1, e2⟩ : ∃ f, find s.data.toList d.files = some f ∧ thereV d s.data.toList = (f, 0) ∧ d.dead = false := by
      unfold thereV at ht ⊢
      cases hdd : d.dead with
      | true => rw [hdd] at ht; cases ht
      | false =>
        cases hff : find s.data.toList d.files with
        | none => rw [hdd, hff] at ht; cases ht
        | some f => exact ⟨f, rfl, rfl, rfl⟩
    have e3 : syncV d s.data.toList = ((opV d).2.1, if (opV d).1 then { (opV d).2.2 with files := putF ⟨s.data.toList, f.by', f.by'.length⟩ (opV d).2.2.files } else (opV d).2.2) := by
      unfold syncV
      rw [e2, if_neg (by decide), hf]
    rw [e3]
    rw [e1] at CT
    clear e3 e1 ht hf
    obtain ⟨r, hr⟩ : ∃ r, Hid (opV d = r) := ⟨_, rfl⟩
    rw [hr.out] at CB ⊢
    clear hr
    obtain ⟨r1, r2, r3⟩ := r
    dsimp only at CB ⊢
    cases r1 with
    | true =>
      rw [if_pos rfl]
      go_enter Try.func34, Try.ntmps34
      go_upto_region 6 with (first
        | (go_at_call 48; (with_reducible refine CT.out.mono ?_); rintro e w1 ⟨rfl, hb1⟩; have HB1 := Lib.hid hb1; have HP2 := Lib.hid ((HP.out.below hb1).below (below_al (Below.refl w1.heap.size w1) (.cells #[.string ⟨f.by'.toArray⟩, .int .i64 f.sure] 82))); have hc : (w1.alloc (.cells #[.string ⟨f.by'.toArray⟩, .int .i64 f.sure] 82)).cell? ⟨w1.heap.size, 0, none⟩ = some (.string ⟨f.by'.toArray⟩) := (by rw [World.cell?_alloc_at _ _ _ _ (by simp)]; rfl); have hmw := HP.out.lt; have hsz1 : w.heap.size ≤ w1.heap.size := HB1.out.size; clear hb1)
        | (go_at_call 57; (refine (CB.out _ HP2.out).mono ?_); rintro e w3 ⟨rfl, HP3, HG3⟩))
      have hgn : g ≠ w1.heap.size := by omega
      have hc3 : w3.cell? ⟨w1.heap.size, 0, none⟩ = some (.string ⟨f.by'.toArray⟩) := by
        unfold World.cell? at hc ⊢
        rw [HG3.out.block w1.heap.size (by simp) (fun e => hgn (Option.some.inj e).symm)]
        exact hc
      obtain ⟨c0, -⟩ := HP3.out.cells
      have hHeld : w3.drew.cell? ⟨g, 0, none⟩ = some (.map (some m)) ∧ w3.drew.cell? ⟨w1.heap.size, 0, none⟩ = some (.string ⟨f.by'.toArray⟩) := ⟨c0, hc3⟩
      have HO3 : Hid (w3.drew.ownsMap Try.prog 9 fileElem m n (datum r3.files)) := HP3.out.own.drew
      clear c0 hc hc3
      refine Ord.wp_region_U (fun W' => W'.cell? ⟨g, 0, none⟩ = some (.map (some m)) ∧ W'.cell? ⟨w1.heap.size, 0, none⟩ = some (.string ⟨f.by'.toArray⟩)) [11] (by kernel_rfl) ?_
      refine take_at (i := 0) (v := ?_) 23 rfl rfl (by kernel_rfl) (by kernel_rfl) (by kernel_rfl) (by kernel_rfl) (by kernel_rfl) (by kernel_rfl) (by kernel_rfl) (fun _ _ _ h => h) (Or.inl ⟨by kernel_rfl, ?_⟩) hHeld ?_
      rotate_left
      · intro w hSw; (try dsimp only at hSw); (try obtain ⟨f0, f1⟩ := hSw); go_simp; (try with_reducible rfl)
      try simp only [Act.put, List.setIfInBounds_toArray, List.set_cons_zero, List.set_cons_succ]
      refine take_at (i := 1) (v := ?_) 24 rfl rfl (by kernel_rfl) (by kernel_rfl) (by kernel_rfl) (by kernel_rfl) (by kernel_rfl) (by kernel_rfl) (by kernel_rfl) (fun _ _ _ h => h) (Or.inl ⟨by kernel_rfl, ?_⟩) hHeld ?_
      rotate_left
      · intro w hSw; (try dsimp only at hSw); (try obtain ⟨f0, f1⟩ := hSw); go_simp; (try with_reducible rfl)
      try simp only [Act.put, List.setIfInBounds_toArray, List.set_cons_zero, List.set_cons_succ]
      refine take_at (i := 2) (v := ?_) 25 rfl rfl (by kernel_rfl) (by kernel_rfl) (by kernel_rfl) (by kernel_rfl) (by kernel_rfl) (by kernel_rfl) (by kernel_rfl) (fun _ _ _ h => h) (Or.inl ⟨by kernel_rfl, ?_⟩) hHeld ?_
      rotate_left
      · intro w hSw; (try dsimp only at hSw); (try obtain ⟨f0, f1⟩ := hSw); go_simp; (try with_reducible rfl)
      try simp only [Act.put, List.setIfInBounds_toArray, List.set_cons_zero, List.set_cons_succ]
      refine take_at (i := 3) (v := ?_) 26 rfl rfl (by kernel_rfl) (by kernel_rfl) (by kernel_rfl) (by kernel_rfl) (by kernel_rfl) (by kernel_rfl) (by kernel_rfl) (fun _ _ _ h => h) (Or.inl ⟨by kernel_rfl, ?_⟩) hHeld ?_
      rotate_left
      · intro w hSw; (try dsimp only at hSw); (try obtain ⟨f0, f1⟩ := hSw); go_simp; (try with_reducible rfl)
      try simp only [Act.put, List.setIfInBounds_toArray, List.set_cons_zero, List.set_cons_succ]
      refine take_at (i := 4) (v := ?_) 27 rfl rfl (by kernel_rfl) (by kernel_rfl) (by kernel_rfl) (by kernel_rfl) (by kernel_rfl) (by kernel_rfl) (by kernel_rfl) (fun _ _ _ h => h) (Or.inl ⟨by kernel_rfl, ?_⟩) hHeld ?_
      rotate_left
      · intro w hSw; (try dsimp only at hSw); (try obtain ⟨f0, f1⟩ := hSw); go_simp; (try with_reducible rfl)
      try simp only [Act.put, List.setIfInBounds_toArray, List.set_cons_zero, List.set_cons_succ]
      refine take_at (i := 5) (v := ?_) 28 rfl rfl (by kernel_rfl) (by kernel_rfl) (by kernel_rfl) (by kernel_rfl) (by kernel_rfl) (by kernel_rfl) (by kernel_rfl) (fun _ _ _ h => h) (Or.inl ⟨by kernel_rfl, ?_⟩) hHeld ?_
      rotate_left
      · intro w hSw; (try dsimp only at hSw); (try obtain ⟨f0, f1⟩ := hSw); go_simp; (try with_reducible rfl)
      try simp only [Act.put, List.setIfInBounds_toArray, List.set_cons_zero, List.set_cons_succ]
      refine take_at (i := 6) (v := ?_) 29 rfl rfl (by kernel_rfl) (by kernel_rfl) (by kernel_rfl) (by kernel_rfl) (by kernel_rfl) (by kernel_rfl) (by kernel_rfl) (fun _ _ _ h => h) (Or.inl ⟨by kernel_rfl, ?_⟩) hHeld ?_
      rotate_left
      · intro w hSw; (try dsimp only at hSw); (try obtain ⟨f0, f1⟩ := hSw); go_simp; (try with_reducible rfl)
      try simp only [Act.put, List.setIfInBounds_toArray, List.set_cons_zero, List.set_cons_succ]
      refine take_at (i := 7) (v := ?_) 30 rfl rfl (by kernel_rfl) (by kernel_rfl) (by kernel_rfl) (by kernel_rfl) (by kernel_rfl) (by kernel_rfl) (by kernel_rfl) (fun _ _ _ h => h) (Or.inl ⟨by kernel_rfl, ?_⟩) hHeld ?_
      rotate_left
      · intro w hSw; (try dsimp only at hSw); (try obtain ⟨f0, f1⟩ := hSw); go_simp; (try with_reducible rfl)
      try simp only [Act.put, List.setIfInBounds_toArray, List.set_cons_zero, List.set_cons_succ]
      refine take_at (i := 8) (v := ?_) 31 rfl rfl (by kernel_rfl) (by kernel_rfl) (by kernel_rfl) (by kernel_rfl) (by kernel_rfl) (by kernel_rfl) (by kernel_rfl) (fun _ _ _ h => h) (Or.inl ⟨by kernel_rfl, ?_⟩) hHeld ?_
      rotate_left
      · intro w hSw; (try dsimp only at hSw); (try obtain ⟨f0, f1⟩ := hSw); go_simp; (try with_reducible rfl)
      try simp only [Act.put, List.setIfInBounds_toArray, List.set_cons_zero, List.set_cons_succ]
      refine take_at (i := 9) (v := ?_) 32 rfl rfl (by kernel_rfl) (by kernel_rfl) (by kernel_rfl) (by kernel_rfl) (by kernel_rfl) (by kernel_rfl) (by kernel_rfl) (fun _ _ _ h => h) (Or.inl ⟨by kernel_rfl, ?_⟩) hHeld ?_
      rotate_left
      · intro w hSw; (try dsimp only at hSw); (try obtain ⟨f0, f1⟩ := hSw); go_simp; (try with_reducible rfl)
      try simp only [Act.put, List.setIfInBounds_toArray, List.set_cons_zero, List.set_cons_succ]
      refine take_at (i := 10) (v := ?_) 33 rfl rfl (by kernel_rfl) (by kernel_rfl) (by kernel_rfl) (by kernel_rfl) (by kernel_rfl) (by kernel_rfl) (by kernel_rfl) (fun _ _ _ h => h) (Or.inl ⟨by kernel_rfl, ?_⟩) hHeld ?_
      rotate_left
      · intro w hSw; (try dsimp only at hSw); (try obtain ⟨f0, f1⟩ := hSw); go_simp; (try with_reducible rfl)
      try simp only [Act.put, List.setIfInBounds_toArray, List.set_cons_zero, List.set_cons_succ]
      refine Ord.wpAnyU_one (i := 11) (by kernel_rfl) rfl (fun K hK => ?_)
      rw [if_pos (by rfl)]
      refine one_upd (.tmp 26) (.tmp 27) (.tmp 33) rfl rfl m n r3.files hn rfl HO3.out s rfl hs f.by' f.by'.length rfl ?_
      intro w4 ho4 hg4
      have HP4 := Lib.hid (PD.put (w := w3.drew) (w' := w4) (d := r3) ⟨World.rowIs.drew HP3.out.row, HO3.out, HP3.out.ne⟩ ho4 hg4)
      have HG4 := Lib.hid hg4
      clear ho4 hg4
      refine hK.out _ _ (fun h => by cases h) ?_
      clear hK K
      try simp only [Act.put, List.setIfInBounds_toArray, List.set_cons_zero, List.set_cons_succ]
      refine Ord.wpAnyU_done (by kernel_rfl) ?_ _
      go_wp2
      go_ret
      exact ⟨rfl, HP4.out, (Bx.below (below_al HB1.out _)).trans ((Bx.grown HG3.out fun k e => Or.inl (Option.some.inj e).symm).trans (Bx.grown (a := w3) ⟨HG4.out.os, HG4.out.tape, HG4.out.output, HG4.out.size, HG4.out.block⟩ fun k e => Or.inr (Option.some.inj e).symm))⟩
    | false =>
      rw [if_neg (by decide)]
      go_enter Try.func34, Try.ntmps34
      go_wp2_with (first
        | (go_at_call 48; (with_reducible refine CT.out.mono ?_); rintro e w1 ⟨rfl, hb1⟩; have HB1 := Lib.hid hb1; have HP2 := Lib.hid ((HP.out.below hb1).below (below_al (Below.refl w1.heap.size w1) (.cells #[.string ⟨f.by'.toArray⟩, .int .i64 f.sure] 82))); clear hb1)
        | (go_at_call 57; (refine (CB.out _ HP2.out).mono ?_); rintro e w3 ⟨rfl, HP3, HG3⟩))
      go_ret
      exact ⟨rfl, up HP3.out, (Bx.below (below_al HB1.out _)).trans (Bx.grown HG3.out fun k e => Or.inl (Option.some.inj e).symm)⟩
  · have e3 : syncV d s.data.toList = ((thereV d s.data.toList).2, d) := by
      unfold syncV thereV at *
      cases hdd : d.dead with
      | true => rfl
      | false =>
        cases hff : find s.data.toList d.files with
        | none => rfl
        | some f => rw [hdd, hff] at ht; exact absurd rfl ht
    rw [e3]
    generalize thereV d s.data.toList = T at *
    have dt : (T.2 != 0) = true := bne_iff_ne.2 ht
    go_enter Try.func34, Try.ntmps34
    go_wp2_with (go_at_call 48; (with_reducible refine CT.out.mono ?_); rintro e w1 ⟨rfl, hb1⟩; have HB1 := Lib.hid hb1; clear hb1)
    go_ret
    exact ⟨rfl, up ((HP.out.below HB1.out).below (below_al (Below.refl _ _) _)), Bx.below (below_al HB1.out _)⟩
end Dsk
end Go.Proofs.Yteaikleofboknaa
end
section
namespace Go.Proofs.Yteaikleofboknaa
open Go.RowKit Go.Great Go.Maps
namespace Dsk
set_option maxRecDepth 100000 in
set_option maxHeartbeats 4000000 in
theorem cut_any (w : World) (g m n : Nat) (d : DkIn) (h : PD w g m n d) (hd : Dok d) (hn : n < 1000000) (s : ByteArray) (hs : s.size ≤ 1000000000) (z : Int) (hl : ∀ f ∈ d.files, f.by'.length ≤ 1000000000) : Calls Try.prog 27 #[.pointer (some ⟨g, 0, none⟩), .string s, .int .i64 z] w fun e w' => e = .returned (.int .i64 (cutV d s.data.toList z).1) ∧ Hid (PD w' g m (n + 1) (cutV d s.data.toList z).2) ∧ Hid (Bx g m w w') := by
  have CT : Hid (Calls Try.prog 48 #[.pointer (some ⟨g, 0, none⟩), .string s] w fun e w' => e = .returned (.tuple #[.agg #[.string ⟨(thereV d s.data.toList).1.by'.toArray⟩, .int .i64 (thereV d s.data.toList).1.sure], .int .i64 (thereV d s.data.toList).2]) ∧ Below w.heap.size w w') := there_any w g m n d h s hs
  have CB : Hid (∀ W, PD W g m n d → Calls Try.prog 57 #[.pointer (some ⟨g, 0, none⟩)] W fun e w' => e = .returned (.tuple #[.bool (opV d).1, .int .i64 (opV d).2.1]) ∧ Hid (PD w' g m n (opV d).2.2) ∧ Hid (W.grownBy w' (some g))) := fun W h => begins_any W g m n d h hd
  have HP := Lib.hid h
  have up : ∀ {W : World} {d : DkIn}, PD W g m n d → PD W g m (n + 1) d := fun h => ⟨h.row, h.own.mono (by omega), h.ne⟩
  clear h
  by_cases ht : (thereV d s.data.toList).2 = 0
  · obtain ⟨f, hf, e1, e2⟩ : ∃ f, find s.data.toList d.files = some f ∧ thereV d s.data.toList = (f, 0) ∧ d.dead = false := by
      unfold thereV at ht ⊢
      cases hdd : d.dead with
      | true => rw [hdd] at ht; cases ht
      | false =>
        cases hff : find s.data.toList d.files with
        | none => rw [hdd, hff] at ht; cases ht
        | some f => exact ⟨f, rfl, rfl, rfl⟩
    have hfl : f.by'.length ≤ 1000000000 := hl f ((find_some hd.fok.rise _ f).1 hf).1
    have hsz : (ByteArray.mk f.by'.toArray).size = f.by'.length := by simp [ByteArray.size]
    by_cases hz : z < 0 ∨ (f.by'.length : Int) < z
    · have e3 : cutV d s.data.toList z = (1, d) := by
        unfold cutV
        rw [e2, if_neg (by decide), hf]
        exact if_pos hz
      rw [e3]
      rw [e1] at CT
      clear e3 e1 ht hf
      by_cases h0 : z < 0
      · have d0 : decide (z < 0) = true := decide_eq_true h0
        go_enter Try.func27, Try.ntmps27
        go_wp2_with (first
          | (go_at_call 48; (with_reducible refine CT.out.mono ?_); rintro e w1 ⟨rfl, hb1⟩; have HB1 := Lib.hid hb1; have HP2 := Lib.hid ((HP.out.below hb1).below (below_al (Below.refl w1.heap.size w1) (.cells #[.string ⟨f.by'.toArray⟩, .int .i64 f.sure] 82))); have hc : (w1.alloc (.cells #[.string ⟨f.by'.toArray⟩, .int .i64 f.sure] 82)).cell? ⟨w1.heap.size, 0, none⟩ = some (.string ⟨f.by'.toArray⟩) := (by rw [World.cell?_alloc_at _ _ _ _ (by simp)]; rfl); have hmw := HP.out.lt; have hsz1 : w.heap.size ≤ w1.heap.size := HB1.out.size; obtain ⟨hc, hcs⟩ : _ ∧ (w1.alloc (.cells #[.string ⟨f.by'.toArray⟩, .int .i64 f.sure] 82)).cell? ⟨w1.heap.size, 1, none⟩ = some (.int .i64 f.sure) := ⟨hc, (by rw [World.cell?_alloc_at _ _ _ _ (by simp)]; rfl)⟩; clear hb1))
        go_ret
        exact ⟨rfl, up HP2.out, Bx.below (below_al HB1.out _)⟩
      · have d0 : decide (z < 0) = false := decide_eq_false h0
        have h1 : (f.by'.length : Int) < z := hz.resolve_left h0
        have d1 : decide ((f.by'.length : Int) < z) = true := decide_eq_true h1
        go_enter Try.func27, Try.ntmps27
        go_wp2_with (first
          | (go_at_call 48; (with_reducible refine CT.out.mono ?_); rintro e w1 ⟨rfl, hb1⟩; have HB1 := Lib.hid hb1; have HP2 := Lib.hid ((HP.out.below hb1).below (below_al (Below.refl w1.heap.size w1) (.cells #[.string ⟨f.by'.toArray⟩, .int .i64 f.sure] 82))); have hc : (w1.alloc (.cells #[.string ⟨f.by'.toArray⟩, .int .i64 f.sure] 82)).cell? ⟨w1.heap.size, 0, none⟩ = some (.string ⟨f.by'.toArray⟩) := (by rw [World.cell?_alloc_at _ _ _ _ (by simp)]; rfl); have hmw := HP.out.lt; have hsz1 : w.heap.size ≤ w1.heap.size := HB1.out.size; obtain ⟨hc, hcs⟩ : _ ∧ (w1.alloc (.cells #[.string ⟨f.by'.toArray⟩, .int .i64 f.sure] 82)).cell? ⟨w1.heap.size, 1, none⟩ = some (.int .i64 f.sure) := ⟨hc, (by rw [World.cell?_alloc_at _ _ _ _ (by simp)]; rfl)⟩; clear hb1))
        go_ret
        exact ⟨rfl, up HP2.out, Bx.below (below_al HB1.out _)⟩
    · obtain ⟨N, rfl⟩ : ∃ N : Nat, z = N := ⟨z.toNat, by omega⟩
      have hN : N ≤ f.by'.length := by omega
      have e3 : cutV d s.data.toList N = ((opV d).2.1, if (opV d).1 then { (opV d).2.2 with files := putF ⟨s.data.toList, f.by'.take N, min f.sure N⟩ (opV d).2.2.files } else (opV d).2.2) := by
        unfold cutV
        rw [e2, if_neg (by decide), hf]
        dsimp only
        rw [if_neg hz, Int.toNat_natCast]
      rw [e3]
      rw [e1] at CT
      have h0 : ¬ (N : Int) < 0 := by omega
      have d0 : decide ((N : Int) < 0) = false := decide_eq_false h0
      have h1 : ¬ (f.by'.length : Int) < (N : Int) := by omega
      have d1 : decide ((f.by'.length : Int) < (N : Int)) = false := decide_eq_false h1
      have hN1 : (N : Int) ≤ (f.by'.length : Int) := by omega
      have hN0 : (0 : Int) ≤ (N : Int) := by omega
      have qx : (ByteArray.mk f.by'.toArray).extract 0 N = ⟨(f.by'.take N).toArray⟩ := by
        apply ByteArray.ext
        simp [ByteArray.extract, ByteArray.copySlice]
      have qm : min (f.sure : Int) (N : Int) = ((min f.sure N : Nat) : Int) := by omega
      clear e3 e1 ht hf hz
      obtain ⟨r, hr⟩ : ∃ r, Hid (opV d = r) := ⟨_, rfl⟩
      rw [hr.out] at CB ⊢
      clear hr
      obtain ⟨r1, r2, r3⟩ := r
      dsimp only at CB ⊢
      cases r1 with
      | true =>
        rw [if_pos rfl]
        go_enter Try.func27, Try.ntmps27
        go_upto_region 8 with (first
        | (go_at_call 48; (with_reducible refine CT.out.mono ?_); rintro e w1 ⟨rfl, hb1⟩; have HB1 := Lib.hid hb1; have HP2 := Lib.hid ((HP.out.below hb1).below (below_al (Below.refl w1.heap.size w1) (.cells #[.string ⟨f.by'.toArray⟩, .int .i64 f.sure] 82))); have hc : (w1.alloc (.cells #[.string ⟨f.by'.toArray⟩, .int .i64 f.sure] 82)).cell? ⟨w1.heap.size, 0, none⟩ = some (.string ⟨f.by'.toArray⟩) := (by rw [World.cell?_alloc_at _ _ _ _ (by simp)]; rfl); have hmw := HP.out.lt; have hsz1 : w.heap.size ≤ w1.heap.size := HB1.out.size; obtain ⟨hc, hcs⟩ : _ ∧ (w1.alloc (.cells #[.string ⟨f.by'.toArray⟩, .int .i64 f.sure] 82)).cell? ⟨w1.heap.size, 1, none⟩ = some (.int .i64 f.sure) := ⟨hc, (by rw [World.cell?_alloc_at _ _ _ _ (by simp)]; rfl)⟩; clear hb1)
        | (go_at_call 57; (refine (CB.out _ HP2.out).mono ?_); rintro e w3 ⟨rfl, HP3, HG3⟩))
        have hgn : g ≠ w1.heap.size := by omega
        have hc3 : w3.cell? ⟨w1.heap.size, 0, none⟩ = some (.string ⟨f.by'.toArray⟩) := by
          unfold World.cell? at hc ⊢
          rw [HG3.out.block w1.heap.size (by simp) (fun e => hgn (Option.some.inj e).symm)]
          exact hc
        have hd3 : w3.cell? ⟨w1.heap.size, 1, none⟩ = some (.int .i64 f.sure) := by
          unfold World.cell? at hcs ⊢
          rw [HG3.out.block w1.heap.size (by simp) (fun e => hgn (Option.some.inj e).symm)]
          exact hcs
        obtain ⟨c0, -⟩ := HP3.out.cells
        have hHeld : w3.drew.cell? ⟨g, 0, none⟩ = some (.map (some m)) ∧ w3.drew.cell? ⟨w1.heap.size, 0, none⟩ = some (.string ⟨f.by'.toArray⟩) ∧ w3.drew.cell? ⟨w1.heap.size, 1, none⟩ = some (.int .i64 f.sure) := ⟨c0, hc3, hd3⟩
        have HO3 : Hid (w3.drew.ownsMap Try.prog 9 fileElem m n (datum r3.files)) := HP3.out.own.drew
        clear c0 hc hc3 hd3 hcs
        refine Ord.wp_region_U (fun W' => W'.cell? ⟨g, 0, none⟩ = some (.map (some m)) ∧ W'.cell? ⟨w1.heap.size, 0, none⟩ = some (.string ⟨f.by'.toArray⟩) ∧ W'.cell? ⟨w1.heap.size, 1, none⟩ = some (.int .i64 f.sure)) [14] (by kernel_rfl) ?_
        refine take_at (i := 0) (v := ?_) 36 rfl rfl (by kernel_rfl) (by kernel_rfl) (by kernel_rfl) (by kernel_rfl) (by kernel_rfl) (by kernel_rfl) (by kernel_rfl) (fun _ _ _ h => h) (Or.inl ⟨by kernel_rfl, ?_⟩) hHeld ?_
        rotate_left
        · intro w hSw; (try dsimp only at hSw); (try obtain ⟨f0, f1, f2⟩ := hSw); go_simp; (try with_reducible rfl)
        try simp only [Act.put, List.setIfInBounds_toArray, List.set_cons_zero, List.set_cons_succ]
        refine take_at (i := 1) (v := ?_) 37 rfl rfl (by kernel_rfl) (by kernel_rfl) (by kernel_rfl) (by kernel_rfl) (by kernel_rfl) (by kernel_rfl) (by kernel_rfl) (fun _ _ _ h => h) (Or.inl ⟨by kernel_rfl, ?_⟩) hHeld ?_
        rotate_left
        · intro w hSw; (try dsimp only at hSw); (try obtain ⟨f0, f1, f2⟩ := hSw); go_simp; (try with_reducible rfl)
        try simp only [Act.put, List.setIfInBounds_toArray, List.set_cons_zero, List.set_cons_succ]
        refine take_at (i := 2) (v := ?_) 38 rfl rfl (by kernel_rfl) (by kernel_rfl) (by kernel_rfl) (by kernel_rfl) (by kernel_rfl) (by kernel_rfl) (by kernel_rfl) (fun _ _ _ h => h) (Or.inl ⟨by kernel_rfl, ?_⟩) hHeld ?_
        rotate_left
        · intro w hSw; (try dsimp only at hSw); (try obtain ⟨f0, f1, f2⟩ := hSw); go_simp; (try with_reducible rfl)
        try simp only [Act.put, List.setIfInBounds_toArray, List.set_cons_zero, List.set_cons_succ]
        refine take_at (i := 3) (v := ?_) 39 rfl rfl (by kernel_rfl) (by kernel_rfl) (by kernel_rfl) (by kernel_rfl) (by kernel_rfl) (by kernel_rfl) (by kernel_rfl) (fun _ _ _ h => h) (Or.inl ⟨by kernel_rfl, ?_⟩) hHeld ?_
        rotate_left
        · intro w hSw; (try dsimp only at hSw); (try obtain ⟨f0, f1, f2⟩ := hSw); go_simp; (try with_reducible rfl)
        try simp only [Act.put, List.setIfInBounds_toArray, List.set_cons_zero, List.set_cons_succ]
        refine take_at (i := 4) (v := ?_) 40 rfl rfl (by kernel_rfl) (by kernel_rfl) (by kernel_rfl) (by kernel_rfl) (by kernel_rfl) (by kernel_rfl) (by kernel_rfl) (fun _ _ _ h => h) (Or.inl ⟨by kernel_rfl, ?_⟩) hHeld ?_
        rotate_left
        · intro w hSw; (try dsimp only at hSw); (try obtain ⟨f0, f1, f2⟩ := hSw); go_simp; (try with_reducible rfl)
        try simp only [Act.put, List.setIfInBounds_toArray, List.set_cons_zero, List.set_cons_succ]
        refine take_at (i := 5) (v := ?_) 41 rfl rfl (by kernel_rfl) (by kernel_rfl) (by kernel_rfl) (by kernel_rfl) (by kernel_rfl) (by kernel_rfl) (by kernel_rfl) (fun _ _ _ h => h) (Or.inl ⟨by kernel_rfl, ?_⟩) hHeld ?_
        rotate_left
        · intro w hSw; (try dsimp only at hSw); (try obtain ⟨f0, f1, f2⟩ := hSw); go_simp; (try with_reducible rfl)
        try simp only [Act.put, List.setIfInBounds_toArray, List.set_cons_zero, List.set_cons_succ]
        refine take_at (i := 6) (v := ?_) 42 rfl rfl (by kernel_rfl) (by kernel_rfl) (by kernel_rfl) (by kernel_rfl) (by kernel_rfl) (by kernel_rfl) (by kernel_rfl) (fun _ _ _ h => h) (Or.inl ⟨by kernel_rfl, ?_⟩) hHeld ?_
        rotate_left
        · intro w hSw; (try dsimp only at hSw); (try obtain ⟨f0, f1, f2⟩ := hSw); go_simp; (try with_reducible rfl)
        try simp only [Act.put, List.setIfInBounds_toArray, List.set_cons_zero, List.set_cons_succ]
        refine take_at (i := 7) (v := ?_) 43 rfl rfl (by kernel_rfl) (by kernel_rfl) (by kernel_rfl) (by kernel_rfl) (by kernel_rfl) (by kernel_rfl) (by kernel_rfl) (fun _ _ _ h => h) (Or.inl ⟨by kernel_rfl, ?_⟩) hHeld ?_
        rotate_left
        · intro w hSw; (try dsimp only at hSw); (try obtain ⟨f0, f1, f2⟩ := hSw); go_simp; (try with_reducible rfl)
        try simp only [Act.put, List.setIfInBounds_toArray, List.set_cons_zero, List.set_cons_succ]
        refine take_at (i := 8) (v := ?_) 44 rfl rfl (by kernel_rfl) (by kernel_rfl) (by kernel_rfl) (by kernel_rfl) (by kernel_rfl) (by kernel_rfl) (by kernel_rfl) (fun _ _ _ h => h) (Or.inl ⟨by kernel_rfl, ?_⟩) hHeld ?_
        rotate_left
        · intro w hSw; (try dsimp only at hSw); (try obtain ⟨f0, f1, f2⟩ := hSw); go_simp; (try with_reducible rfl)
        try simp only [Act.put, List.setIfInBounds_toArray, List.set_cons_zero, List.set_cons_succ]
        refine take_at (i := 9) (v := ?_) 45 rfl rfl (by kernel_rfl) (by kernel_rfl) (by kernel_rfl) (by kernel_rfl) (by kernel_rfl) (by kernel_rfl) (by kernel_rfl) (fun _ _ _ h => h) (Or.inl ⟨by kernel_rfl, ?_⟩) hHeld ?_
        rotate_left
        · intro w hSw; (try dsimp only at hSw); (try obtain ⟨f0, f1, f2⟩ := hSw); go_simp; (try with_reducible rfl)
        try simp only [Act.put, List.setIfInBounds_toArray, List.set_cons_zero, List.set_cons_succ]
        refine take_at (i := 10) (v := ?_) 46 rfl rfl (by kernel_rfl) (by kernel_rfl) (by kernel_rfl) (by kernel_rfl) (by kernel_rfl) (by kernel_rfl) (by kernel_rfl) (fun _ _ _ h => h) (Or.inl ⟨by kernel_rfl, ?_⟩) hHeld ?_
        rotate_left
        · intro w hSw; (try dsimp only at hSw); (try obtain ⟨f0, f1, f2⟩ := hSw); go_simp; (try with_reducible rfl)
        try simp only [Act.put, List.setIfInBounds_toArray, List.set_cons_zero, List.set_cons_succ]
        refine take_at (i := 11) (v := ?_) 47 rfl rfl (by kernel_rfl) (by kernel_rfl) (by kernel_rfl) (by kernel_rfl) (by kernel_rfl) (by kernel_rfl) (by kernel_rfl) (fun _ _ _ h => h) (Or.inl ⟨by kernel_rfl, ?_⟩) hHeld ?_
        rotate_left
        · intro w hSw; (try dsimp only at hSw); (try obtain ⟨f0, f1, f2⟩ := hSw); go_simp; (try with_reducible rfl)
        try simp only [Act.put, List.setIfInBounds_toArray, List.set_cons_zero, List.set_cons_succ]
        refine take_at (i := 12) (v := ?_) 48 rfl rfl (by kernel_rfl) (by kernel_rfl) (by kernel_rfl) (by kernel_rfl) (by kernel_rfl) (by kernel_rfl) (by kernel_rfl) (fun _ _ _ h => h) (Or.inl ⟨by kernel_rfl, ?_⟩) hHeld ?_
        rotate_left
        · intro w hSw; (try dsimp only at hSw); (try obtain ⟨f0, f1, f2⟩ := hSw); go_simp; (try with_reducible rfl)
        try simp only [Act.put, List.setIfInBounds_toArray, List.set_cons_zero, List.set_cons_succ]
        refine take_at (i := 13) (v := ?_) 49 rfl rfl (by kernel_rfl) (by kernel_rfl) (by kernel_rfl) (by kernel_rfl) (by kernel_rfl) (by kernel_rfl) (by kernel_rfl) (fun _ _ _ h => h) (Or.inl ⟨by kernel_rfl, ?_⟩) hHeld ?_
        rotate_left
        · intro w hSw; (try dsimp only at hSw); (try obtain ⟨f0, f1, f2⟩ := hSw); go_simp; (try with_reducible rfl)
        try simp only [Act.put, List.setIfInBounds_toArray, List.set_cons_zero, List.set_cons_succ]
        refine Ord.wpAnyU_one (i := 14) (by kernel_rfl) rfl (fun K hK => ?_)
        rw [if_pos (by rfl)]
        refine one_upd (.tmp 39) (.tmp 40) (.tmp 49) rfl rfl m n r3.files hn rfl HO3.out s rfl hs (f.by'.take N) (min f.sure N) rfl ?_
        intro w4 ho4 hg4
        have HP4 := Lib.hid (PD.put (w := w3.drew) (w' := w4) (d := r3) ⟨World.rowIs.drew HP3.out.row, HO3.out, HP3.out.ne⟩ ho4 hg4)
        have HG4 := Lib.hid hg4
        clear ho4 hg4
        refine hK.out _ _ (fun h => by cases h) ?_
        clear hK K
        try simp only [Act.put, List.setIfInBounds_toArray, List.set_cons_zero, List.set_cons_succ]
        refine Ord.wpAnyU_done (by kernel_rfl) ?_ _
        go_wp2
        go_ret
        exact ⟨rfl, HP4.out, (Bx.below (below_al HB1.out _)).trans ((Bx.grown HG3.out fun k e => Or.inl (Option.some.inj e).symm).trans (Bx.grown (a := w3) ⟨HG4.out.os, HG4.out.tape, HG4.out.output, HG4.out.size, HG4.out.block⟩ fun k e => Or.inr (Option.some.inj e).symm))⟩
      | false =>
        rw [if_neg (by decide)]
        go_enter Try.func27, Try.ntmps27
        go_wp2_with (first
        | (go_at_call 48; (with_reducible refine CT.out.mono ?_); rintro e w1 ⟨rfl, hb1⟩; have HB1 := Lib.hid hb1; have HP2 := Lib.hid ((HP.out.below hb1).below (below_al (Below.refl w1.heap.size w1) (.cells #[.string ⟨f.by'.toArray⟩, .int .i64 f.sure] 82))); have hc : (w1.alloc (.cells #[.string ⟨f.by'.toArray⟩, .int .i64 f.sure] 82)).cell? ⟨w1.heap.size, 0, none⟩ = some (.string ⟨f.by'.toArray⟩) := (by rw [World.cell?_alloc_at _ _ _ _ (by simp)]; rfl); have hmw := HP.out.lt; have hsz1 : w.heap.size ≤ w1.heap.size := HB1.out.size; obtain ⟨hc, hcs⟩ : _ ∧ (w1.alloc (.cells #[.string ⟨f.by'.toArray⟩, .int .i64 f.sure] 82)).cell? ⟨w1.heap.size, 1, none⟩ = some (.int .i64 f.sure) := ⟨hc, (by rw [World.cell?_alloc_at _ _ _ _ (by simp)]; rfl)⟩; clear hb1)
        | (go_at_call 57; (refine (CB.out _ HP2.out).mono ?_); rintro e w3 ⟨rfl, HP3, HG3⟩))
        go_ret
        exact ⟨rfl, up HP3.out, (Bx.below (below_al HB1.out _)).trans (Bx.grown HG3.out fun k e => Or.inl (Option.some.inj e).symm)⟩
  · have e3 : cutV d s.data.toList z = ((thereV d s.data.toList).2, d) := by
      unfold cutV thereV at *
      cases hdd : d.dead with
      | true => rfl
      | false =>
        cases hff : find s.data.toList d.files with
        | none => rfl
        | some f => rw [hdd, hff] at ht; exact absurd rfl ht
    rw [e3]
    generalize thereV d s.data.toList = T at *
    have dt : (T.2 != 0) = true := bne_iff_ne.2 ht
    go_enter Try.func27, Try.ntmps27
    go_wp2_with (go_at_call 48; (with_reducible refine CT.out.mono ?_); rintro e w1 ⟨rfl, hb1⟩; have HB1 := Lib.hid hb1; clear hb1)
    go_ret
    exact ⟨rfl, up ((HP.out.below HB1.out).below (below_al (Below.refl _ _) _)), Bx.below (below_al HB1.out _)⟩
end Dsk
end Go.Proofs.Yteaikleofboknaa
end
