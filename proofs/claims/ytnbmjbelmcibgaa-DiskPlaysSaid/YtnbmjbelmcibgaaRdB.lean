/- The document's disk: an operation is counted, a file is taken away: the walks. -/
import Derived.Test.YtnbmjbelmcibgaaRdA
set_option linter.unusedSimpArgs false
set_option linter.unusedVariables false
namespace Go.Proofs.Ytnbmjbelmcibgaa
open Go.RowKit Go.Great Go.Maps
namespace Dsk
theorem info_parts {P : Program} {e : TypeId} {z : Value} {n b : Nat} (h : (P.info? e).map (fun i => (i.zero, i.size, i.bytes)) = some (some z, n, b)) : ∃ i, P.info? e = some i ∧ i.zero = some z ∧ i.size = n ∧ i.bytes = b := by
  cases hi : P.info? e with
  | none => rw [hi] at h; cases h
  | some i =>
    rw [hi] at h
    simp only [Option.map_some, Option.some.injEq, Prod.mk.injEq] at h
    exact ⟨i, rfl, h.1, h.2.1, h.2.2⟩
theorem infoF : (Try.prog.info? 70).map (fun i => (i.zero, i.size, i.bytes)) = some (some (.agg #[.string ⟨#[]⟩, .string ⟨#[]⟩, .int .i64 0]), 3, 40) := by kernel_rfl
theorem trip_new (w : World) (a b c : Value) (T : TypeId) : (w.alloc (.cells #[a, b, c] T)).cell? ((⟨w.heap.size, 0, none⟩ : Addr).add 0) = some a ∧ (w.alloc (.cells #[a, b, c] T)).cell? ((⟨w.heap.size, 0, none⟩ : Addr).add 1) = some b ∧ (w.alloc (.cells #[a, b, c] T)).cell? ((⟨w.heap.size, 0, none⟩ : Addr).add 2) = some c := by
  refine ⟨?_, ?_, ?_⟩ <;> simp [Addr.add, World.cell?_alloc_at]
/-- One file behind a row of one's own. -/
theorem list_file {P : Program} {ops : Array Oper} {rest : List Oper} {o : Oper} {a : Act} {w : World} {Q : Exit → Act → World → Prop} (hgd : o.guard = none) (s x : Operand) (t : TypeId)
    (ho : o.op = .call { callee := .builtin .append, args := #[s, x], argTypes := #[t, t] })
    (base : Nat) (e : TypeId) (i : TypeInfo) (z : Value) (bytes : Nat) (ht : P.underlying t = some (.slice e)) (hi : P.info? e = some i) (hz : i.zero = some z)
    (hsize : i.size = 3) (hby : i.bytes = bytes) (hzs : z.cells.size = 3)
    (v : Value) (l : List FileIn) (n : Nat) (hs : a.eval s = v) (ad : Addr) (c : Nat) (f : FileIn) (hx : a.eval x = .slice (some ad) 1 c) (hown : w.ownsRow base e 3 v n (fileVals l))
    (hu0 : w.cell? (ad.add 0) = some (.string ⟨f.nm.toArray⟩)) (hu1 : w.cell? (ad.add 1) = some (.string ⟨f.by'.toArray⟩)) (hu2 : w.cell? (ad.add 2) = some (.int .i64 f.sure)) (h63 : n + 1 ≤ maxLen) (hbytes : (n + 1) * bytes ≤ 140737488355328) (hbase : base ≤ w.heap.size)
    (h : ∀ v' w', w'.ownsRow base e 3 v' (n + 1) (fileVals (l ++ [f])) → w.grownBy w' v.ownBlock → wpList P ops Q rest (a.put o.dst v') w') : wpList P ops Q (o :: rest) a w :=
  wpList_append_own w hgd s x t ho base e i z 3 bytes ht hi hz hsize hby hzs (by decide) v n (fileVals l) hs hown ad 1 c (fcells f) hx rfl
    (fun j u hj => by
      match j, hj with
      | 0, hj => simp [fcells] at hj; subst hj; exact hu0
      | 1, hj => simp [fcells] at hj; subst hj; exact hu1
      | 2, hj => simp [fcells] at hj; subst hj; exact hu2
      | j + 3, hj => simp [fcells] at hj) (fun u hw => by simp [fcells] at hw; rcases hw with rfl | rfl | rfl <;> rfl) h63 hbytes hbase
    (fun v' w' hown' hgrow _ => h v' w' (by rw [fvals_append]; simpa [fileVals] using hown') hgrow)
theorem bx_set (w : World) (g j : Nat) (u : Value) : Bx g g w (w.setCell ⟨g, j, none⟩ u) := ⟨rfl, rfl, rfl, by simp, fun k hk h1 h2 => Below.heap_setCell _ _ _ _ fun e => h1 e⟩
theorem own_slice {w : World} {base : Nat} {e : TypeId} {size : Nat} {v : Value} {n : Nat} {xs : List Value} (h : w.ownsRow base e size v n xs) : ∃ a c, v = .slice a n c := by
  rcases h.2 with ⟨rfl, rfl⟩ | ⟨g, cap, cur, rfl, -⟩
  · exact ⟨_, _, rfl⟩
  · exact ⟨_, _, rfl⟩
theorem own_ne {w : World} {base : Nat} {e : TypeId} {size : Nat} {v : Value} {n : Nat} {xs : List Value} {g : Nat} (h : w.ownsRow base e size v n xs) (hg : g < base) : v.ownBlock ≠ some g := fun e => by
  have := (h.lt g e).1
  omega
theorem del_append (s : List UInt8) (a b : List FileIn) : del s (a ++ b) = del s a ++ del s b := by simp [del]
theorem del_one (s : List UInt8) (f : FileIn) : del s [f] = if f.nm = s then [] else [f] := by
  unfold del
  by_cases h : f.nm = s
  · simp [h]
  · simp [h]
set_option maxRecDepth 100000 in
set_option maxHeartbeats 2000000 in
theorem rop_any (w : World) (g B : Nat) (v : Value) (d : DkIn) (h : RD w g B v d) (hd : Dok d) : Calls Try.prog 44 #[.pointer (some ⟨g, 0, none⟩)] w fun e w' => e = .returned (.tuple #[.bool (opV d).1, .int .i64 (opV d).2.1]) ∧ Hid (RD w' g B v (opV d).2.2) ∧ Hid (Bx g g w w') := by
  have HP := Lib.hid h
  obtain ⟨c0, c1, c2, c3, c4, c5⟩ := h.cells
  have f2 := World.rowIs.frozen h.row 2
  have f3 := World.rowIs.frozen h.row 3
  have f5 := World.rowIs.frozen h.row 5
  obtain ⟨o0, o1⟩ := hd.ops
  obtain ⟨l0, l1⟩ := hd.last
  have hlo := h.lo
  have hbs := h.hB
  clear h
  have ew : wrap64 (d.ops + 1) = d.ops + 1 := by unfold wrap64; omega
  have el : wrap64 (d.last - 1) = d.last - 1 := by unfold wrap64; omega
  by_cases hz : d.last = 0
  · have dz : (d.last == 0) = true := beq_iff_eq.2 hz
    have e : opV d = (true, 0, { d with ops := d.ops + 1 }) := by unfold opV; rw [if_pos hz]
    rw [e]
    go_enter Try.func44, Try.ntmps44
    go_wp2
    go_ret2
    exact ⟨rfl, HP.out.setOps (d.ops + 1), bx_set _ _ _ _⟩
  · have dz : (d.last == 0) = false := beq_eq_false_iff_ne.2 hz
    by_cases h1 : 0 < d.last - 1
    · have d1 : decide (1 < d.last) = true := decide_eq_true (by omega)
      have h1' : 1 < d.last := by omega
      have e : opV d = (true, 0, { d with ops := d.ops + 1, last := d.last - 1 }) := by unfold opV; rw [if_neg hz, if_pos h1]
      rw [e]
      go_enter Try.func44, Try.ntmps44
      go_wp2
      go_ret2
      exact ⟨rfl, (HP.out.setOps (d.ops + 1)).setLast (d.last - 1), (bx_set _ _ _ _).trans (bx_set _ _ _ _)⟩
    · have d1 : decide (1 < d.last) = false := decide_eq_false (by omega)
      have h1' : ¬ 1 < d.last := by omega
      have e : opV d = (d.half, 14, { d with ops := d.ops + 1, last := d.last - 1, dead := true }) := by unfold opV; rw [if_neg hz, if_neg h1]
      rw [e]
      go_enter Try.func44, Try.ntmps44
      go_wp2
      go_ret2
      exact ⟨rfl, ((HP.out.setOps (d.ops + 1)).setLast (d.last - 1)).setDead true, ((bx_set _ _ _ _).trans (bx_set _ _ _ _)).trans (bx_set _ _ _ _)⟩
set_option maxRecDepth 100000 in
set_option maxHeartbeats 4000000 in
theorem rtake_any (w : World) (g B : Nat) (v : Value) (d : DkIn) (h : RD w g B v d) (hn : d.files.length < 100000) (s : ByteArray) : Calls Try.prog 45 #[.pointer (some ⟨g, 0, none⟩), .string s] w fun e w' => e = .returned (.tuple #[]) ∧ (∃ v', Hid (RD w' g B v' { d with files := del s.data.toList d.files }) ∧ Hid (∀ b, v'.ownBlock = some b → w.heap.size ≤ b)) ∧ Hid (Bx g g w w') := by
  obtain ⟨i0, hi0, hz0, hz1, hz2⟩ := info_parts infoF
  obtain ⟨L, hL⟩ : ∃ L, Hid (d.files.length = L) := ⟨_, rfl⟩
  have hLb : L < 100000 := by have := hL.out; omega
  obtain ⟨c0, -⟩ := h.cells
  have f0 := World.rowIs.frozen h.row 0
  have hgl := h.lt
  have HP := Lib.hid h
  obtain ⟨a, cap, rfl, HR⟩ := h.form hL.out
  have HR := Lib.hid HR
  clear h
  go_enter Try.func45, Try.ntmps45
  go_wp2
  go_loopw [4, 5] (fun x4 x5 wr => ∃ k : Nat, x5 = .int .i64 (k : Int) ∧ k ≤ L ∧ Hid (wr.ownsRow w.heap.size 70 3 x4 (del s.data.toList (d.files.take k)).length (fileVals (del s.data.toList (d.files.take k)))) ∧ Hid (Below w.heap.size w wr)) (fun _ x _ => L - (intOf x).toNat)
  case atStart => exact ⟨0, rfl, Nat.zero_le _, World.ownsRow_nil _ _ _ _, Below.refl _ _⟩
  case round =>
    obtain ⟨k, rfl, hk, HO, HB⟩ := hrel
    have p0 := (HB.out.cell (p := ⟨g, 0, none⟩) hgl).trans c0
    have hgr : g < wr.heap.size := Nat.lt_of_lt_of_le hgl HB.out.size
    by_cases hkl : k < L
    · have dk : decide ((k : Int) < (L : Int)) = true := decide_eq_true (by omega)
      have hkl2 : k < d.files.length := by rw [hL.out]; exact hkl
      obtain ⟨gv, rfl, hg1, hg2, hg3, x0, x1, x2⟩ := HR.out k hkl2
      replace x0 := (HB.out.cell (p := ⟨gv, k * 3, none⟩) hg2).trans x0
      replace x1 := (HB.out.cell (p := ⟨gv, k * 3 + 1, none⟩) hg2).trans x1
      replace x2 := (HB.out.cell (p := ⟨gv, k * 3 + 2, none⟩) hg2).trans x2
      have hgvr : gv < wr.heap.size := Nat.lt_of_lt_of_le hg2 HB.out.size
      have HT : Hid (del s.data.toList (d.files.take (k + 1)) = del s.data.toList (d.files.take k) ++ if d.files[k].nm = s.data.toList then [] else [d.files[k]]) := by
        show _ = _
        rw [List.take_succ_eq_append_getElem hkl2, del_append, del_one]
      have HLn : Hid ((del s.data.toList (d.files.take k)).length ≤ L) := by
        have := (bytes_del s.data.toList (d.files.take k)).2
        rw [List.length_take] at this
        exact Nat.le_trans this (by omega)
      generalize d.files[k] = f at *
      obtain ⟨fn, fb, fs⟩ := f
      dsimp only at *
      by_cases hs : fn = s.data.toList
      · have e1 : (fn == s.toList) = true := beq_iff_eq.2 (by rw [ByteArray.toList_eq]; exact hs)
        have e2 : del s.data.toList (d.files.take k) = del s.data.toList (d.files.take (k + 1)) := by rw [HT.out, if_pos hs, List.append_nil]
        rw [e2] at HO
        go_wp2
        go_roundw
        case rel => exact ⟨k + 1, by go_num, by omega, HO.out, HB.out⟩
        case measure => simp [intOf]; omega
      · have e1 : (fn == s.toList) = false := beq_eq_false_iff_ne.2 (by rw [ByteArray.toList_eq]; exact hs)
        have hT2 := HT.out
        rw [if_neg hs] at hT2
        have HT2 := Lib.hid hT2
        clear hT2 HT
        go_wp2_with (at_builtin; refine list_file rfl (.tmp 25) (.tmp 33) 48 rfl w.heap.size 70 i0 _ 40 Try.underlying48 hi0 hz0 hz1 hz2 rfl _ _ _ rfl _ _ ⟨fn, fb, fs⟩ rfl (HO.out.alloc _) (trip_new _ _ _ _ _).1 (trip_new _ _ _ _ _).2.1 (trip_new _ _ _ _ _).2.2 ?h1 ?h2 ?h3 ?_; (case h1 => have := HLn.out; unfold maxLen; omega); (case h2 => have := HLn.out; omega); (case h3 => have := HB.out.size; simp; omega); intro v4 w4 hown4 hgrow4; have HB4 := Lib.hid ((below_al HB.out _).grown hgrow4 (below_al HB.out _).size (Own.own_block HO.out (Nat.le_refl _))); have HO4 := Lib.hid hown4; clear hown4 hgrow4)
        go_roundw
        case rel => exact ⟨k + 1, by go_num, by omega, by rw [HT2.out, List.length_append]; exact HO4.out, HB4.out⟩
        case measure => simp [intOf]; omega
    · have dk : decide ((k : Int) < (L : Int)) = false := decide_eq_false (by omega)
      have ekL : d.files.take k = d.files := List.take_of_length_le (by have := hL.out; omega)
      rw [ekL] at HO
      have HPr := Lib.hid (HP.out.below HB.out)
      have f1 := World.rowIs.frozen HPr.out.row 0
      have HNE := Lib.hid (own_ne HO.out hgl)
      obtain ⟨oa, oc, hoe⟩ := own_slice HO.out
      subst hoe
      go_wp2
      go_end0
      exact ⟨rfl, ⟨_, RD.setFiles HPr.out.row HPr.out.lo (HO.out.mono HP.out.hB) HNE.out, fun b hb => (HO.out.lt b hb).1⟩, (Bx.below HB.out).trans (bx_set _ _ _ _)⟩
end Dsk
end Go.Proofs.Ytnbmjbelmcibgaa
