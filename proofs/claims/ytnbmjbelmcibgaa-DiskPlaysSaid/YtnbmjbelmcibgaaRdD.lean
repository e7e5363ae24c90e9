/- The document's disk: how much there is, the names, what is read, when it stands still: the walks. -/
import Derived.Test.YtnbmjbelmcibgaaRdC
set_option linter.unusedSimpArgs false
set_option linter.unusedVariables false
namespace Go.Proofs.Ytnbmjbelmcibgaa
open Go.RowKit Go.Great Go.Maps
namespace Dsk
theorem infoS : (Try.prog.info? 9).map (fun i => (i.zero, i.size, i.bytes)) = some (some (.string ⟨#[]⟩), 1, 16) := by kernel_rfl
theorem bytes_take {l : List FileIn} {k : Nat} (h : k < l.length) : bytesOf (l.take (k + 1)) = bytesOf (l.take k) + l[k].by'.length := by
  unfold bytesOf
  rw [List.take_succ_eq_append_getElem h, List.map_append, List.sum_append]
  rfl
theorem found_none {s : List UInt8} {l : List FileIn} (hf : find s l = none) {r : Int} (h : Found s l r) : r = -1 := by
  rcases h with ⟨h, -⟩ | ⟨k, -, hk, -, h⟩
  · exact h
  · rw [hf] at h; cases h
theorem found_some {s : List UInt8} {l : List FileIn} {f : FileIn} (h : Fok l) (hf : find s l = some f) : ∃ k : Nat, ∃ hk : k < l.length, l[k] = f ∧ ∀ r, Found s l r → r = (k : Int) := by
  obtain ⟨hm, hnm⟩ := (find_some h.rise s f).1 hf
  obtain ⟨k, hk, e⟩ := List.mem_iff_getElem.1 hm
  refine ⟨k, hk, e, fun r hr => ?_⟩
  have hp := List.pairwise_iff_getElem.1 h.rise
  rcases hr with ⟨-, h1⟩ | ⟨k', rfl, hk', -, h1⟩
  · rw [hf] at h1; cases h1
  · have e2 : l[k'] = l[k] := by rw [e]; exact (Option.some.inj (hf.symm.trans h1)).symm
    rcases Nat.lt_trichotomy k k' with h2 | h2 | h2
    · have := hp k k' hk hk' h2
      rw [e2, WideAt.bytes_irrefl] at this
      cases this
    · rw [h2]
    · have := hp k' k hk' hk h2
      rw [e2, WideAt.bytes_irrefl] at this
      cases this
theorem rfind_none (w : World) (g B : Nat) (v : Value) (d : DkIn) (h : RD w g B v d) (hn : d.files.length < 100000) (s : ByteArray) (hf : find s.data.toList d.files = none) : Calls Try.prog 42 #[.pointer (some ⟨g, 0, none⟩), .string s] w fun e w' => e = .returned (.int .i64 (-1)) ∧ w = w' :=
  (rfind_any w g B v d h hn s).mono fun e w' ⟨⟨r, he, hr⟩, hw⟩ => ⟨by rw [he, found_none hf hr], hw.symm⟩
theorem rfind_some (w : World) (g B : Nat) (v : Value) (d : DkIn) (h : RD w g B v d) (hd : Fok d.files) (hn : d.files.length < 100000) (s : ByteArray) {f : FileIn} (hf : find s.data.toList d.files = some f) : ∃ k : Nat, ∃ hk : k < d.files.length, d.files[k] = f ∧ Calls Try.prog 42 #[.pointer (some ⟨g, 0, none⟩), .string s] w fun e w' => e = .returned (.int .i64 (k : Int)) ∧ w = w' := by
  obtain ⟨k, hk, e, hr⟩ := found_some hd hf
  exact ⟨k, hk, e, (rfind_any w g B v d h hn s).mono fun e w' ⟨⟨r, he, h1⟩, hw⟩ => ⟨by rw [he, hr r h1], hw.symm⟩⟩
set_option maxRecDepth 100000 in
set_option maxHeartbeats 4000000 in
theorem rused_any (w : World) (g B : Nat) (v : Value) (d : DkIn) (h : RD w g B v d) (hn : d.files.length < 100000) (hb : bytesOf d.files ≤ 1000000000) : Calls Try.prog 20 #[.pointer (some ⟨g, 0, none⟩)] w fun e w' => e = .returned (.int .i64 (usedV d)) ∧ w = w' := by
  obtain ⟨L, hL⟩ : ∃ L, Hid (d.files.length = L) := ⟨_, rfl⟩
  have hLb : L < 100000 := by have := hL.out; omega
  obtain ⟨c0, -, -, -, -, c5⟩ := h.cells
  have hgl := h.lt
  obtain ⟨a, cap, rfl, HR⟩ := h.form hL.out
  have HR := Lib.hid HR
  have HBy := Lib.hid hb
  clear h hb
  cases hdd : d.dead with
  | true =>
    have e : usedV d = 0 := by unfold usedV; rw [hdd]; rfl
    rw [e]
    rw [hdd] at c5
    by_cases h0 : 0 < L
    · have d0 : decide ((0 : Int) < (L : Int)) = true := decide_eq_true (by omega)
      go_enter Try.func20, Try.ntmps20
      go_wp2
      go_loopw [3, 4] (fun x y wr => x = .int .i64 0 ∧ y = .int .i64 0 ∧ wr = w) (fun _ _ _ => 0)
      case atStart => exact ⟨rfl, rfl, rfl⟩
      case round =>
        obtain ⟨rfl, rfl, rfl⟩ := hrel
        go_wp2
        go_ret
        exact ⟨rfl, rfl⟩
    · have h00 : L = 0 := by omega
      subst h00
      go_enter Try.func20, Try.ntmps20
      go_wp2
      go_loopw [3, 4] (fun x y wr => x = .int .i64 0 ∧ y = .int .i64 0 ∧ wr = w) (fun _ _ _ => 0)
      case atStart => exact ⟨rfl, rfl, rfl⟩
      case round =>
        obtain ⟨rfl, rfl, rfl⟩ := hrel
        go_wp2
        go_ret
        exact ⟨rfl, rfl⟩
  | false =>
    have e : usedV d = (bytesOf d.files : Int) := by unfold usedV; rw [hdd]; rfl
    rw [e]
    rw [hdd] at c5
    go_enter Try.func20, Try.ntmps20
    go_wp2
    go_loopw [3, 4] (fun x y wr => ∃ k T : Nat, y = .int .i64 (k : Int) ∧ x = .int .i64 (T : Int) ∧ k ≤ L ∧ Hid (T = bytesOf (d.files.take k)) ∧ wr = w) (fun _ y _ => L - (intOf y).toNat)
    case atStart => exact ⟨0, 0, rfl, rfl, Nat.zero_le _, rfl, rfl⟩
    case round =>
      obtain ⟨k, T, rfl, rfl, hk, HT, rfl⟩ := hrel
      by_cases hkl : k < L
      · have dk : decide ((k : Int) < (L : Int)) = true := decide_eq_true (by omega)
        have hkl2 : k < d.files.length := by rw [hL.out]; exact hkl
        obtain ⟨gv, rfl, hg1, hg2, hg3, x0, x1, x2⟩ := HR.out k hkl2
        have HT1 : Hid (T + d.files[k].by'.length = bytesOf (d.files.take (k + 1))) := by show _ = _; rw [bytes_take hkl2, HT.out]
        have hsm : T + d.files[k].by'.length ≤ 1000000000 := by
          have h1 := HT1.out
          have h2 : bytesOf (d.files.take (k + 1)) ≤ bytesOf d.files := by
            conv => rhs; rw [← List.take_append_drop (k + 1) d.files]
            unfold bytesOf
            rw [List.map_append, List.sum_append]
            omega
          have := HBy.out
          omega
        have hsz : (ByteArray.mk d.files[k].by'.toArray).size = d.files[k].by'.length := by show d.files[k].by'.toArray.size = _; rw [List.size_toArray]
        generalize d.files[k].by' = z at *
        clear x0 x2
        have h63 : (T : Int) + (z.length : Int) ≤ 1000000000 := by omega
        go_wp2
        go_roundw
        case rel => exact ⟨k + 1, T + z.length, by go_num, by go_num, by omega, HT1.out, by first | rfl | trivial⟩
        case measure => simp [intOf]; omega
      · have dk : decide ((k : Int) < (L : Int)) = false := decide_eq_false (by omega)
        have hT : T = bytesOf d.files := by rw [HT.out, List.take_of_length_le (by have := hL.out; omega)]
        go_wp2
        go_ret
        exact ⟨by rw [hT]; rfl, rfl⟩
set_option maxRecDepth 100000 in
set_option maxHeartbeats 4000000 in
theorem rnames_any (w : World) (g B : Nat) (v : Value) (d : DkIn) (h : RD w g B v d) (hn : d.files.length < 100000) : Calls Try.prog 25 #[.pointer (some ⟨g, 0, none⟩)] w fun e w' => ∃ v, e = .returned v ∧ Hid (w'.ownsRow w.heap.size 9 1 v (namesV d).length (rowOf (namesV d))) ∧ Hid (Below w.heap.size w w') := by
  obtain ⟨i0, hi0, hz0, hz1, hz2⟩ := info_parts infoS
  obtain ⟨L, hL⟩ : ∃ L, Hid (d.files.length = L) := ⟨_, rfl⟩
  have hLb : L < 100000 := by have := hL.out; omega
  obtain ⟨c0, -, -, -, -, c5⟩ := h.cells
  have hgl := h.lt
  obtain ⟨a, cap, rfl, HR⟩ := h.form hL.out
  have HR := Lib.hid HR
  clear h
  cases hdd : d.dead with
  | true =>
    rw [names_dead hdd]
    rw [hdd] at c5
    by_cases h0 : 0 < L
    · have d0 : decide ((0 : Int) < (L : Int)) = true := decide_eq_true (by omega)
      go_enter Try.func25, Try.ntmps25
      go_wp2
      go_loopw [3, 4] (fun x y wr => x = .slice none 0 0 ∧ y = .int .i64 0 ∧ wr = w) (fun _ _ _ => 0)
      case atStart => exact ⟨rfl, rfl, rfl⟩
      case round =>
        obtain ⟨rfl, rfl, rfl⟩ := hrel
        go_wp2
        go_ret
        exact ⟨_, rfl, World.ownsRow_nil _ _ _ _, Below.refl _ _⟩
    · have h00 : L = 0 := by omega
      subst h00
      go_enter Try.func25, Try.ntmps25
      go_wp2
      go_loopw [3, 4] (fun x y wr => x = .slice none 0 0 ∧ y = .int .i64 0 ∧ wr = w) (fun _ _ _ => 0)
      case atStart => exact ⟨rfl, rfl, rfl⟩
      case round =>
        obtain ⟨rfl, rfl, rfl⟩ := hrel
        go_wp2
        go_ret
        exact ⟨_, rfl, World.ownsRow_nil _ _ _ _, Below.refl _ _⟩
  | false =>
    rw [names_live hdd]
    rw [hdd] at c5
    go_enter Try.func25, Try.ntmps25
    go_wp2
    go_loopw [3, 4] (fun x y wr => ∃ k : Nat, y = .int .i64 (k : Int) ∧ k ≤ L ∧ Hid (wr.ownsRow w.heap.size 9 1 x k (rowOf (nmsOf (d.files.take k)))) ∧ Hid (Below w.heap.size w wr)) (fun _ y _ => L - (intOf y).toNat)
    case atStart => exact ⟨0, rfl, Nat.zero_le _, World.ownsRow_nil _ _ _ _, Below.refl _ _⟩
    case round =>
      obtain ⟨k, rfl, hk, HO, HB⟩ := hrel
      have p0 := (HB.out.cell (p := ⟨g, 0, none⟩) hgl).trans c0
      have p5 := (HB.out.cell (p := ⟨g, 5, none⟩) hgl).trans c5
      by_cases hkl : k < L
      · have dk : decide ((k : Int) < (L : Int)) = true := decide_eq_true (by omega)
        have hkl2 : k < d.files.length := by rw [hL.out]; exact hkl
        obtain ⟨gv, rfl, hg1, hg2, hg3, x0, x1, x2⟩ := HR.out k hkl2
        replace x0 := (HB.out.cell (p := ⟨gv, k * 3, none⟩) hg2).trans x0
        have HT : Hid (rowOf (nmsOf (d.files.take (k + 1))) = rowOf (nmsOf (d.files.take k)) ++ [.string ⟨d.files[k].nm.toArray⟩]) := by
          show _ = _
          unfold rowOf nmsOf
          rw [List.take_succ_eq_append_getElem hkl2, List.map_append, List.map_append]
          rfl
        generalize d.files[k].nm = z at *
        clear x1 x2
        go_wp2_with (at_builtin; refine Own.list_one rfl (.tmp 21) (.tmp 30) 52 rfl w.heap.size 9 i0 _ 16 Try.underlying52 hi0 hz0 hz1 hz2 rfl _ k _ rfl _ _ _ rfl (HO.out.alloc _) (Own.cell_new _ _ _) rfl ?h1 ?h2 ?h3 ?_; (case h1 => unfold maxLen; omega); (case h2 => omega); (case h3 => have := HB.out.size; simp; omega); intro v4 w4 hown hgrow; have HB4 := Lib.hid ((below_al HB.out _).grown hgrow (below_al HB.out _).size (Own.own_block HO.out (Nat.le_refl _))); have HO4 := Lib.hid hown; clear hown hgrow)
        go_roundw
        case rel => exact ⟨k + 1, by go_num, by omega, by rw [HT.out]; exact HO4.out, HB4.out⟩
        case measure => simp [intOf]; omega
      · have dk : decide ((k : Int) < (L : Int)) = false := decide_eq_false (by omega)
        have hkL : k = L := by omega
        have hT : d.files.take k = d.files := List.take_of_length_le (by have := hL.out; omega)
        rw [hT] at HO
        have hnl : (nmsOf d.files).length = k := by unfold nmsOf; rw [List.length_map, hL.out, hkL]
        go_wp2
        go_ret
        exact ⟨_, rfl, by rw [hnl]; exact HO.out, HB.out⟩
set_option maxRecDepth 100000 in
theorem rfuse_any (w : World) (g B : Nat) (v : Value) (d : DkIn) (h : RD w g B v d) (z : Int) (b : Bool) : Calls Try.prog 36 #[.pointer (some ⟨g, 0, none⟩), .int .i64 z, .bool b] w fun e w' => e = .returned (.tuple #[]) ∧ Hid (RD w' g B v (fuseV d z b)) ∧ Hid (Bx g g w w') := by
  have HP := Lib.hid h
  obtain ⟨c0, c1, c2, c3, c4, c5⟩ := h.cells
  have f3 := World.rowIs.frozen h.row 3
  have f4 := World.rowIs.frozen h.row 4
  clear h
  have e : (if 0 < z then z else 0) = max 0 z := by omega
  unfold fuseV
  rw [e]
  clear e
  go_enter Try.func36, Try.ntmps36
  go_wp2
  go_end0
  exact ⟨rfl, (HP.out.setLast (max 0 z)).setHalf b, (bx_set _ _ _ _).trans (bx_set _ _ _ _)⟩
set_option maxRecDepth 100000 in
set_option maxHeartbeats 4000000 in
theorem rread_any (w : World) (g B : Nat) (v : Value) (d : DkIn) (h : RD w g B v d) (hd : Dok d) (hn : d.files.length < 100000) (s : ByteArray) : Calls Try.prog 38 #[.pointer (some ⟨g, 0, none⟩), .string s] w fun e w' => e = .returned (.tuple #[.string ⟨(readV d s.data.toList).1.toArray⟩, .int .i64 (readV d s.data.toList).2]) ∧ w = w' := by
  have HP := Lib.hid h
  obtain ⟨c0, -, -, -, -, c5⟩ := h.cells
  obtain ⟨L, hL⟩ : ∃ L, Hid (d.files.length = L) := ⟨_, rfl⟩
  obtain ⟨a, cap, rfl, HR⟩ := h.form hL.out
  have HR := Lib.hid HR
  clear h
  cases hdd : d.dead with
  | true =>
    have e : readV d s.data.toList = ([], 14) := by unfold readV; rw [hdd]; rfl
    rw [e]
    rw [hdd] at c5
    go_enter Try.func38, Try.ntmps38
    go_wp2
    go_ret2
    exact ⟨rfl, rfl⟩
  | false =>
    rw [hdd] at c5
    cases hf : find s.data.toList d.files with
    | none =>
      have e : readV d s.data.toList = ([], 3) := by unfold readV; rw [hdd, if_neg (by decide), hf]
      rw [e]
      have CF := Lib.hid (rfind_none w g B _ d HP.out hn s hf)
      go_enter Try.func38, Try.ntmps38
      go_wp2_with (go_at_call 42; (with_reducible refine CF.out.mono ?_); rintro e w1 ⟨rfl, rfl⟩)
      go_ret2
      exact ⟨rfl, rfl⟩
    | some f =>
      have e : readV d s.data.toList = (f.by', 0) := by unfold readV; rw [hdd, if_neg (by decide), hf]
      rw [e]
      obtain ⟨k, hk, ek, hcf⟩ := rfind_some w g B _ d HP.out hd.fok hn s hf
      have CF := Lib.hid hcf
      obtain ⟨gv, rfl, hg1, hg2, hg3, x0, x1, x2⟩ := HR.out k hk
      rw [ek] at x0 x1 x2
      have hk0 : (0 : Int) ≤ (k : Int) := by omega
      have hkL : (k : Int) < (L : Int) := by have := hL.out; omega
      clear hcf
      go_enter Try.func38, Try.ntmps38
      go_wp2_with (go_at_call 42; (with_reducible refine CF.out.mono ?_); rintro e w1 ⟨rfl, rfl⟩)
      go_ret2
      exact ⟨rfl, rfl⟩
end Dsk
end Go.Proofs.Ytnbmjbelmcibgaa
