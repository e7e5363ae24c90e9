/- Whether a file is there; what is read: the walks. -/
import Derived.Test.YtnbmjbelmcibgaaDskN
import Derived.StringKeys
set_option linter.unusedSimpArgs false
set_option linter.unusedVariables false
namespace Go.Proofs.Ytnbmjbelmcibgaa
open Go.RowKit Go.Great Go.Maps
namespace Dsk
theorem law : Keyed Try.prog 9 := string_keyed Try.underlying9
theorem zeroF (w : World) : (zeroValue 63).run Try.prog w = .ok (.agg #[.string ByteArray.empty, .int .i64 0]) w := by kernel_rfl
section
variable {ops : Array Oper} {rest : List Oper} {o : Oper} {a : Act} {w : World} {Q : Exit → Act → World → Prop}
theorem lookup_some (hg : o.guard = none) (m x : Operand) (hop : o.op = Op.lookup 55 m x true) (b n : Nat) (l : List FileIn) (hm : a.eval m = .map (some b)) (hown : w.ownsMap Try.prog 9 fileElem b n (datum l))
    (s : ByteArray) (hx : a.eval x = .string s) (hs : s.size ≤ 1000000000) {f : FileIn} (hf : find s.data.toList l = some f) (h : wpList Try.prog ops Q rest (a.put o.dst (.tuple #[.agg #[.string ⟨f.by'.toArray⟩, .int .i64 f.sure], .bool true])) w) : wpList Try.prog ops Q (o :: rest) a w :=
  wpList_lookup_own_ok w hg m x 55 hop 9 63 law Try.underlying55 fileElem (zeroF w) _ [] (fileElem_mk [] 0 []) b n _ hm hown _ (.string s.data.toList) hx (Go.WideMaps.keyOf_string_mk Try.underlying9 (by unfold maxLen; omega)) fun v ps hv => by
    rw [datum_at, hf] at hv
    obtain ⟨rfl, _⟩ := fileElem_inv hv
    rw [datum_has, hf]
    exact h
theorem lookup_none (hg : o.guard = none) (m x : Operand) (hop : o.op = Op.lookup 55 m x true) (b n : Nat) (l : List FileIn) (hm : a.eval m = .map (some b)) (hown : w.ownsMap Try.prog 9 fileElem b n (datum l))
    (s : ByteArray) (hx : a.eval x = .string s) (hs : s.size ≤ 1000000000) (hf : find s.data.toList l = none) (h : wpList Try.prog ops Q rest (a.put o.dst (.tuple #[.agg #[.string ⟨#[]⟩, .int .i64 0], .bool false])) w) : wpList Try.prog ops Q (o :: rest) a w :=
  wpList_lookup_own_ok w hg m x 55 hop 9 63 law Try.underlying55 fileElem (zeroF w) _ [] (fileElem_mk [] 0 []) b n _ hm hown _ (.string s.data.toList) hx (Go.WideMaps.keyOf_string_mk Try.underlying9 (by unfold maxLen; omega)) fun v ps hv => by
    rw [datum_at, hf] at hv
    obtain ⟨rfl, _⟩ := fileElem_inv (f := ⟨[], [], 0⟩) hv
    rw [datum_has, hf]
    exact h
end
theorem size_file (x y : Value) : (Try.prog.info? 63).map (·.size) = some (#[x, y] : Array Value).size := by kernel_rfl
theorem ret_file {fn : Func} {p q : Tmp} (h : fn.results = #[.cell p 63, ResultVar.tmp q]) (tmps : Array Value) (w : World) (g : Nat) (x y b : Value)
    (hp : tmps.getD p undef = .pointer (some ⟨g, 0, none⟩)) (hq : tmps.getD q undef = b) (hg : w.heap[g]? = some (.cells #[x, y] 63 (0, 0))) :
    (results fn tmps).run Try.prog w = .ok (.tuple #[.agg #[x, y], b]) w := by
  have hp' : tmps[p]?.getD undef = .pointer (some ⟨g, 0, none⟩) := by simpa using hp
  have hq' : tmps[q]?.getD undef = b := by simpa using hq
  rw [results_cell_tmp h]
  simp [hp', hq', asAddr, run_loadVar_row _ _ _ _ #[x, y] _ _ hg Try.underlying63 rfl (size_file x y)]
theorem below_setRow {k : Nat} {a b : World} (h : Below k a b) (g : Nat) (hg : k ≤ g) (cs : Array Value) : Below k a (b.setRow g cs) := by
  refine ⟨h.os, h.tape, h.output, ?_, fun j hj => ?_⟩
  · have := h.size
    simpa [World.setRow] using this
  · rw [← h.block j hj]
    simp [World.setRow, Array.getElem?_modify]
    omega
set_option maxRecDepth 100000 in
theorem ops_any (w : World) (g m n : Nat) (d : DkIn) (h : PD w g m n d) : Calls Try.prog 21 #[.pointer (some ⟨g, 0, none⟩)] w fun e w' => e = .returned (.int .i64 d.ops) ∧ w = w' := by
  have CG : Hid (Calls Try.prog 30 #[.pointer (some ⟨g, 0, none⟩)] w fun e w' => e = .returned (.bool true) ∧ w = w') := given_any w g m n d h
  obtain ⟨c0, c1, c2, c3, c4, c5⟩ := h.cells
  clear h
  go_enter Try.func21, Try.ntmps21
  go_wp2_with (go_at_call 30; (with_reducible refine CG.out.mono ?_); rintro e w2 ⟨rfl, rfl⟩)
  go_ret
  exact ⟨rfl, rfl⟩
set_option maxRecDepth 100000 in
theorem dead_any (w : World) (g m n : Nat) (d : DkIn) (h : PD w g m n d) : Calls Try.prog 22 #[.pointer (some ⟨g, 0, none⟩)] w fun e w' => e = .returned (.bool d.dead) ∧ w = w' := by
  have CG : Hid (Calls Try.prog 30 #[.pointer (some ⟨g, 0, none⟩)] w fun e w' => e = .returned (.bool true) ∧ w = w') := given_any w g m n d h
  obtain ⟨c0, c1, c2, c3, c4, c5⟩ := h.cells
  clear h
  go_enter Try.func22, Try.ntmps22
  go_wp2_with (go_at_call 30; (with_reducible refine CG.out.mono ?_); rintro e w2 ⟨rfl, rfl⟩)
  go_ret
  exact ⟨rfl, rfl⟩
/-- What there answers. -/
def thereV (d : DkIn) (s : List UInt8) : FileIn × Int := if d.dead then (⟨[], [], 0⟩, 14) else match find s d.files with
  | none => (⟨[], [], 0⟩, 3)
  | some f => (f, 0)
set_option maxRecDepth 100000 in
set_option maxHeartbeats 1000000 in
theorem there_any (w : World) (g m n : Nat) (d : DkIn) (h : PD w g m n d) (s : ByteArray) (hs : s.size ≤ 1000000000) : Calls Try.prog 29 #[.pointer (some ⟨g, 0, none⟩), .string s] w fun e w' => e = .returned (.tuple #[.agg #[.string ⟨(thereV d s.data.toList).1.by'.toArray⟩, .int .i64 (thereV d s.data.toList).1.sure], .int .i64 (thereV d s.data.toList).2]) ∧ Below w.heap.size w w' := by
  have HP := Lib.hid h
  have CW : Hid (∀ W, PD W g m n d → Calls Try.prog 26 #[.pointer (some ⟨g, 0, none⟩)] W fun e w' => e = .returned (.int .i64 (if d.dead then 14 else 0)) ∧ W = w') := fun W h => wakes_any W g m n d h
  have HP1 := Lib.hid (h.below (below_al (Below.refl w.heap.size w) (.cells #[.string ⟨#[]⟩, .int .i64 0] 63)))
  have hc := HP1.out.cells
  clear h
  cases hd : d.dead with
  | true =>
    have e : thereV d s.data.toList = (⟨[], [], 0⟩, 14) := by unfold thereV; rw [hd]; rfl
    rw [e]
    rw [hd] at CW
    go_enter Try.func29, Try.ntmps29
    go_wp2_with (go_at_call 26; (refine (CW.out _ HP1.out).mono ?_); rintro e w2 ⟨rfl, rfl⟩)
    refine bodyPost_ret (v := .tuple #[.agg #[.string ⟨#[]⟩, .int .i64 0], .int .i64 14]) (ret_file rfl _ _ w.heap.size _ _ _ rfl rfl ?_) rfl ⟨rfl, ?_⟩
    · exact heap_alloc_new w _
    · exact below_al (Below.refl _ _) _
  | false =>
    rw [hd] at CW
    cases hf : find s.data.toList d.files with
    | none =>
      have e : thereV d s.data.toList = (⟨[], [], 0⟩, 3) := by unfold thereV; rw [hd, hf]; rfl
      rw [e]
      go_enter Try.func29, Try.ntmps29
      go_wp2_with (first
        | (go_at_call 26; (refine (CW.out _ HP1.out).mono ?_); rintro e w2 ⟨rfl, rfl⟩; obtain ⟨c0, -⟩ := hc)
        | (at_lookup; refine lookup_none rfl (.tmp 19) (.tmp 20) rfl m n d.files rfl HP1.out.own s rfl hs hf ?_))
      refine bodyPost_ret (v := .tuple #[.agg #[.string ⟨#[]⟩, .int .i64 0], .int .i64 3]) (ret_file rfl _ _ w.heap.size _ _ _ rfl rfl ?_) rfl ⟨rfl, ?_⟩
      · exact (heap_alloc_old _ _ (by simp)).trans (heap_alloc_new w _)
      · exact below_al (below_al (Below.refl _ _) _) _
    | some f =>
      have e : thereV d s.data.toList = (f, 0) := by unfold thereV; rw [hd, hf]; rfl
      rw [e]
      go_enter Try.func29, Try.ntmps29
      go_wp2_with (first
        | (go_at_call 26; (refine (CW.out _ HP1.out).mono ?_); rintro e w2 ⟨rfl, rfl⟩; obtain ⟨c0, -⟩ := hc)
        | (at_lookup; refine lookup_some rfl (.tmp 19) (.tmp 20) rfl m n d.files rfl HP1.out.own s rfl hs hf ?_))
      refine bodyPost_ret (v := .tuple #[.agg #[.string ⟨f.by'.toArray⟩, .int .i64 f.sure], .int .i64 0]) (ret_file rfl _ _ w.heap.size _ _ _ rfl rfl ?_) rfl ⟨rfl, ?_⟩
      · exact (heap_alloc_old _ _ (by simp)).trans (heap_alloc_new w _)
      · exact below_al (below_al (Below.refl _ _) _) _
theorem there_read (d : DkIn) (s : List UInt8) : readV d s = ((thereV d s).1.by', (thereV d s).2) := by
  unfold readV thereV
  cases d.dead with
  | true => rfl
  | false =>
    cases find s d.files with
    | none => rfl
    | some f => rfl
set_option maxRecDepth 100000 in
theorem read_any (w : World) (g m n : Nat) (d : DkIn) (h : PD w g m n d) (s : ByteArray) (hs : s.size ≤ 1000000000) : Calls Try.prog 14 #[.pointer (some ⟨g, 0, none⟩), .string s] w fun e w' => e = .returned (.tuple #[.string ⟨(readV d s.data.toList).1.toArray⟩, .int .i64 (readV d s.data.toList).2]) ∧ Below w.heap.size w w' := by
  have CT : Hid (Calls Try.prog 29 #[.pointer (some ⟨g, 0, none⟩), .string s] w fun e w' => e = .returned (.tuple #[.agg #[.string ⟨(thereV d s.data.toList).1.by'.toArray⟩, .int .i64 (thereV d s.data.toList).1.sure], .int .i64 (thereV d s.data.toList).2]) ∧ Below w.heap.size w w') := there_any w g m n d h s hs
  rw [there_read]
  generalize thereV d s.data.toList = T at *
  clear h
  go_enter Try.func14, Try.ntmps14
  go_wp2_with (go_at_call 29; (with_reducible refine CT.out.mono ?_); rintro e w2 ⟨rfl, hb⟩; have HB := Lib.hid hb; clear hb)
  go_ret2
  exact ⟨rfl, below_al HB.out _⟩
end Dsk
end Go.Proofs.Ytnbmjbelmcibgaa
