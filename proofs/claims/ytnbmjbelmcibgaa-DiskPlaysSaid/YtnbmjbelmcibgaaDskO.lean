/- A disk that nobody made: the walks. -/
import Derived.Test.YtnbmjbelmcibgaaDskK
set_option linter.unusedSimpArgs false
set_option linter.unusedVariables false
namespace Go.Proofs.Ytnbmjbelmcibgaa
open Go.RowKit Go.Great Go.Maps
namespace Dsk
/-- A disk that nobody made. -/
def NoD (w : World) (p : Value) : Prop := ∀ W, Below w.heap.size w W → Calls Try.prog 30 #[p] W fun e w' => e = .returned (.bool false) ∧ W = w'
theorem NoD.below {w w' : World} {p : Value} (h : NoD w p) (hb : Below w.heap.size w w') : NoD w' p := fun W hW => h W (below2 hb hW)
theorem noD_nil (w : World) : NoD w (.pointer none) := fun W _ => given_nil W
theorem noD_zero (w : World) (g : Nat) (hg : g < w.heap.size) (h : w.cell? ⟨g, 0, none⟩ = some (.map none)) : NoD w (.pointer (some ⟨g, 0, none⟩)) := fun W hW => given_zero W g ((hW.cell hg).trans h)
set_option maxRecDepth 100000 in
theorem wakes_no (w : World) (p : Value) (h : NoD w p) : Calls Try.prog 26 #[p] w fun e w' => e = .returned (.int .i64 1) ∧ w = w' := by
  have CG := Lib.hid (h w (Below.refl _ _))
  clear h
  go_enter Try.func26, Try.ntmps26
  go_wp2_with (go_at_call 30; (refine CG.out.mono ?_); rintro e w2 ⟨rfl, rfl⟩)
  go_ret
  exact ⟨rfl, rfl⟩
set_option maxRecDepth 100000 in
theorem there_no (w : World) (p : Value) (h : NoD w p) (s : ByteArray) : Calls Try.prog 29 #[p, .string s] w fun e w' => e = .returned (.tuple #[.agg #[.string ⟨#[]⟩, .int .i64 0], .int .i64 1]) ∧ Below w.heap.size w w' := by
  have CW : Hid (∀ W, Below w.heap.size w W → Calls Try.prog 26 #[p] W fun e w' => e = .returned (.int .i64 1) ∧ W = w') := fun W hW => wakes_no W p (h.below hW)
  clear h
  go_enter Try.func29, Try.ntmps29
  go_wp2_with (go_at_call 26; (refine (CW.out _ (below_al (Below.refl _ _) _)).mono ?_); rintro e w2 ⟨rfl, rfl⟩)
  refine bodyPost_ret (v := .tuple #[.agg #[.string ⟨#[]⟩, .int .i64 0], .int .i64 1]) (ret_file rfl _ _ w.heap.size _ _ _ rfl rfl ?_) rfl ⟨rfl, ?_⟩
  · exact heap_alloc_new w _
  · exact below_al (Below.refl _ _) _
set_option maxRecDepth 100000 in
theorem append_no (w : World) (p : Value) (h : NoD w p) (s t : ByteArray) : Calls Try.prog 9 #[p, .string s, .string t] w fun e w' => e = .returned (.int .i64 1) ∧ w = w' := by
  have CW := Lib.hid (wakes_no w p h)
  clear h
  go_enter Try.func9, Try.ntmps9
  go_wp2_with (go_at_call 26; (refine CW.out.mono ?_); rintro e w2 ⟨rfl, rfl⟩)
  go_ret
  exact ⟨rfl, rfl⟩
set_option maxRecDepth 100000 in
theorem rename_no (w : World) (p : Value) (h : NoD w p) (s t : ByteArray) : Calls Try.prog 12 #[p, .string s, .string t] w fun e w' => e = .returned (.int .i64 1) ∧ w = w' := by
  have CW := Lib.hid (wakes_no w p h)
  clear h
  go_enter Try.func12, Try.ntmps12
  go_wp2_with (go_at_call 26; (refine CW.out.mono ?_); rintro e w2 ⟨rfl, rfl⟩)
  go_ret
  exact ⟨rfl, rfl⟩
set_option maxRecDepth 100000 in
theorem used_no (w : World) (p : Value) (h : NoD w p) : Calls Try.prog 19 #[p] w fun e w' => e = .returned (.int .i64 0) ∧ w = w' := by
  have CW := Lib.hid (wakes_no w p h)
  clear h
  go_enter Try.func19, Try.ntmps19
  go_wp2_with (go_at_call 26; (refine CW.out.mono ?_); rintro e w2 ⟨rfl, rfl⟩)
  go_ret
  exact ⟨rfl, rfl⟩
set_option maxRecDepth 100000 in
theorem names_no (w : World) (p : Value) (h : NoD w p) : Calls Try.prog 24 #[p] w fun e w' => e = .returned (.slice none 0 0) ∧ w = w' := by
  have CW := Lib.hid (wakes_no w p h)
  clear h
  go_enter Try.func24, Try.ntmps24
  go_wp2_with (go_at_call 26; (refine CW.out.mono ?_); rintro e w2 ⟨rfl, rfl⟩)
  go_ret
  exact ⟨rfl, rfl⟩
set_option maxRecDepth 100000 in
theorem ops_no (w : World) (p : Value) (h : NoD w p) : Calls Try.prog 21 #[p] w fun e w' => e = .returned (.int .i64 0) ∧ w = w' := by
  have CG := Lib.hid (h w (Below.refl _ _))
  clear h
  go_enter Try.func21, Try.ntmps21
  go_wp2_with (go_at_call 30; (refine CG.out.mono ?_); rintro e w2 ⟨rfl, rfl⟩)
  go_ret
  exact ⟨rfl, rfl⟩
set_option maxRecDepth 100000 in
theorem dead_no (w : World) (p : Value) (h : NoD w p) : Calls Try.prog 22 #[p] w fun e w' => e = .returned (.bool true) ∧ w = w' := by
  have CG := Lib.hid (h w (Below.refl _ _))
  clear h
  go_enter Try.func22, Try.ntmps22
  go_wp2_with (go_at_call 30; (refine CG.out.mono ?_); rintro e w2 ⟨rfl, rfl⟩)
  go_ret
  exact ⟨rfl, rfl⟩
set_option maxRecDepth 100000 in
theorem crash_no (w : World) (p : Value) (h : NoD w p) (kv : Value) : Calls Try.prog 13 #[p, kv] w fun e w' => e = .returned (.int .i64 1) ∧ w = w' := by
  have CG := Lib.hid (h w (Below.refl _ _))
  clear h
  go_enter Try.func13, Try.ntmps13
  go_wp2_with (go_at_call 30; (refine CG.out.mono ?_); rintro e w2 ⟨rfl, rfl⟩)
  go_ret
  exact ⟨rfl, rfl⟩
set_option maxRecDepth 100000 in
theorem fuse_no (w : World) (p : Value) (h : NoD w p) (z : Int) (b : Bool) : Calls Try.prog 11 #[p, .int .i64 z, .bool b] w fun e w' => e = .returned (.tuple #[]) ∧ w = w' := by
  have CG := Lib.hid (h w (Below.refl _ _))
  clear h
  go_enter Try.func11, Try.ntmps11
  go_wp2_with (go_at_call 30; (refine CG.out.mono ?_); rintro e w2 ⟨rfl, rfl⟩)
  go_end0
  exact ⟨rfl, rfl⟩
set_option maxRecDepth 100000 in
theorem sync_no (w : World) (p : Value) (h : NoD w p) (s : ByteArray) : Calls Try.prog 10 #[p, .string s] w fun e w' => e = .returned (.int .i64 1) ∧ Below w.heap.size w w' := by
  have CT := Lib.hid (there_no w p h s)
  clear h
  go_enter Try.func10, Try.ntmps10
  go_wp2_with (go_at_call 29; (refine CT.out.mono ?_); rintro e w2 ⟨rfl, hb2⟩; have HB2 := Lib.hid hb2; clear hb2)
  go_ret
  exact ⟨rfl, below_al HB2.out _⟩
set_option maxRecDepth 100000 in
theorem cut_no (w : World) (p : Value) (h : NoD w p) (s : ByteArray) (z : Int) : Calls Try.prog 31 #[p, .string s, .int .i64 z] w fun e w' => e = .returned (.int .i64 1) ∧ Below w.heap.size w w' := by
  have CT := Lib.hid (there_no w p h s)
  clear h
  go_enter Try.func31, Try.ntmps31
  go_wp2_with (go_at_call 29; (refine CT.out.mono ?_); rintro e w2 ⟨rfl, hb2⟩; have HB2 := Lib.hid hb2; clear hb2)
  go_ret
  exact ⟨rfl, below_al HB2.out _⟩
set_option maxRecDepth 100000 in
theorem read_no (w : World) (p : Value) (h : NoD w p) (s : ByteArray) : Calls Try.prog 14 #[p, .string s] w fun e w' => e = .returned (.tuple #[.string ⟨#[]⟩, .int .i64 1]) ∧ Below w.heap.size w w' := by
  have CT := Lib.hid (there_no w p h s)
  clear h
  go_enter Try.func14, Try.ntmps14
  go_wp2_with (go_at_call 29; (refine CT.out.mono ?_); rintro e w2 ⟨rfl, hb2⟩; have HB2 := Lib.hid hb2; clear hb2)
  go_ret2
  exact ⟨rfl, below_al HB2.out _⟩
end Dsk
end Go.Proofs.Ytnbmjbelmcibgaa
