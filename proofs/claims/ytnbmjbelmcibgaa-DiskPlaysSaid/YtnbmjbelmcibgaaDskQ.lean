/- How many bytes all files have: the walk. -/
import Derived.Test.YtnbmjbelmcibgaaDskZ
import Derived.Deep.Cut
import Derived.Deep.DeepMust
import Derived.Deep.LoopGhost
set_option linter.unusedSimpArgs false
set_option linter.unusedVariables false
namespace Go.Proofs.Ytnbmjbelmcibgaa
open Go.RowKit Go.Great Go.Maps
namespace Dsk
theorem key_inv {key : Value} {kl : Lit} (h : keyOf Try.prog 9 key = some kl) : ∃ x : ByteArray, key = .string x ∧ kl = .string x.data.toList := by
  cases key <;> simp [keyOf, Try.underlying9, mapKey] at h
  exact ⟨_, rfl, h.2.symm⟩
def mkV (c : ByteArray × Int) : Value := .agg #[.string c.1, .int .i64 c.2]
theorem elem_inv {v : Value} {y : DataW Unit × List MemPlace} (h : fileElem v = some y) : ∃ c, v = mkV c ∧ y.1 = .agg [.lit (.string c.1.data.toList), .lit (.int .i64 c.2)] := by
  unfold fileElem at h
  split at h
  · rename_i cs
    split at h
    · rename_i s n e
      obtain ⟨l⟩ := cs
      dsimp only at e
      subst e
      exact ⟨(s, n), rfl, by rw [← Option.some.inj h]⟩
    · cases h
  · cases h
theorem enc_bytes {c : ByteArray × Int} {f : FileIn} (h : (.agg [.lit (.string c.1.data.toList), .lit (.int .i64 c.2)] : DataW Unit) = encF f) : c.1.data.toList = f.by' := by
  unfold encF at h
  injection h with h
  injection h with h3 h4
  injection h3 with h3
  injection h3 with h3
set_option maxRecDepth 100000 in
set_option maxHeartbeats 2000000 in
theorem used_any (w : World) (g m n : Nat) (d : DkIn) (h : PD w g m n d) (hd : Dok d) (hb : bytesOf d.files ≤ 1000000000) : Calls Try.prog 19 #[.pointer (some ⟨g, 0, none⟩)] w fun e w' => e = .returned (.int .i64 (usedV d)) ∧ Below w.heap.size w w' := by
  have HP := Lib.hid h
  have CW : Hid (Calls Try.prog 26 #[.pointer (some ⟨g, 0, none⟩)] w fun e w' => e = .returned (.int .i64 (if d.dead then 14 else 0)) ∧ w = w') := wakes_any w g m n d h
  obtain ⟨c0, -⟩ := h.cells
  clear h
  cases hdd : d.dead with
  | true =>
    have e : usedV d = 0 := by unfold usedV; rw [hdd]; rfl
    rw [e]
    rw [hdd] at CW
    go_enter Try.func19, Try.ntmps19
    go_wp2_with (go_at_call 26; (with_reducible refine CW.out.mono ?_); rintro e w1 ⟨rfl, rfl⟩)
    go_ret
    exact ⟨rfl, Below.refl _ _⟩
  | false =>
    have e : usedV d = (bytesOf d.files : Int) := by unfold usedV; rw [hdd]; rfl
    rw [e]
    rw [hdd] at CW
    have HF := Lib.hid hd.fok
    obtain ⟨B, hB⟩ : ∃ B, Hid (bytesOf d.files = B) := ⟨_, rfl⟩
    rw [hB.out] at hb ⊢
    go_enter Try.func19, Try.ntmps19
    go_wp2_with (first
      | (go_at_call 26; (with_reducible refine CW.out.mono ?_); rintro e w1 ⟨rfl, rfl⟩)
      | (at_range; refine wpList_range_own _ rfl (.tmp 12) 55 rfl 9 63 law Try.underlying55 fileElem m n _ rfl HP.out.own ?_; intro w0 hrg0 hg0 hs0))
    go_frame
    go_loopw [3] (fun v3 wr => ∃ (T : Nat) (left : Lit → Bool) (cnt : Nat), v3 = .int .i64 T ∧ Hid (T + toCome left d.files = B) ∧ Hid (wr.ranges Try.prog 9 fileElem m w.heap.size n (datum d.files) left cnt) ∧ Hid (Below w.heap.size w wr)) (fun _ wr => wr.rangeLeft m w.heap.size)
    case atStart => exact ⟨0, _, _, rfl, by show _ = _; rw [come_all HF.out, hB.out]; omega, hrg0, (Below.refl w.heap.size w).grown hg0 (Nat.le_refl _) (fun k e => by cases e)⟩
    case round =>
      obtain ⟨T, left, cnt, rfl, HS, HR, HBw⟩ := hrel
      go_wp2_with (at_next; refine wpList_next_ranges _ rfl (.tmp 13) rfl 9 law fileElem Value.string mkV (fun key kl h => by obtain ⟨x, e, -⟩ := key_inv h; exact ⟨x, e⟩) (fun v y h => by obtain ⟨c, e, -⟩ := elem_inv h; exact ⟨c, e⟩) m w.heap.size n _ left cnt rfl HR.out ?_ ?_)
      · intro _ hl0
        have hT : T = B := by have := HS.out; rw [come_none hl0] at this; omega
        clear hl0
        go_wp2
        go_ret
        exact ⟨by rw [hT]; rfl, HBw.out⟩
      · intro x c1 c2 kl y1 y2 w1 cnt1 hkey hleft helem hat hrg1 hlt hg1 hs1 hen
        obtain ⟨x', ex, ekl⟩ := key_inv hkey
        cases ex
        subst ekl
        obtain ⟨c', ec, ey⟩ := elem_inv helem
        obtain ⟨f, hf, ef⟩ := entry_file (y := (y1, y2)) hat
        have hc : c' = (c1, c2) := by
          unfold mkV at ec
          injection ec with ec
          injection ec with ec
          injection ec with e1 e2
          injection e2 with e2 _
          injection e1 with e1
          injection e2 with _ e2
          cases c'
          simp_all
        subst hc
        have hby := enc_bytes (ey.symm.trans ef)
        obtain ⟨hm1, hm2⟩ := (find_some HF.out.rise _ f).1 hf
        have hst := come_step left HF.out.rise f hm1 (by rw [hm2]; exact hleft)
        rw [hm2] at hst
        have hlen : c1.size = f.by'.length := by rw [← hby, Array.length_toList]; rfl
        have HS1 : Hid ((T + c1.size) + toCome (fun z => left z && !z.sameKey (.string x.data.toList)) d.files = B) := by
          show _ = _
          have := HS.out
          omega
        have hsmall : T + c1.size ≤ 1000000000 := by have := HS1.out; omega
        have HR1 := Lib.hid hrg1
        have HB1 : Hid (Below w.heap.size w w1) := HBw.out.grown hg1 HBw.out.size (fun k e => by cases e; exact Nat.le_refl _)
        have hcl : cnt = wr.rangeLeft m w.heap.size := HR.out.left_eq.symm
        unfold mkV at hen ⊢
        clear hkey hleft helem hat hrg1 ec ey ef hf hby hm1 hm2 hst hlen
        dsimp only at HS1 hsmall hen ⊢
        generalize c1 = cb at *
        generalize c2 = ci at *
        go_wp2
        go_roundw
        case rel => exact ⟨T + cb.size, _, _, by go_num, HS1, HR1.out.alloc _, below_al HB1.out _⟩
        case measure => rw [(HR1.out.alloc _).left_eq, ← hcl]; exact hlt
end Dsk
end Go.Proofs.Ytnbmjbelmcibgaa
