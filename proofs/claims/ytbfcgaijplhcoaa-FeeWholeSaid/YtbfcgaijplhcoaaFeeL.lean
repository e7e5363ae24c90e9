/- The library's insertion sort, at parts: its contract at this dump, in plain words. -/
import Derived.Test.YtbfcgaijplhcoaaFeeY
import Derived.Shelf.SlSortCmp.InsertionK
namespace Go.Proofs.Ytbfcgaijplhcoaa
open Go.RowKit Go.Shelf Go.Lib Go.Sort
namespace Fee
def insRen : Go.Shelf.Ren := ⟨fun | 20 => 38 | n => n, fun | 24 => 45 | 22 => 39 | 3 => 3 | 25 => 48 | 4 => 4 | 0 => 0 | n => n, fun | n => n⟩
theorem insLays : SlLaysF0.n20 Try.prog insRen := {
  mixed := by kernel_rfl
  f20 := ⟨ "slices.insertionSortCmpFunc[bottomry/fee.part]", of_decide_eq_true (by kernel_rfl), Try.func38.trans (congrArg some (by kernel_rfl))⟩
  t0 := Try.underlying0
  a0 := Try.isAgg0
  z0 := Try.sizeOf0
  v0 := Try.zeroValue0
  t3 := Try.underlying3
  a3 := Try.isAgg3
  z3 := Try.sizeOf3
  v3 := Try.zeroValue3
  t4 := Try.underlying4
  a4 := Try.isAgg4
  z4 := Try.sizeOf4
  v4 := Try.zeroValue4
  t22 := Try.underlying39
  a22 := Try.isAgg39
  z22 := Try.sizeOf39
  v22 := Try.zeroValue39
  t25 := Try.underlying48
  a25 := Try.isAgg48
  z25 := Try.sizeOf48
  v25 := Try.zeroValue48 }
/-- A part's two cells. -/
def encP (x : Int × Int) : List Value := [.int .i64 x.1, .int .u64 x.2]
theorem parts_grow (x y : Int × Int) (W : World) : Calls Try.prog 24 #[.agg #[.int .i64 x.1, .int .u64 x.2], .agg #[.int .i64 y.1, .int .u64 y.2]] W fun e w' => e = .returned (.int .i64 (cmpV y.2 x.2)) ∧ ∃ q os', w' = grow (W.drewN q) os' := by
  have CC : Hid (∀ W, Calls Try.prog 25 #[.int .u64 y.2, .int .u64 x.2] W fun e w' => e = .returned (.int .i64 (cmpV y.2 x.2)) ∧ W = w') := compare_any y.2 x.2
  generalize cmpV y.2 x.2 = V at *
  go_enter Try.func24, Try.ntmps24
  go_wp2_with (go_at_call 25; ((with_reducible refine (CC.out _).mono ?_); rintro e w1 ⟨rfl, rfl⟩))
  go_ret
  exact ⟨rfl, 0, _, by rw [alloc_eq_grow, alloc_eq_grow, grow_grow]; rfl⟩
def cfP (x y : Int × Int) : Int := cmpV y.2 x.2
theorem parts_lays (blk off size : Nat) (w : World) : CmpLays Try.prog 24 #[] encP 2 cfP blk off size w :=
  fun _ _ _ _ x y => parts_grow x y _
theorem isAggP : ∀ w, (isAgg (insRen.t 24)).run Try.prog w = .ok true w := Try.isAgg45
theorem sizeP : ∀ w, (Go.sizeOf (insRen.t 24)).run Try.prog w = .ok 2 w := Try.sizeOf45
theorem ins_any (blk off cap : Nat) (d : Array (Int × Int)) (w : World) (hH : HoldsK encP 2 w blk off d) (hblk : blk < w.heap.size) (h16 : d.size ≤ 16) :
    Calls Try.prog 38 #[.slice (some ⟨blk, off, none⟩) d.size cap, .int .i64 0, .int .i64 d.size, .func (.func 24) #[] #[]] w fun e w' =>
      e = .returned (.tuple #[]) ∧ ∃ n os, w' = sortWorldK encP 2 w blk off n (Sort.insertionSort (ltOf cfP) d 0 d.size) os := by
  have eg : ∀ args w, (callFunc 24 args).run Try.prog w = .ok (.enter 24 args) w := enters_of Try.func24 (by kernel_rfl) rfl
  exact AnyQ.insertionSortCmpFunc insLays 2 isAggP sizeP encP (fun _ => rfl) (fun x v hv => by simp [encP] at hv; rcases hv with rfl | rfl <;> rfl) cfP 24 #[] blk off cap 0 d.size d w eg (parts_lays blk off d.size w) hH hblk (Nat.zero_le _) (Nat.le_refl _) (by omega)
theorem stable_any (blk off cap : Nat) (d : Array (Int × Int)) (w : World) (hH : HoldsK encP 2 w blk off d) (hblk : blk < w.heap.size) (h16 : d.size ≤ 16) :
    Calls Try.prog 33 #[.slice (some ⟨blk, off, none⟩) d.size cap, .int .i64 d.size, .func (.func 24) #[] #[]] w fun e w' =>
      e = .returned (.tuple #[]) ∧ ∃ n os, w' = sortWorldK encP 2 w blk off n (Sort.insertionSort (ltOf cfP) d 0 d.size) os := by
  have CC := Lib.hid (ins_any blk off cap d w hH hblk h16)
  have d1 : decide ((20 : Int) ≤ (d.size : Int)) = false := decide_eq_false (by omega)
  have d2 : decide ((20 : Int) < (d.size : Int)) = false := decide_eq_false (by omega)
  clear hH
  generalize Sort.insertionSort (ltOf cfP) d 0 d.size = r at *
  go_enter Try.func33, Try.ntmps33
  go_wp2
  go_loop [7, 8] (fun a b => a = .int .i64 0 ∧ b = .int .i64 20) (fun _ _ => 0)
  case atStart => exact ⟨rfl, rfl⟩
  case round =>
    obtain ⟨rfl, rfl⟩ := hrel
    go_wp2_with (go_at_call 38; ((with_reducible refine CC.out.mono ?_); rintro e w1 ⟨rfl, n, os, rfl⟩))
    go_loop [6] (fun c => c = .int .i64 20) (fun _ => 0)
    case atStart => rfl
    case round =>
      obtain rfl := hrel
      go_wp2
      go_end0
      exact ⟨rfl, n, os, rfl⟩
theorem sort_any (blk off cap : Nat) (d : Array (Int × Int)) (w : World) (hH : HoldsK encP 2 w blk off d) (hblk : blk < w.heap.size) (h16 : d.size ≤ 16) :
    Calls Try.prog 23 #[.slice (some ⟨blk, off, none⟩) d.size cap, .func (.func 24) #[] #[]] w fun e w' =>
      e = .returned (.tuple #[]) ∧ ∃ n os, w' = sortWorldK encP 2 w blk off n (Sort.insertionSort (ltOf cfP) d 0 d.size) os := by
  have CC := Lib.hid (stable_any blk off cap d w hH hblk h16)
  clear hH
  generalize Sort.insertionSort (ltOf cfP) d 0 d.size = r at *
  go_enter Try.func23, Try.ntmps23
  go_wp2_with (go_at_call 33; ((with_reducible refine CC.out.mono ?_); rintro e w1 ⟨rfl, n, os, rfl⟩))
  go_end0
  exact ⟨rfl, n, os, rfl⟩
end Fee
end Go.Proofs.Ytbfcgaijplhcoaa
