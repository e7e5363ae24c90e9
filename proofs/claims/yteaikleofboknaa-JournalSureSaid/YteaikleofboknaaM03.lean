/- Texts put together: Iter, In, DskS, DskC, InI, DskB. -/
import Derived.Shelf.SlGeneric
import Derived.Shelf.SlIter.Nil
import Derived.Shelf.SortM.Plain
import Derived.Shelf.SortM.SortNone
import Derived.Ground.GgzProg
import Derived.Ground.SlgmProg
import Derived.Test.YteaikleofboknaaProg
import Derived.Test.YteaikleofboknaaChecked
import Derived.WalkKit
import Derived.ProofKit
import Derived.Below
import Derived.SliceStrings
import Derived.WalkSmall
import Derived.Test.YteaikleofboknaaM02
import Derived.Sort.KeysCollected
import Derived.WideShapes
import Derived.Deep.Onto
import Derived.ChangeSlices
import Derived.Laws.BitsLemmas
import Derived.RowKit
set_option linter.all false
section
namespace Go.Proofs
open Go.Shelf
def Try.keys47_ren : Go.Shelf.Ren := ⟨fun | 7 => 47 | 10 => 63 | n => n, fun | 23 => 54 | 26 => 9 | 3 => 82 | 28 => 79 | 0 => 0 | 27 => 78 | 33 => 49 | 4 => 4 | n => n, fun | n => n⟩
theorem Try.keys47 : Go.Proofs.SlLaysZ.n7 Try.prog Try.keys47_ren := {
  mixed := by kernel_rfl
  f7 := ⟨Try.f47.name, by decide, Try.func47.trans (congrArg some (by kernel_rfl))⟩
  f10 := ⟨Try.f63.name, by decide, Try.func63.trans (congrArg some (by kernel_rfl))⟩
  t0 := Try.underlying0
  a0 := Try.isAgg0
  z0 := Try.sizeOf0
  v0 := Try.zeroValue0
  t4 := Try.underlying4
  a4 := Try.isAgg4
  z4 := Try.sizeOf4
  v4 := Try.zeroValue4
  t23 := Try.underlying54
  a23 := Try.isAgg54
  z23 := Try.sizeOf54
  v23 := Try.zeroValue54
  t26 := Try.underlying9
  a26 := Try.isAgg9
  z26 := Try.sizeOf9
  v26 := Try.zeroValue9
  t27 := Try.underlying78
  a27 := Try.isAgg78
  z27 := Try.sizeOf78
  v27 := Try.zeroValue78
  t28 := Try.underlying79
  a28 := Try.isAgg79
  z28 := Try.sizeOf79
  v28 := Try.zeroValue79
  t33 := Try.underlying49
  a33 := Try.isAgg49
  z33 := Try.sizeOf49
  v33 := Try.zeroValue49 }
def Try.sorted46_ren : Go.Shelf.Ren := ⟨fun | 6 => 46 | 8 => 61 | 9 => 62 | 11 => 69 | 13 => 71 | 12 => 70 | 23 => 84 | 24 => 85 | 14 => 75 | 15 => 76 | 16 => 77 | 17 => 78 | 18 => 79 | 19 => 80 | 20 => 81 | 21 => 82 | 22 => 83 | 25 => 89 | 26 => 90 | 27 => 91 | 28 => 92 | 29 => 93 | 30 => 94 | 31 => 97 | n => n, fun | 26 => 9 | 28 => 79 | 24 => 31 | 0 => 0 | 3 => 3 | 37 => 98 | 48 => 115 | 50 => 127 | 4 => 4 | 40 => 119 | 39 => 118 | 45 => 67 | 5 => 5 | 9 => 9 | 51 => 132 | 55 => 136 | 57 => 141 | 58 => 142 | 33 => 49 | n => n, fun | n => n⟩
theorem Try.sorted46 : Go.Proofs.SlLaysZ.n6 Try.prog Try.sorted46_ren := {
  mixed := by kernel_rfl
  f6 := ⟨Try.f46.name, by decide, Try.func46.trans (congrArg some (by kernel_rfl))⟩
  f8 := ⟨Try.f61.name, by decide, Try.func61.trans (congrArg some (by kernel_rfl))⟩
  f11 := ⟨Try.f69.name, by decide, Try.func69.trans (congrArg some (by kernel_rfl))⟩
  t0 := Try.underlying0
  a0 := Try.isAgg0
  z0 := Try.sizeOf0
  v0 := Try.zeroValue0
  t24 := Try.underlying31
  a24 := Try.isAgg31
  z24 := Try.sizeOf31
  v24 := Try.zeroValue31
  t26 := Try.underlying9
  a26 := Try.isAgg9
  z26 := Try.sizeOf9
  v26 := Try.zeroValue9
  t28 := Try.underlying79
  a28 := Try.isAgg79
  z28 := Try.sizeOf79
  v28 := Try.zeroValue79
  i26 := by kernel_rfl }
def Try.sort62_ren : Go.Shelf.Ren := ⟨fun | 6 => 62 | 8 => 71 | 9 => 70 | 19 => 84 | 20 => 85 | 21 => 75 | 22 => 76 | 23 => 77 | 24 => 78 | 25 => 79 | 26 => 80 | 27 => 81 | 28 => 82 | 29 => 83 | 36 => 89 | 31 => 90 | 32 => 91 | 37 => 92 | 38 => 93 | 39 => 94 | 41 => 97 | n => n, fun | 27 => 31 | 29 => 9 | 3 => 3 | 32 => 98 | 26 => 31 | 0 => 0 | 44 => 115 | 46 => 127 | 4 => 4 | 36 => 119 | 35 => 118 | 41 => 67 | 5 => 5 | 9 => 9 | 53 => 132 | 57 => 136 | 63 => 141 | 64 => 142 | n => n, fun | n => n⟩
theorem Try.sort62 : Go.Proofs.SlLaysM.n6 Try.prog Try.sort62_ren := {
  mixed := by kernel_rfl
  f6 := ⟨Try.f62.name, by decide, Try.func62.trans (congrArg some (by kernel_rfl))⟩
  f8 := Try.func71.trans (congrArg some (by kernel_rfl))
  f9 := ⟨Try.f70.name, by decide, Try.func70.trans (congrArg some (by kernel_rfl))⟩
  f19 := Try.func84.trans (congrArg some (by kernel_rfl))
  f20 := Try.func85.trans (congrArg some (by kernel_rfl))
  f21 := ⟨Try.f75.name, by decide, Try.func75.trans (congrArg some (by kernel_rfl))⟩
  f22 := ⟨Try.f76.name, by decide, Try.func76.trans (congrArg some (by kernel_rfl))⟩
  f23 := ⟨Try.f77.name, by decide, Try.func77.trans (congrArg some (by kernel_rfl))⟩
  f24 := ⟨Try.f78.name, by decide, Try.func78.trans (congrArg some (by kernel_rfl))⟩
  f25 := ⟨Try.f79.name, by decide, Try.func79.trans (congrArg some (by kernel_rfl))⟩
  f26 := ⟨Try.f80.name, by decide, Try.func80.trans (congrArg some (by kernel_rfl))⟩
  f27 := ⟨Try.f81.name, by decide, Try.func81.trans (congrArg some (by kernel_rfl))⟩
  f28 := ⟨Try.f82.name, by decide, Try.func82.trans (congrArg some (by kernel_rfl))⟩
  f29 := ⟨Try.f83.name, by decide, Try.func83.trans (congrArg some (by kernel_rfl))⟩
  f31 := Try.func90.trans (congrArg some (by kernel_rfl))
  f32 := Try.func91.trans (congrArg some (by kernel_rfl))
  f36 := ⟨Try.f89.name, by decide, Try.func89.trans (congrArg some (by kernel_rfl))⟩
  f37 := ⟨Try.f92.name, by decide, Try.func92.trans (congrArg some (by kernel_rfl))⟩
  f38 := ⟨Try.f93.name, by decide, Try.func93.trans (congrArg some (by kernel_rfl))⟩
  f39 := ⟨Try.f94.name, by decide, Try.func94.trans (congrArg some (by kernel_rfl))⟩
  f41 := ⟨Try.f97.name, by decide, Try.func97.trans (congrArg some (by kernel_rfl))⟩
  t0 := Try.underlying0
  a0 := Try.isAgg0
  z0 := Try.sizeOf0
  v0 := Try.zeroValue0
  t3 := Try.underlying3
  a3 := Try.isAgg3
  z3 := Try.sizeOf3
  v3 := Try.zeroValue3
  t4 := Try.underlying4
  a4 := Try.isAgg4
  z4 := Try.sizeOf4
  v4 := Try.zeroValue4
  t5 := Try.underlying5
  a5 := Try.isAgg5
  z5 := Try.sizeOf5
  v5 := Try.zeroValue5
  t9 := Try.underlying9
  a9 := Try.isAgg9
  z9 := Try.sizeOf9
  v9 := Try.zeroValue9
  t26 := Try.underlying31
  a26 := Try.isAgg31
  z26 := Try.sizeOf31
  v26 := Try.zeroValue31
  t27 := Try.underlying31
  a27 := Try.isAgg31
  z27 := Try.sizeOf31
  v27 := Try.zeroValue31
  t29 := Try.underlying9
  a29 := Try.isAgg9
  z29 := Try.sizeOf9
  v29 := Try.zeroValue9
  t32 := Try.underlying98
  a32 := Try.isAgg98
  z32 := Try.sizeOf98
  v32 := Try.zeroValue98
  t35 := Try.underlying118
  a35 := Try.isAgg118
  z35 := Try.sizeOf118
  v35 := Try.zeroValue118
  t36 := Try.underlying119
  a36 := Try.isAgg119
  z36 := Try.sizeOf119
  v36 := Try.zeroValue119
  t41 := Try.underlying67
  a41 := Try.isAgg67
  z41 := Try.sizeOf67
  v41 := Try.zeroValue67
  t44 := Try.underlying115
  a44 := Try.isAgg115
  z44 := Try.sizeOf115
  v44 := Try.zeroValue115
  t46 := Try.underlying127
  a46 := Try.isAgg127
  z46 := Try.sizeOf127
  v46 := Try.zeroValue127
  t53 := Try.underlying132
  a53 := Try.isAgg132
  z53 := Try.sizeOf132
  v53 := Try.zeroValue132
  t57 := Try.underlying136
  a57 := Try.isAgg136
  z57 := Try.sizeOf136
  v57 := Try.zeroValue136
  t63 := Try.underlying141
  a63 := Try.isAgg141
  z63 := Try.sizeOf141
  v63 := Try.zeroValue141
  t64 := Try.underlying142
  a64 := Try.isAgg142
  z64 := Try.sizeOf142
  v64 := Try.zeroValue142 }
open Go.RowKit Go.Maps Go.Sort in
theorem Try.sorts46 (m : Nat) : AnyZ.SortsIn Try.prog Try.sorted46_ren Fence.wide m :=
  ⟨fun blk off cap ss W hH hblk hsz => callsIn_wide.2 (AnyM.slices_Sort_string Try.sort62 blk off cap ss W hH hblk hsz),
   fun p cap W => callsIn_wide.2 (AnyM.slices_Sort_string_none Try.sort62 p cap W)⟩
open Go.RowKit Go.Maps Go.Sort in
theorem Try.maps_Keys_47 (mb : Option Nat) (W : World) : CallsIn Fence.wide 5 Try.prog 47 #[.map mb] W fun e w' => e = .returned (.func (.func 63) #[] #[.pointer (some ⟨W.heap.size, 0, none⟩)]) ∧ w' = W.alloc (.cells #[.map mb] 54) :=
  AnyZ.keys_in Try.keys47 Fence.wide 5 trivial rfl mb W

set_option maxHeartbeats 1000000 in
open Go.RowKit Go.Maps Go.Sort in
theorem Try.slices_Sorted_keys_46_47 {H : Type} (b nn : Nat) (D0 : DataW H) (R : Value → Option (DataW H × List MemPlace)) (w : World) (hown : w.ownsMap Try.prog 9 R b nn D0) (hmax : Maps.size D0 ≤ maxLen) (hbytes : Maps.size D0 * 16 ≤ 140737488355328) :
    CallsIn Fence.wide 5 Try.prog 46 #[.func (.func 63) #[] #[.pointer (some ⟨w.heap.size, 0, none⟩)]] (w.alloc (.cells #[.map (some b)] 54)) fun e w' => ∃ (v : Value) (ss : List (List UInt8)), e = .returned v ∧ ss.Perm (strKeys D0) ∧
      w'.ownsRow (w.alloc (.cells #[.map (some b)] 54)).heap.size 9 1 v ss.length ((ss.mergeSort (fun x y => decide (x ≤ y))).map encStr) ∧ (v = .slice none 0 0 ↔ ss = []) ∧ Below (w.alloc (.cells #[.map (some b)] 54)).heap.size (w.alloc (.cells #[.map (some b)] 54)) w' := by
  have hbl := hown.lt
  have hseq : SeqGives Fence.wide 2 Try.prog 63 #[.pointer (some ⟨w.heap.size, 0, none⟩)] encStr (fun ss => ss.Perm (strKeys D0)) (Maps.size D0) (w.alloc (.cells #[.map (some b)] 54)) :=
    AnyZ.keys_gives (ρ := Try.keys47_ren) { Try.keys47 with } Fence.wide _ trivial rfl (by omega) w.heap.size b nn D0 _ (by simp) (by simp) (by
      obtain ⟨es, clock, hb, Ft, hs, hD⟩ := hown
      exact ⟨es, clock, (Below.heap_alloc _ _ b hbl).trans hb, Ft, hs, hD⟩)
  exact AnyZ.sorted_in Try.sorted46 Fence.wide 5 trivial trivial trivial trivial rfl (by omega) (Try.sorts46 _) (enters_of Try.func62 (by kernel_rfl) rfl) 63 #[.pointer (some ⟨w.heap.size, 0, none⟩)] trivial (enters_of Try.func63 (by kernel_rfl) rfl) _ _ hmax hbytes _ hseq

set_option maxHeartbeats 1000000 in
open Go.RowKit Go.Maps Go.Sort in
theorem Try.slices_Sorted_keys_nil_46_47 (w : World) :
    CallsIn Fence.wide 5 Try.prog 46 #[.func (.func 63) #[] #[.pointer (some ⟨w.heap.size, 0, none⟩)]] (w.alloc (.cells #[.map none] 54)) fun e w' => ∃ (v : Value) (ss : List (List UInt8)), e = .returned v ∧ ss = [] ∧
      w'.ownsRow (w.alloc (.cells #[.map none] 54)).heap.size 9 1 v ss.length ((ss.mergeSort (fun x y => decide (x ≤ y))).map encStr) ∧ (v = .slice none 0 0 ↔ ss = []) ∧ Below (w.alloc (.cells #[.map none] 54)).heap.size (w.alloc (.cells #[.map none] 54)) w' := by
  have hseq : SeqGives Fence.wide 2 Try.prog 63 #[.pointer (some ⟨w.heap.size, 0, none⟩)] encStr (fun ss : List (List UInt8) => ss = []) 0 (w.alloc (.cells #[.map none] 54)) :=
    AnyZ.keys_gives_nil (ρ := Try.keys47_ren) { Try.keys47 with } Fence.wide _ trivial rfl w.heap.size _ (by simp) (by simp)
  exact AnyZ.sorted_in Try.sorted46 Fence.wide 5 trivial trivial trivial trivial rfl (by omega) (Try.sorts46 _) (enters_of Try.func62 (by kernel_rfl) rfl) 63 #[.pointer (some ⟨w.heap.size, 0, none⟩)] trivial (enters_of Try.func63 (by kernel_rfl) rfl) _ 0 (Nat.zero_le _) (by omega) _ hseq
end Go.Proofs
end
section
namespace Go.Proofs.Yteaikleofboknaa
open Go.RowKit Go.WideShapes Go.WideElems Go.ChangeAt Go.ChangeShapes
namespace In
/-- The strings that stand from an address on. -/
def Strs (w : World) (a : Option Addr) (l : List ByteArray) : Prop :=
  ∀ i, i < l.length → ∃ b off, a = some ⟨b, off, none⟩ ∧ b < w.heap.size ∧ w.cell? ⟨b, off + i, none⟩ = some (.string (l.getD i ByteArray.empty))
def IsStrs (w : World) (v : Value) (l : List ByteArray) : Prop :=
  ∃ a cap, v = .slice a l.length cap ∧ l.length ≤ maxLen ∧ Strs w a l ∧ (∀ s ∈ l, s.size ≤ maxLen) ∧ l.length ≤ cap ∧ cap ≤ maxLen
theorem Strs.below {w w' : World} {a : Option Addr} {l : List ByteArray} (h : Strs w a l) (hb : Below w.heap.size w w') : Strs w' a l := fun i hi => by
  obtain ⟨b, off, ha, hlt, hc⟩ := h i hi
  exact ⟨b, off, ha, Nat.lt_of_lt_of_le hlt hb.size, (hb.cell (p := ⟨b, off + i, none⟩) hlt).trans hc⟩
theorem cell_addr {w : World} {a : Addr} {i : Nat} {v : Value} (h : w.cell? (a.add i) = some v) (h0 : ∃ v0, w.cell? (a.add 0) = some v0) : ∃ b off, a = ⟨b, off, none⟩ ∧ b < w.heap.size ∧ w.cell? ⟨b, off + i, none⟩ = some v := by
  obtain ⟨b, off, spot⟩ := a
  obtain ⟨v0, h0⟩ := h0
  have hs : spot = none := by simpa [Addr.add] using World.cell?_spot h0
  subst hs
  refine ⟨b, off, rfl, block_lt_of_cell h0, ?_⟩
  have e : (⟨b, off, none⟩ : Addr).add i = ⟨b, off + i, none⟩ := by unfold Addr.add; split <;> simp_all
  rwa [e] at h
theorem isStrs_of {H : Type} {enc : TypeId × Value → H} {P : Program} {t e : TypeId} (ht : P.underlying t = some (.slice e)) (he : P.underlying e = some .string) (hc : P.cellsOf e = 1) {W : World} {r : Reach} {b0 : Nat} {v : Value} {d : DataW H} {p : List MemPlace} {base : Nat} {spare held : _}
    (hv : Value.okWide P W r b0 t v) (h : DataW.Trod enc P W base spare held t v d p) : ∃ l, IsStrs W v l := by
  obtain ⟨a0, len, cap, rfl⟩ := okWide_slice ht hv
  obtain ⟨fuel, hf⟩ := h
  rcases open_strings ht he hc hf with ⟨hcs, _⟩ | ⟨x, l, c, ss, hcs, _, hl, hm, hz, _, hcell, hws⟩
  · simp [Value.cells] at hcs
    obtain ⟨rfl, rfl, rfl⟩ := hcs
    exact ⟨[], none, 0, rfl, Nat.zero_le _, fun i hi => absurd hi (Nat.not_lt_zero i), fun s hs => (by cases hs), Nat.le_refl _, Nat.zero_le _⟩
  · simp [Value.cells] at hcs
    obtain ⟨rfl, rfl, rfl⟩ := hcs
    have hlz : len ≤ ss.length := by rw [hz]; split <;> omega
    refine ⟨ss.take len, some x, cap, by rw [List.length_take, Nat.min_eq_left hlz], by rw [List.length_take]; omega, fun i hi => ?_, fun s hs => hws s (List.mem_of_mem_take hs), by rw [List.length_take]; omega, hm⟩
    rw [List.length_take, Nat.min_eq_left hlz] at hi
    obtain ⟨b, off, rfl, hb, hc⟩ := cell_addr (hcell i (by omega)) ⟨_, hcell 0 (by omega)⟩
    refine ⟨b, off, rfl, hb, ?_⟩
    rw [hc]
    simp [List.getD, hi]
/-- Strings as values. -/
def strVals (l : List ByteArray) : List Value := l.map Value.string
theorem Strs.drewN {w : World} {a : Option Addr} {l : List ByteArray} (h : Strs w a l) (q : Nat) : Strs (w.drewN q) a l := h
theorem strs_of_own {w : World} {base : Nat} {T : TypeId} {v : Value} {l : List ByteArray} (h : w.ownsRow base T 1 v l.length (strVals l)) : ∃ a cap, v = .slice a l.length cap ∧ Strs w a l := by
  rcases h.2 with ⟨rfl, h0⟩ | ⟨g, cap, cur, rfl, _, hg, _⟩
  · exact ⟨none, 0, by rw [h0], fun i hi => by omega⟩
  · refine ⟨some ⟨g, 0, none⟩, cap, rfl, fun i hi => ⟨g, 0, rfl, ?_, ?_⟩⟩
    · exact (Array.getElem?_eq_some_iff.1 hg).1
    · have := h.cells rfl i (.string (l.getD i ByteArray.empty)) (by simp [strVals, List.getD, hi])
      have hadd : (⟨g, 0, none⟩ : Addr).add i = ⟨g, 0 + i, none⟩ := by unfold Addr.add; split <;> simp_all
      rwa [hadd] at this
end In
end Go.Proofs.Yteaikleofboknaa
end
section
namespace Go.Proofs.Yteaikleofboknaa
open Go.RowKit Go.Great Go.Maps
namespace Dsk
theorem bytes_le : ∀ (a b : List UInt8), bytesBefore a b = true → a ≤ b
  | [], b, _ => List.nil_le b
  | a :: r, [], h => by cases h
  | a :: r, b :: s, h => by
    rw [List.cons_le_cons_iff]
    unfold bytesBefore at h
    rcases (Bool.or_eq_true _ _).mp h with h | h
    · exact Or.inl (of_decide_eq_true h)
    · obtain ⟨h1, h2⟩ := (Bool.and_eq_true _ _).mp h
      exact Or.inr ⟨eq_of_beq h1, bytes_le r s h2⟩
def nmsOf (l : List FileIn) : List (List UInt8) := l.map fun f => f.nm
theorem keys_datum (l : List FileIn) : strKeys (datum l) = nmsOf l := by
  unfold strKeys datum nmsOf
  dsimp only
  rw [List.map_map]
  rfl
theorem sorted_nms {l : List FileIn} (h : Fok l) {ss : List (List UInt8)} (hp : ss.Perm (strKeys (datum l))) : ss.mergeSort (fun x y => decide (x ≤ y)) = nmsOf l := by
  rw [keys_datum] at hp
  rw [show ss.mergeSort (fun x y => decide (x ≤ y)) = ss.mergeSort leB from rfl, mergeSort_of_perm hp]
  refine List.mergeSort_of_pairwise ?_
  unfold nmsOf
  rw [List.pairwise_map]
  refine h.rise.imp fun {a b} hab => ?_
  exact decide_eq_true (bytes_le _ _ hab)
/-- Texts, as they stand in a row. -/
def rowOf (l : List (List UInt8)) : List Value := l.map Go.Proofs.encStr
theorem names_dead {d : DkIn} (h : d.dead = true) : namesV d = [] := by unfold namesV; rw [h]; rfl
theorem names_live {d : DkIn} (h : d.dead = false) : namesV d = nmsOf d.files := by unfold namesV; rw [h]; rfl
set_option maxRecDepth 100000 in
set_option maxHeartbeats 2000000 in
theorem names_any (w : World) (g m n : Nat) (d : DkIn) (h : PD w g m n d) (hd : Dok d) (hn : n < 1000000) : Calls Try.prog 20 #[.pointer (some ⟨g, 0, none⟩)] w fun e w' => ∃ v, e = .returned v ∧ Hid (w'.ownsRow w.heap.size 9 1 v (namesV d).length (rowOf (namesV d))) ∧ Hid (Below w.heap.size w w') := by
  have HP := Lib.hid h
  have CW : Hid (Calls Try.prog 45 #[.pointer (some ⟨g, 0, none⟩)] w fun e w' => e = .returned (.int .i64 (if d.dead then 14 else 0)) ∧ w = w') := wakes_any w g m n d h
  obtain ⟨c0, -⟩ := h.cells
  have hl : g < w.heap.size := h.lt.1
  have hml : m < w.heap.size := h.lt.2
  clear h
  cases hdd : d.dead with
  | true =>
    rw [names_dead hdd]
    rw [hdd] at CW
    go_enter Try.func20, Try.ntmps20
    go_wp2_with (go_at_call 45; (with_reducible refine CW.out.mono ?_); rintro e w1 ⟨rfl, rfl⟩)
    go_ret
    exact ⟨_, rfl, World.ownsRow_nil _ _ _ _, Below.refl _ _⟩
  | false =>
    rw [names_live hdd]
    rw [hdd] at CW
    have hsz : Maps.size (datum d.files) ≤ n := HP.out.own.size_le
    apply (callsIn_wide (n := 6)).1
    have hfK : Fence.wide.fn 47 := trivial
    have hfS : Fence.wide.fn 46 := trivial
    have hfW : Fence.wide.fn 45 := trivial
    have CW2 : Hid (CallsIn Fence.wide 5 Try.prog 45 #[.pointer (some ⟨g, 0, none⟩)] w fun e w' => e = .returned (.int .i64 0) ∧ w = w') := callsIn_wide.2 CW.out
    refine callsIn_of_wp Try.func20 rfl trivial ?_
    simp only [Try.ntmps20, List.size_toArray, List.length_cons, List.length_nil, Nat.reduceAdd, Nat.reduceSub, Array.replicate_succ, Array.replicate_zero, List.push_toArray, List.append_toArray, List.nil_append, List.cons_append]
    gi_wp2_with (first
      | (gi_at_call 45; refine CW2.out.mono ?_; rintro e w1 ⟨rfl, rfl⟩)
      | (gi_at_call 47; refine (Try.maps_Keys_47 _ _).mono ?_; rintro e w' ⟨rfl, rfl⟩)
      | (gi_at_call 46; refine (Try.slices_Sorted_keys_46_47 m n (datum d.files) fileElem w HP.out.own (by unfold maxLen; omega) (by omega)).mono ?_; rintro e w' ⟨v, ss, rfl, hS, hrow, hnil, hb⟩))
    go_ret
    rw [sorted_nms hd.fok hS] at hrow
    have hlen : ss.length = (nmsOf d.files).length := by rw [hS.length_eq, keys_datum]
    rw [hlen] at hrow
    exact ⟨v, rfl, hrow.mono (by simp), (below_al (Below.refl _ _) _).trans (hb.mono (by simp))⟩
end Dsk
end Go.Proofs.Yteaikleofboknaa
end
section
namespace Go.Proofs.Yteaikleofboknaa
open Go.RowKit Go.Great Go.Maps
namespace Dsk
theorem crash_cons (keep : List Int) (f : FileIn) (l : List FileIn) (i : Nat) : crashF keep i (f :: l) = if leftOf keep i f = 0 then crashF keep (i + 1) l else ⟨f.nm, f.by'.take (leftOf keep i f), leftOf keep i f⟩ :: crashF keep (i + 1) l := rfl
theorem crash_append (keep : List Int) : ∀ (a b : List FileIn) (i : Nat), crashF keep i (a ++ b) = crashF keep i a ++ crashF keep (i + a.length) b
  | [], b, i => rfl
  | f :: a, b, i => by
    have ih := crash_append keep a b (i + 1)
    rw [show i + 1 + a.length = i + (f :: a).length from by rw [List.length_cons]; omega] at ih
    rw [List.cons_append, crash_cons, crash_cons, ih]
    split
    · rfl
    · rw [List.cons_append]
/-- The files when so many were looked at. -/
def midC (keep : List Int) (l : List FileIn) (i : Nat) : List FileIn := crashF keep 0 (l.take i) ++ l.drop i
theorem mid_zero (keep : List Int) (l : List FileIn) : midC keep l 0 = l := by unfold midC; simp [crashF]
theorem mid_all (keep : List Int) (l : List FileIn) : midC keep l l.length = crashF keep 0 l := by unfold midC; simp
theorem mid_at (keep : List Int) (l : List FileIn) (i : Nat) (h : i < l.length) : midC keep l i = crashF keep 0 (l.take i) ++ l[i] :: l.drop (i + 1) := by
  unfold midC
  rw [List.drop_eq_getElem_cons h]
theorem mid_next (keep : List Int) (l : List FileIn) (i : Nat) (h : i < l.length) : midC keep l (i + 1) = crashF keep 0 (l.take i) ++ ((if leftOf keep i l[i] = 0 then [] else [⟨l[i].nm, l[i].by'.take (leftOf keep i l[i]), leftOf keep i l[i]⟩]) ++ l.drop (i + 1)) := by
  unfold midC
  rw [List.take_succ_eq_append_getElem h, crash_append, List.append_assoc]
  congr 2
  rw [List.length_take, Nat.min_eq_left (by omega), Nat.zero_add, crash_cons]
  split <;> rfl
theorem mid_rise (keep : List Int) {l : List FileIn} (h : Fok l) (i : Nat) : (midC keep l i).Pairwise fun a b => bytesBefore a.nm b.nm = true := by
  unfold midC
  have hr := h.rise
  rw [← List.take_append_drop i l, List.pairwise_append] at hr
  obtain ⟨h1, h2, h3⟩ := hr
  rw [List.pairwise_append]
  refine ⟨crash_rise keep _ 0 h1, h2, fun a ha b hb => ?_⟩
  obtain ⟨f, hf, j, rfl, -⟩ := crash_mem keep _ _ _ ha
  exact h3 f hf b hb
theorem mid_fok (keep : List Int) {l : List FileIn} (h : Fok l) (i : Nat) : Fok (midC keep l i) := by
  have e : ∀ f ∈ midC keep l i, (∃ g ∈ l, ∃ j, f = ⟨g.nm, g.by'.take (leftOf keep j g), leftOf keep j g⟩) ∨ f ∈ l := by
    intro f hf
    unfold midC at hf
    rcases List.mem_append.1 hf with hf | hf
    · obtain ⟨g, hg, j, e, -⟩ := crash_mem keep _ _ _ hf
      exact Or.inl ⟨g, List.mem_of_mem_take hg, j, e⟩
    · exact Or.inr (List.mem_of_mem_drop hf)
  refine ⟨mid_rise keep h i, fun f hf => ?_, fun f hf => ?_⟩
  · rcases e f hf with ⟨g, hg, j, rfl⟩ | hf
    · exact h.name g hg
    · exact h.name f hf
  · rcases e f hf with ⟨g, hg, j, rfl⟩ | hf
    · have := (left_le keep j g (h.sure g hg)).2
      show leftOf keep j g ≤ (g.by'.take (leftOf keep j g)).length
      rw [List.length_take]
      omega
    · exact h.sure f hf
theorem mid_find (keep : List Int) {l : List FileIn} (h : Fok l) (i : Nat) (hi : i < l.length) : find l[i].nm (midC keep l i) = some l[i] := by
  refine (find_some (mid_rise keep h i) _ _).2 ⟨?_, rfl⟩
  rw [mid_at keep l i hi]
  exact List.mem_append_right _ List.mem_cons_self
theorem del_mid {A B : List FileIn} {f : FileIn} (h : (A ++ f :: B).Pairwise fun a b => bytesBefore a.nm b.nm = true) : del f.nm (A ++ f :: B) = A ++ B := by
  obtain ⟨h1, h2, h3⟩ := List.pairwise_append.1 h
  obtain ⟨h4, h5⟩ := List.pairwise_cons.1 h2
  have ne : ∀ {a b : List UInt8}, bytesBefore a b = true → a ≠ b := fun {a b} h e => by rw [e, WideAt.bytes_irrefl] at h; cases h
  unfold del
  rw [List.filter_append, List.filter_cons_of_neg (by simp)]
  rw [List.filter_eq_self.2 fun a ha => by rw [decide_eq_false (ne (h3 a ha f (by simp)))]; rfl]
  rw [List.filter_eq_self.2 fun a ha => by rw [decide_eq_false (ne (h4 a ha)).symm]; rfl]
theorem ins_mid {g : FileIn} : ∀ {A B : List FileIn}, (∀ a ∈ A, bytesBefore a.nm g.nm = true) → (∀ b ∈ B, bytesBefore g.nm b.nm = true) → ins g (A ++ B) = A ++ g :: B
  | [], [], _, _ => rfl
  | [], b :: B, _, h => by
    show ins g (b :: B) = _
    unfold ins
    rw [if_pos (h b (by simp))]
    rfl
  | a :: A, B, h1, h2 => by
    have ha := h1 a (by simp)
    have hn : ¬ bytesBefore g.nm a.nm = true := fun h => by
      have := WideShapes.bytes_trans _ _ _ ha h
      rw [WideAt.bytes_irrefl] at this
      cases this
    show ins g (a :: (A ++ B)) = _
    unfold ins
    rw [if_neg hn, ins_mid (fun x hx => h1 x (by simp [hx])) h2]
    rfl
theorem put_mid {A B : List FileIn} {f g : FileIn} (e : g.nm = f.nm) (h : (A ++ f :: B).Pairwise fun a b => bytesBefore a.nm b.nm = true) : putF g (A ++ f :: B) = A ++ g :: B := by
  unfold putF
  rw [e, del_mid h]
  obtain ⟨h1, h2, h3⟩ := List.pairwise_append.1 h
  obtain ⟨h4, h5⟩ := List.pairwise_cons.1 h2
  exact ins_mid (fun a ha => by rw [e]; exact h3 a ha f (by simp)) (fun b hb => by rw [e]; exact h4 b hb)
theorem mid_gone (keep : List Int) {l : List FileIn} (h : Fok l) (i : Nat) (hi : i < l.length) (h0 : leftOf keep i l[i] = 0) : del l[i].nm (midC keep l i) = midC keep l (i + 1) := by
  have hr := mid_rise keep h i
  rw [mid_at keep l i hi] at hr ⊢
  rw [del_mid hr, mid_next keep l i hi, if_pos h0]
  rfl
theorem mid_kept (keep : List Int) {l : List FileIn} (h : Fok l) (i : Nat) (hi : i < l.length) (h0 : leftOf keep i l[i] ≠ 0) : putF ⟨l[i].nm, l[i].by'.take (leftOf keep i l[i]), leftOf keep i l[i]⟩ (midC keep l i) = midC keep l (i + 1) := by
  have hr := mid_rise keep h i
  rw [mid_at keep l i hi] at hr ⊢
  refine (put_mid (f := l[i]) (g := ⟨l[i].nm, l[i].by'.take (leftOf keep i l[i]), leftOf keep i l[i]⟩) rfl hr).trans ?_
  rw [mid_next keep l i hi, if_neg h0]
  rfl
theorem PD.tight {w : World} {g m n : Nat} {d : DkIn} (h : PD w g m n d) : PD w g m d.files.length d := by
  refine ⟨h.row, ?_, h.ne⟩
  obtain ⟨es, clock, hb, F, hs, hD⟩ := h.own
  refine ⟨es, clock, hb, F, ?_, hD⟩
  have := congrArg Maps.size hD
  simp [Maps.size, datum, length_sorted] at this
  omega
end Dsk
end Go.Proofs.Yteaikleofboknaa
end
section
namespace Go.Proofs.Yteaikleofboknaa
open Go.RowKit Go.WideShapes Go.WideElems Go.ChangeAt Go.ChangeShapes
namespace In
/-- The integers that stand from an address on. -/
def Ints (k : IntKind) (w : World) (a : Option Addr) (l : List Int) : Prop :=
  ∀ i, i < l.length → ∃ b off, a = some ⟨b, off, none⟩ ∧ b < w.heap.size ∧ w.cell? ⟨b, off + i, none⟩ = some (.int k (l.getD i 0))
def IsInts (k : IntKind) (w : World) (v : Value) (l : List Int) : Prop :=
  ∃ a cap, v = .slice a l.length cap ∧ l.length ≤ maxLen ∧ Ints k w a l ∧ (∀ n ∈ l, (Lit.int k n).wf = true) ∧ l.length ≤ cap ∧ cap ≤ maxLen
theorem Ints.below {k : IntKind} {w w' : World} {a : Option Addr} {l : List Int} (h : Ints k w a l) (hb : Below w.heap.size w w') : Ints k w' a l := fun i hi => by
  obtain ⟨b, off, ha, hlt, hc⟩ := h i hi
  exact ⟨b, off, ha, Nat.lt_of_lt_of_le hlt hb.size, (hb.cell (p := ⟨b, off + i, none⟩) hlt).trans hc⟩
theorem cell_addrI {w : World} {a : Addr} {i : Nat} {v : Value} (h : w.cell? (a.add i) = some v) (h0 : ∃ v0, w.cell? (a.add 0) = some v0) : ∃ b off, a = ⟨b, off, none⟩ ∧ b < w.heap.size ∧ w.cell? ⟨b, off + i, none⟩ = some v := by
  obtain ⟨b, off, spot⟩ := a
  obtain ⟨v0, h0⟩ := h0
  have hs : spot = none := by simpa [Addr.add] using World.cell?_spot h0
  subst hs
  refine ⟨b, off, rfl, block_lt_of_cell h0, ?_⟩
  have e : (⟨b, off, none⟩ : Addr).add i = ⟨b, off + i, none⟩ := by unfold Addr.add; split <;> simp_all
  rwa [e] at h
theorem isInts_of {H : Type} {enc : TypeId × Value → H} {P : Program} {t e : TypeId} {k : IntKind} (ht : P.underlying t = some (.slice e)) (he : P.underlying e = some (.int k)) (hc : P.cellsOf e = 1) {W : World} {r : Reach} {b0 : Nat} {v : Value} {d : DataW H} {p : List MemPlace} {base : Nat} {spare held : _}
    (hv : Value.okWide P W r b0 t v) (h : DataW.Trod enc P W base spare held t v d p) : ∃ l, IsInts k W v l := by
  obtain ⟨a0, len, cap, rfl⟩ := okWide_slice ht hv
  obtain ⟨fuel, hf⟩ := h
  rcases open_ints ht he hc hf with ⟨hcs, _⟩ | ⟨x, l, c, ss, hcs, _, hl, hm, hz, _, hcell, hws⟩
  · simp [Value.cells] at hcs
    obtain ⟨rfl, rfl, rfl⟩ := hcs
    exact ⟨[], none, 0, rfl, Nat.zero_le _, fun i hi => absurd hi (Nat.not_lt_zero i), fun s hs => (by cases hs), Nat.le_refl _, Nat.zero_le _⟩
  · simp [Value.cells] at hcs
    obtain ⟨rfl, rfl, rfl⟩ := hcs
    have hlz : len ≤ ss.length := by rw [hz]; split <;> omega
    refine ⟨ss.take len, some x, cap, by rw [List.length_take, Nat.min_eq_left hlz], by rw [List.length_take]; omega, fun i hi => ?_, fun s hs => hws s (List.mem_of_mem_take hs), by rw [List.length_take]; omega, hm⟩
    rw [List.length_take, Nat.min_eq_left hlz] at hi
    obtain ⟨b, off, rfl, hb, hc⟩ := cell_addrI (hcell i (by omega)) ⟨_, hcell 0 (by omega)⟩
    refine ⟨b, off, rfl, hb, ?_⟩
    rw [hc]
    simp [List.getD, hi]
end In
end Go.Proofs.Yteaikleofboknaa
end
section
namespace Go.Proofs.Yteaikleofboknaa
open Go.RowKit
namespace Dsk
theorem mask_any (x : Int) (i : Nat) (hi : i ≤ 62) : bits .and .i64 x (((2 ^ i - 1 : Nat)) : Int) = x % ((2 ^ i : Nat) : Int) := by
  have hp : (2 : Nat) ^ i ≤ 2 ^ 62 := Nat.pow_le_pow_right (by decide) hi
  have h1 : (0 : Nat) < 2 ^ i := Nat.two_pow_pos i
  have e64 : (2 : Nat) ^ 64 = 18446744073709551616 := by decide
  have e62 : (2 : Nat) ^ 62 = 4611686018427387904 := by decide
  have hb : (2 ^ i - 1) % 18446744073709551616 = 2 ^ i - 1 := Nat.mod_eq_of_lt (by omega)
  show IntKind.i64.wrap (((BitVec.ofInt 64 x &&& BitVec.ofInt 64 ((2 ^ i - 1 : Nat) : Int) : BitVec 64).toNat : Nat) : Int) = _
  rw [BitVec.toNat_and, BitVec.ofInt_natCast, BitVec.toNat_ofNat, e64, hb]
  rw [Nat.and_two_pow_sub_one_eq_mod, IntKind.wrap_i64]
  rw [BitVec.toNat_ofInt]
  have hd : ((2 ^ i : Nat) : Int) ∣ ((2 ^ 64 : Nat) : Int) := Int.natCast_dvd_natCast.2 (Nat.pow_dvd_pow 2 (by omega))
  have e : (((x % ((2 ^ 64 : Nat) : Int)).toNat % 2 ^ i : Nat) : Int) = x % ((2 ^ i : Nat) : Int) := by
    rw [Int.natCast_emod, Int.toNat_of_nonneg (Int.emod_nonneg _ (by decide)), Int.emod_emod_of_dvd _ hd]
  rw [e]
  have h0 := Int.emod_nonneg x (b := ((2 ^ i : Nat) : Int)) (by omega)
  have h2 := Int.emod_lt_of_pos x (b := ((2 ^ i : Nat) : Int)) (by omega)
  generalize hz : x % ((2 ^ i : Nat) : Int) = z at *
  have : z < 4611686018427387904 := by omega
  omega
theorem mask_kept (x : Int) : bits .and .i64 x 4611686018427387903 = x % 4611686018427387904 := mask_any x 62 (by decide)
theorem mask_seven (x : Int) : bits .and .i64 x 7 = x % 8 := mask_any x 3 (by decide)
theorem mask_one (x : Int) : bits .and .i64 x 1 = x % 2 := mask_any x 1 (by decide)
end Dsk
end Go.Proofs.Yteaikleofboknaa
end
