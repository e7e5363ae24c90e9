/- New rows of bytes 0, and strings one behind the other. -/
import Derived.Test.YtjppoicjbmfhiaaOwn
import Derived.Laws.MakeOwn
namespace Go.Proofs.Ytjppoicjbmfhiaa
open Go.RowKit
namespace Zer
theorem ba_append (l : List UInt8) (s : ByteArray) : (⟨l.toArray⟩ : ByteArray) ++ s = ⟨(l ++ s.data.toList).toArray⟩ := by
  apply ByteArray.ext
  rw [ByteArray.data_append]
  simp
theorem ba_append2 (l m : List UInt8) : (⟨l.toArray⟩ : ByteArray) ++ ⟨m.toArray⟩ = ⟨(l ++ m).toArray⟩ := ba_append l ⟨m.toArray⟩
theorem uinfo : (Try.prog.info? 5).map (fun i => (i.zero, i.size, i.bytes)) = some (some (.int .u8 0), 1, 1) := by kernel_rfl
/-- A new row of bytes 0. -/
def zs (m : Nat) : Array Value := madeCells #[.int .u8 0] m
theorem run_mk (m : Nat) (hm : m ≤ 16777216) (w : World) : (Instr.makeSlice 37 (.int .i64 (m : Int)) (.int .i64 (m : Int))).run Try.prog w = .ok (.slice (some ⟨w.heap.size, 0, none⟩) m m) (w.alloc (.cells (zs m) 5)) := by
  obtain ⟨i0, hi, hz0, hz1, hz2⟩ := info_parts uinfo
  have := run_makeSlice (P := Try.prog) (w := w) 37 5 i0 (.int .u8 0) Try.underlying37 hi hz0 .i64 .i64 m m (by omega) (by omega) (by rw [hz1]; omega) (by rw [hz2]; omega) (by omega)
  rw [this, hz1]
  simp [zs, Value.cells]
theorem zs_get (m j : Nat) (h : j < m) : (zs m)[j]? = some (.int .u8 0) := by
  simp [zs, madeCells, h, Nat.mod_one]
/-- So many bytes 0. -/
def zl (m : Nat) : List UInt8 := List.replicate m 0
theorem conv_zs (m : Nat) (b : Nat) (W : World) (h : W.heap[b]? = some (.cells (zs m) 5)) : (convert 37 9 (.slice (some ⟨b, 0, none⟩) m m)).run Try.prog W = .ok (.string ⟨(zl m).toArray⟩) W := by
  have := run_convert_bytes_back (P := Try.prog) W 37 9 5 ⟨b, 0, none⟩ m (List.replicate m 0) Try.underlying37 Try.underlying5 Try.underlying9 (fun j hj => by
    have hj' : j < m := by simpa using hj
    have hadd : (⟨b, 0, none⟩ : Addr).add j = ⟨b, j, none⟩ := by unfold Addr.add; split <;> simp_all
    rw [hadd, cell_of_row _ _ _ _ _ _ h, zs_get m j hj']
    simp)
  simpa [zl] using this
end Zer
end Go.Proofs.Ytjppoicjbmfhiaa
