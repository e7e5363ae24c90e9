/- Rows of one's own whose elements are parts: appending one. -/
import Derived.Test.YtbfcgaijplhcoaaOwn
import Derived.Test.YtbfcgaijplhcoaaFeeL
namespace Go.Proofs.Ytbfcgaijplhcoaa
open Go.RowKit
namespace Fee
/-- Parts as cells. -/
def partVals (l : List (Int × Int)) : List Value := l.flatMap encP
theorem partVals_append (a b : List (Int × Int)) : partVals (a ++ b) = partVals a ++ partVals b := by simp [partVals]
theorem partVals_length (l : List (Int × Int)) : (partVals l).length = l.length * 2 := by
  induction l with
  | nil => rfl
  | cons a l ih => simp only [partVals, List.flatMap_cons, List.length_append, List.length_cons, encP, List.length_nil] at ih ⊢; omega
/-- One pair behind a row of one's own. -/
theorem list_pair {P : Program} {ops : Array Oper} {rest : List Oper} {o : Oper} {a : Act} {w : World} {Q : Exit → Act → World → Prop} (hgd : o.guard = none) (s x : Operand) (t : TypeId)
    (ho : o.op = .call { callee := .builtin .append, args := #[s, x], argTypes := #[t, t] })
    (base : Nat) (e : TypeId) (i : TypeInfo) (z : Value) (bytes : Nat) (ht : P.underlying t = some (.slice e)) (hi : P.info? e = some i) (hz : i.zero = some z)
    (hsize : i.size = 2) (hby : i.bytes = bytes) (hzs : z.cells.size = 2)
    (v : Value) (n : Nat) (xs : List Value) (hs : a.eval s = v) (ad : Addr) (c : Nat) (u0 u1 : Value) (hx : a.eval x = .slice (some ad) 1 c) (hown : w.ownsRow base e 2 v n xs)
    (hu0 : w.cell? (ad.add 0) = some u0) (hu1 : w.cell? (ad.add 1) = some u1) (h0 : u0.oneCell' = true) (h1 : u1.oneCell' = true) (h63 : n + 1 ≤ maxLen) (hbytes : (n + 1) * bytes ≤ 140737488355328) (hbase : base ≤ w.heap.size)
    (h : ∀ v' w', w'.ownsRow base e 2 v' (n + 1) (xs ++ [u0, u1]) → w.grownBy w' v.ownBlock → wpList P ops Q rest (a.put o.dst v') w') : wpList P ops Q (o :: rest) a w :=
  wpList_append_own w hgd s x t ho base e i z 2 bytes ht hi hz hsize hby hzs (by decide) v n xs hs hown ad 1 c [u0, u1] hx rfl
    (fun j u hj => by
      match j, hj with
      | 0, hj => simp at hj; subst hj; exact hu0
      | 1, hj => simp at hj; subst hj; exact hu1
      | j + 2, hj => simp at hj) (fun u hw => by simp at hw; rcases hw with rfl | rfl <;> assumption) h63 hbytes hbase
    (fun v' w' hown' hgrow _ => h v' w' hown' hgrow)
theorem info45 : (Try.prog.info? 45).map (fun i => (i.zero, i.size, i.bytes)) = some (some (.agg #[.int .i64 0, .int .u64 0]), 2, 16) := by kernel_rfl
theorem info3 : (Try.prog.info? 3).map (fun i => (i.zero, i.size, i.bytes)) = some (some (.int .i64 0), 1, 8) := by kernel_rfl
end Fee
end Go.Proofs.Ytbfcgaijplhcoaa
