/- Rows of one's own whose elements are pairs of integers: appending one. -/
import Derived.Test.YtblefohjnmmpmaaOwn
import Derived.Test.YtblefohjnmmpmaaRecM
namespace Go.Proofs.Ytblefohjnmmpmaa
open Go.RowKit
namespace Rec
/-- Stacks as cells. -/
def stkVals (l : List Stk) : List Value := l.flatMap fun s => [Value.int .i64 s.1, Value.int .i64 s.2]
theorem stkVals_append (a b : List Stk) : stkVals (a ++ b) = stkVals a ++ stkVals b := by simp [stkVals]
theorem stkVals_length (l : List Stk) : (stkVals l).length = l.length * 2 := by
  induction l with
  | nil => rfl
  | cons a l ih => simp only [stkVals, List.flatMap_cons, List.length_append, List.length_cons, List.length_nil] at ih ⊢; omega
theorem stkVals_get (l : List Stk) (i : Nat) (h : i < l.length) : (stkVals l)[i * 2]? = some (.int .i64 (l.getD i (0, 0)).1) ∧ (stkVals l)[i * 2 + 1]? = some (.int .i64 (l.getD i (0, 0)).2) := by
  induction l generalizing i with
  | nil => simp at h
  | cons a l ih =>
    cases i with
    | zero => exact ⟨rfl, rfl⟩
    | succ i =>
      have := ih i (by simpa using h)
      have e1 : (i + 1) * 2 = i * 2 + 1 + 1 := by omega
      rw [e1]
      exact this
/-- One pair behind a row of one's own. -/
theorem list_pair {P : Program} {ops : Array Oper} {rest : List Oper} {o : Oper} {a : Act} {w : World} {Q : Exit → Act → World → Prop} (hgd : o.guard = none) (s x : Operand) (t : TypeId)
    (ho : o.op = .call { callee := .builtin .append, args := #[s, x], argTypes := #[t, t] })
    (base : Nat) (e : TypeId) (i : TypeInfo) (z : Value) (bytes : Nat) (ht : P.underlying t = some (.slice e)) (hi : P.info? e = some i) (hz : i.zero = some z)
    (hsize : i.size = 2) (hby : i.bytes = bytes) (hzs : z.cells.size = 2)
    (v : Value) (n : Nat) (xs : List Value) (hs : a.eval s = v) (ad : Addr) (c : Nat) (u0 u1 : Value) (hx : a.eval x = .slice (some ad) 1 c) (hown : w.ownsRow base e 2 v n xs)
    (hu0 : w.cell? (ad.add 0) = some u0) (hu1 : w.cell? (ad.add 1) = some u1) (h0 : u0.oneCell' = true) (h1 : u1.oneCell' = true) (h63 : n + 1 ≤ maxLen) (hbytes : (n + 1) * bytes ≤ 140737488355328) (hbase : base ≤ w.heap.size)
    (h : ∀ v' w', w'.ownsRow base e 2 v' (n + 1) (xs ++ [u0, u1]) → w.grownBy w' v.ownBlock → wpList P ops Q rest (a.put o.dst v') w') : wpList P ops Q (o :: rest) a w :=
  wpList_append_own w hgd s x t ho base e i z 2 bytes ht hi hz hsize hby hzs (by decide) v n xs hs hown ad 1 c [u0, u1] hx rfl
    (fun j u hj => by
      match j, hj with
      | 0, hj => simp at hj; subst hj; exact hu0
      | 1, hj => simp at hj; subst hj; exact hu1
      | j + 2, hj => simp at hj) (fun u hw => by simp at hw; rcases hw with rfl | rfl <;> assumption) h63 hbytes hbase
    (fun v' w' hown' hgrow _ => h v' w' hown' hgrow)
theorem stks_of_own {w : World} {base : Nat} {T : TypeId} {v : Value} {l : List Stk} (h : w.ownsRow base T 2 v l.length (stkVals l)) : ∃ a cap, v = .slice a l.length cap ∧ Stks w a l := by
  rcases h.2 with ⟨rfl, h0⟩ | ⟨g, cap, cur, rfl, _, hg, _⟩
  · exact ⟨none, 0, by rw [h0], fun i hi => by omega⟩
  · refine ⟨some ⟨g, 0, none⟩, cap, rfl, fun i hi => ⟨g, 0, rfl, ?_, ?_, ?_⟩⟩
    · exact (Array.getElem?_eq_some_iff.1 hg).1
    · have := h.cells rfl (i * 2) _ (stkVals_get l i hi).1
      have hadd : (⟨g, 0, none⟩ : Addr).add (i * 2) = ⟨g, 0 + i * 2, none⟩ := by unfold Addr.add; split <;> simp_all
      rwa [hadd] at this
    · have := h.cells rfl (i * 2 + 1) _ (stkVals_get l i hi).2
      have hadd : (⟨g, 0, none⟩ : Addr).add (i * 2 + 1) = ⟨g, 0 + i * 2 + 1, none⟩ := by unfold Addr.add; split <;> simp_all <;> omega
      rwa [hadd] at this
theorem pair_new (w : World) (u0 u1 : Value) (t : TypeId) : (w.alloc (.cells #[u0, u1] t)).cell? ((⟨w.heap.size, 0, none⟩ : Addr).add 0) = some u0 ∧ (w.alloc (.cells #[u0, u1] t)).cell? ((⟨w.heap.size, 0, none⟩ : Addr).add 1) = some u1 := by
  constructor <;> simp [Addr.add, go_sem]
end Rec
end Go.Proofs.Ytblefohjnmmpmaa
