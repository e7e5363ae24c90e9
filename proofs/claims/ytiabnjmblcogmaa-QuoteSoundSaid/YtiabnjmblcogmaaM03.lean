/- Texts put together: Row, GraA. -/
import Derived.Test.YtiabnjmblcogmaaM00
import Derived.Test.YtiabnjmblcogmaaM02
import Derived.Deep.AppendLies
import Derived.OneCell
import Derived.Lib.SliceRun
import Derived.BigFrame
set_option linter.all false
section
namespace Go.Proofs.Ytiabnjmblcogmaa
open Go.RowKit
/-- The first cells of a block that is not frozen. -/
def RowAt (w : World) (g : Nat) (vs : List Value) : Prop := ∃ cur T, w.heap[g]? = some (.cells cur T (0, 0)) ∧ ∀ (i : Nat) (u : Value), vs[i]? = some u → cur[i]? = some u
namespace RowAt
variable {w w' : World} {g : Nat} {vs : List Value}
theorem lt (h : RowAt w g vs) : g < w.heap.size := by
  obtain ⟨cur, T, hg, _⟩ := h
  exact (Array.getElem?_eq_some_iff.1 hg).1
theorem cell (h : RowAt w g vs) {i : Nat} {u : Value} (hi : vs[i]? = some u) : w.cell? ⟨g, i, none⟩ = some u := by
  obtain ⟨cur, T, hg, hc⟩ := h
  simp [World.cell?, hg, hc i u hi]
theorem frozen (h : RowAt w g vs) (i : Nat) : w.frozen? ⟨g, i, none⟩ = false := by
  obtain ⟨cur, T, hg, _⟩ := h
  simp [World.frozen?, hg]
theorem of_block (h : RowAt w g vs) (e : w'.heap[g]? = w.heap[g]?) : RowAt w' g vs := by
  obtain ⟨cur, T, hg, hc⟩ := h
  exact ⟨cur, T, e.trans hg, hc⟩
theorem set (h : RowAt w g vs) (i : Nat) (u : Value) : RowAt (w.setCell ⟨g, i, none⟩ u) g (vs.set i u) := by
  obtain ⟨cur, T, hg, hc⟩ := h
  refine ⟨cur.setIfInBounds i u, T, ?_, fun j x hj => ?_⟩
  · simp [World.setCell, Array.getElem?_modify, hg]
  · rw [List.getElem?_set] at hj
    rw [Array.getElem?_setIfInBounds]
    by_cases e : i = j
    · subst e
      rw [if_pos rfl] at hj ⊢
      split at hj
      · have hb : i < cur.size := (Array.getElem?_eq_some_iff.1 (hc i _ (List.getElem?_eq_getElem ‹_›))).1
        rw [if_pos hb]; exact hj
      · cases hj
    · rw [if_neg e] at hj ⊢
      exact hc j x hj
theorem setOther (h : RowAt w g vs) {a : Addr} (ha : g ≠ a.block) (u : Value) : RowAt (w.setCell a u) g vs := h.of_block (Below.heap_setCell _ _ _ _ ha)
theorem alloc (h : RowAt w g vs) (o : Obj) : RowAt (w.alloc o) g vs := h.of_block (heap_alloc_old w o h.lt)
theorem drew (h : RowAt w g vs) : RowAt w.drew g vs := h
theorem drewN (h : RowAt w g vs) (n : Nat) : RowAt (w.drewN n) g vs := h
theorem below (h : RowAt w g vs) (hb : Below w.heap.size w w') : RowAt w' g vs := h.of_block (hb.block g h.lt)
theorem of_own {base : Nat} {e : TypeId} {size n cap : Nat} (h : w.ownsRow base e size (.slice (some ⟨g, 0, none⟩) n cap) n vs) : RowAt w g vs := by
  rcases h.2 with ⟨h0, _⟩ | ⟨g', cap', cur, hv, _, hg, _, _, _, ht⟩
  · cases h0
  · cases hv
    refine ⟨cur, e, hg, fun i u hu => ?_⟩
    rw [← ht, List.getElem?_take] at hu
    split at hu
    · simpa using hu
    · cases hu
theorem grown {row : Option Nat} (h : RowAt w g vs) (hg : w.grownBy w' row) (hne : some g ≠ row) : RowAt w' g vs := h.of_block (hg.block g h.lt hne)
theorem mono (h : RowAt w g vs) {us : List Value} (hm : ∀ (i : Nat) (u : Value), us[i]? = some u → vs[i]? = some u) : RowAt w g us := by
  obtain ⟨cur, T, hg, hc⟩ := h
  exact ⟨cur, T, hg, fun i u hu => hc i u (hm i u hu)⟩
theorem ints (h : RowAt w g (vs)) (k : IntKind) (l : List Int) (hl : vs = l.map (Value.int k)) : In.Ints k w (some ⟨g, 0, none⟩) l := fun i hi => ⟨g, 0, rfl, h.lt, by
  rw [Nat.zero_add]
  refine h.cell ?_
  rw [hl, List.getElem?_map, List.getElem?_eq_getElem hi, List.getD_eq_getElem?_getD, List.getElem?_eq_getElem hi]; rfl⟩
end RowAt
namespace Own
/-- One element behind a row of one's own, and where the row then lies. -/
theorem lies_one {P : Program} {ops : Array Oper} {rest : List Oper} {o : Oper} {a : Act} {w : World} {Q : Exit → Act → World → Prop} (hgd : o.guard = none) (s x : Operand) (t : TypeId)
    (ho : o.op = .call { callee := .builtin .append, args := #[s, x], argTypes := #[t, t] })
    (base : Nat) (e : TypeId) (i : TypeInfo) (z : Value) (bytes : Nat) (ht : P.underlying t = some (.slice e)) (hi : P.info? e = some i) (hz : i.zero = some z)
    (hsize : i.size = 1) (hby : i.bytes = bytes) (hzs : z.cells.size = 1)
    (v : Value) (n : Nat) (xs : List Value) (hs : a.eval s = v) (ad : Addr) (c : Nat) (u : Value) (hx : a.eval x = .slice (some ad) 1 c) (hown : w.ownsRow base e 1 v n xs)
    (hu : w.cell? ad = some u) (h1 : u.oneCell' = true) (h63 : n + 1 ≤ maxLen) (hbytes : (n + 1) * bytes ≤ 140737488355328) (hbase : base ≤ w.heap.size) (H : Nat) (hH : w.heap.size = H)
    (h : ∀ g cap w', w'.ownsRow base e 1 (.slice (some ⟨g, 0, none⟩) (n + 1) cap) (n + 1) (xs ++ [u]) → w.grownBy w' v.ownBlock → (v.ownBlock = some g ∨ g = H) → g < w'.heap.size → wpList P ops Q rest (a.put o.dst (.slice (some ⟨g, 0, none⟩) (n + 1) cap)) w') : wpList P ops Q (o :: rest) a w :=
  wpList_append_lies w hgd s x t ho base e i z 1 bytes ht hi hz hsize hby hzs (by decide) v n xs hs hown ad 1 c [u] hx rfl
    (fun j u hj => by cases j with
      | zero => simp at hj; subst hj; simpa [Addr.add] using hu
      | succ j => simp at hj) (fun u hw => by simp at hw; subst hw; exact h1) (by decide) h63 hbytes hbase H hH h
/-- One pair behind a row of one's own, and where the row then lies. -/
theorem lies_pair {P : Program} {ops : Array Oper} {rest : List Oper} {o : Oper} {a : Act} {w : World} {Q : Exit → Act → World → Prop} (hgd : o.guard = none) (s x : Operand) (t : TypeId)
    (ho : o.op = .call { callee := .builtin .append, args := #[s, x], argTypes := #[t, t] })
    (base : Nat) (e : TypeId) (i : TypeInfo) (z : Value) (bytes : Nat) (ht : P.underlying t = some (.slice e)) (hi : P.info? e = some i) (hz : i.zero = some z)
    (hsize : i.size = 2) (hby : i.bytes = bytes) (hzs : z.cells.size = 2)
    (v : Value) (n : Nat) (xs : List Value) (hs : a.eval s = v) (ad : Addr) (c : Nat) (u0 u1 : Value) (hx : a.eval x = .slice (some ad) 1 c) (hown : w.ownsRow base e 2 v n xs)
    (hu0 : w.cell? (ad.add 0) = some u0) (hu1 : w.cell? (ad.add 1) = some u1) (h0 : u0.oneCell' = true) (h1 : u1.oneCell' = true) (h63 : n + 1 ≤ maxLen) (hbytes : (n + 1) * bytes ≤ 140737488355328) (hbase : base ≤ w.heap.size) (H : Nat) (hH : w.heap.size = H)
    (h : ∀ g cap w', w'.ownsRow base e 2 (.slice (some ⟨g, 0, none⟩) (n + 1) cap) (n + 1) (xs ++ [u0, u1]) → w.grownBy w' v.ownBlock → (v.ownBlock = some g ∨ g = H) → g < w'.heap.size → wpList P ops Q rest (a.put o.dst (.slice (some ⟨g, 0, none⟩) (n + 1) cap)) w') : wpList P ops Q (o :: rest) a w :=
  wpList_append_lies w hgd s x t ho base e i z 2 bytes ht hi hz hsize hby hzs (by decide) v n xs hs hown ad 1 c [u0, u1] hx rfl
    (fun j u hj => by
      match j, hj with
      | 0, hj => simp at hj; subst hj; exact hu0
      | 1, hj => simp at hj; subst hj; exact hu1
      | j + 2, hj => simp at hj) (fun u hw => by simp at hw; rcases hw with rfl | rfl <;> assumption) (by decide) h63 hbytes hbase H hH h
/-- Two rows that lie apart. -/
def Apart (v u : Value) : Prop := v.ownBlock = none ∨ v.ownBlock ≠ u.ownBlock
theorem Apart.symm {v u : Value} (h : Apart v u) : Apart u v := by
  rcases h with h | h
  · cases hu : u.ownBlock with
    | none => exact .inl hu
    | some k => exact .inr (by rw [h, hu]; simp)
  · exact .inr (Ne.symm h)
theorem Apart.left {v u : Value} {g n cap H : Nat} (h : Apart v u) (hat : v.ownBlock = some g ∨ g = H) (hu : ∀ k, u.ownBlock = some k → k < H) : Apart (.slice (some ⟨g, 0, none⟩) n cap) u := by
  right
  show some g ≠ _
  intro e
  rcases hat with hat | hat
  · rcases h with h | h
    · rw [h] at hat; cases hat
    · exact h (hat.trans e)
  · have := hu g e.symm; omega
theorem Apart.right {v u : Value} {g n cap H : Nat} (h : Apart v u) (hat : u.ownBlock = some g ∨ g = H) (hv : ∀ k, v.ownBlock = some k → k < H) : Apart v (.slice (some ⟨g, 0, none⟩) n cap) := (h.symm.left hat hv).symm
theorem Apart.kept {w w' : World} {base : Nat} {e : TypeId} {size n : Nat} {v u : Value} {xs : List Value} (h : Apart u v) (ho : w.ownsRow base e size u n xs) (hg : w.grownBy w' v.ownBlock) : w'.ownsRow base e size u n xs :=
  ho.kept hg h
end Own
end Go.Proofs.Ytiabnjmblcogmaa
end
section
namespace Go.Proofs.Ytiabnjmblcogmaa
open Go.RowKit
namespace Gra
open In (Ints IsInts)
section
variable {w : World} {base g n cap : Nat} {e : TypeId} {xs : List Value}
theorem own_set (h : w.ownsRow base e 1 (.slice (some ⟨g, 0, none⟩) n cap) n xs) (i : Nat) (u : Value) : (w.setCell ⟨g, i, none⟩ u).ownsRow base e 1 (.slice (some ⟨g, 0, none⟩) n cap) n (xs.set i u) := by
  refine ⟨by rw [List.length_set]; exact h.1, .inr ?_⟩
  rcases h.2 with ⟨h0, _⟩ | ⟨g', cap', cur, hv, hb, hg, hn, hc, hs, ht⟩
  · cases h0
  · cases hv
    refine ⟨g, cap, cur.setIfInBounds i u, rfl, hb, ?_, hn, hc, by simpa using hs, ?_⟩
    · simp [World.setCell, Array.getElem?_modify, hg]
    · rw [Array.toList_setIfInBounds, List.take_set, ht]
theorem own_short (h : w.ownsRow base e 1 (.slice (some ⟨g, 0, none⟩) n cap) n xs) (k : Nat) (hk : k ≤ n) : w.ownsRow base e 1 (.slice (some ⟨g, 0, none⟩) k cap) k (xs.take k) := by
  have hl := h.1
  refine ⟨by rw [List.length_take]; omega, .inr ?_⟩
  rcases h.2 with ⟨h0, _⟩ | ⟨g', cap', cur, hv, hb, hg, hn, hc, hs, ht⟩
  · cases h0
  · cases hv
    refine ⟨g, cap, cur, rfl, hb, hg, by omega, hc, hs, ?_⟩
    rw [← ht, List.take_take, show min k (n * 1) = k * 1 by omega]
theorem own_puts (vs : List Value) (k : Nat) : ∀ (w : World) (xs : List Value) (o : Nat), k ≤ o → w.ownsRow base e 1 (.slice (some ⟨g, 0, none⟩) n cap) n xs → ∃ ys, (w.setCells g o vs).ownsRow base e 1 (.slice (some ⟨g, 0, none⟩) n cap) n ys ∧ ys.take k = xs.take k := by
  induction vs with
  | nil => exact fun w xs o _ h => ⟨xs, h, rfl⟩
  | cons v vs ih =>
    intro w xs o ho h
    obtain ⟨ys, h1, h2⟩ := ih _ _ (o + 1) (by omega) (own_set h o v)
    refine ⟨ys, h1, h2.trans ?_⟩
    rw [List.take_set, List.set_eq_of_length_le (by rw [List.length_take]; omega)]
theorem own_clear (h : w.ownsRow base e 1 (.slice (some ⟨g, 0, none⟩) n cap) n xs) (k : Nat) (hk : k ≤ n) (vs : List Value) : (w.setCells g k vs).ownsRow base e 1 (.slice (some ⟨g, 0, none⟩) k cap) k (xs.take k) := by
  obtain ⟨ys, h1, h2⟩ := own_puts vs k w xs k (Nat.le_refl _) h
  rw [← h2]
  exact own_short h1 k hk
theorem grw_set (w : World) (g i : Nat) (u : Value) : w.grownBy (w.setCell ⟨g, i, none⟩ u) (some g) :=
  ⟨rfl, rfl, rfl, by simp, fun k _ hne => Below.heap_setCell _ _ _ _ (fun e => hne (by rw [e]))⟩
theorem grw_trans {a b c : World} {g : Nat} (h1 : a.grownBy b (some g)) (h2 : b.grownBy c (some g)) : a.grownBy c (some g) :=
  ⟨h2.os.trans h1.os, h2.tape.trans h1.tape, h2.output.trans h1.output, Nat.le_trans h1.size h2.size, fun k hk hne => (h2.block k (Nat.lt_of_lt_of_le hk h1.size) hne).trans (h1.block k hk hne)⟩
theorem grw_refl (w : World) (g : Nat) : w.grownBy w (some g) := ⟨rfl, rfl, rfl, Nat.le_refl _, fun _ _ _ => rfl⟩
theorem grw_sets (g : Nat) (vs : List Value) : ∀ (w : World) (o : Nat), w.grownBy (w.setCells g o vs) (some g) := by
  induction vs with
  | nil => exact fun w o => grw_refl w g
  | cons v vs ih => exact fun w o => grw_trans (grw_set w g o v) (ih _ _)
end
/-- The least of the first k + 1 numbers. -/
def mnTo (l : List Int) : Nat → Int
  | 0 => l.getD 0 0
  | k + 1 => min (mnTo l k) (l.getD (k + 1) 0)
theorem mnTo_le (l : List Int) (k i : Nat) (h : i ≤ k) : mnTo l k ≤ l.getD i 0 := by
  induction k with
  | zero => obtain rfl : i = 0 := by omega
            exact Int.le_refl _
  | succ k ih =>
    rw [mnTo]
    by_cases e : i = k + 1
    · subst e; omega
    · have := ih (by omega); omega
theorem mnTo_mem (l : List Int) (k : Nat) : ∃ i, i ≤ k ∧ mnTo l k = l.getD i 0 := by
  induction k with
  | zero => exact ⟨0, Nat.le_refl _, rfl⟩
  | succ k ih =>
    obtain ⟨i, hi, e⟩ := ih
    rw [mnTo]
    by_cases h : mnTo l k ≤ l.getD (k + 1) 0
    · exact ⟨i, by omega, by rw [← e]; omega⟩
    · exact ⟨k + 1, Nat.le_refl _, by omega⟩
set_option maxHeartbeats 1000000 in
theorem min_any (a : Option Addr) (cap : Nat) (l : List Int) (h0 : 0 < l.length) (hl : l.length ≤ 4096) (w : World) (ha : Ints .i64 w a l) :
    Calls Try.prog 101 #[.slice a l.length cap] w fun e w' => e = .returned (.int .i64 (mnTo l (l.length - 1))) ∧ w = w' := by
  have HA := Lib.hid ha
  obtain ⟨b, off, rfl, hb, hc⟩ := ha 0 h0
  have HM : Hid (mnTo l 0 = l.getD 0 0) := rfl
  rw [← HM.out, Nat.add_zero] at hc
  have d1 : decide ((l.length : Int) < 1) = false := decide_eq_false (by omega)
  have n0 : (0 : Int) < (l.length : Int) := by omega
  have HL : Hid (0 < l.length) := h0
  clear ha h0
  go_enter Try.func101, Try.ntmps101
  go_wp2
  go_loop [3, 4] (fun v3 v4 => ∃ k : Nat, k < l.length ∧ v4 = .int .i64 ((k + 1 : Nat) : Int) ∧ v3 = .int .i64 (mnTo l k)) (fun _ v4 => l.length - (intOf v4).toNat)
  case atStart => exact ⟨0, HL.out, rfl, rfl⟩
  case round =>
    obtain ⟨k, hk, rfl, rfl⟩ := hrel
    by_cases hlt : k + 1 < l.length
    · obtain ⟨b', off', e', hb', hc'⟩ := HA.out (k + 1) hlt
      cases e'
      have hlt1 : ((k + 1 : Nat) : Int) < (l.length : Int) := by omega
      have HM2 : Hid (mnTo l (k + 1) = min (mnTo l k) (l.getD (k + 1) 0)) := rfl
      obtain ⟨K, hK⟩ : ∃ K : Nat, Hid (k + 1 = K) := ⟨_, rfl⟩
      rw [hK.out] at hlt1 hc' HM2 hlt ⊢
      generalize l.getD K 0 = X at *
      generalize mnTo l k = M at *
      go_wp2
      go_round
      case rel => exact ⟨K, hlt, by go_num, by rw [HM2.out]; congr 1; split <;> omega⟩
      case measure => simp [intOf]; omega
    · have hke : k = l.length - 1 := by omega
      have HV : Hid (mnTo l (l.length - 1) = mnTo l k) := by rw [hke]; rfl
      have hge : ¬ ((k + 1 : Nat) : Int) < (l.length : Int) := by omega
      clear hke hlt
      go_wp2
      go_ret
      exact ⟨by rw [HV.out]; rfl, rfl⟩
/-- A captured number's closure. -/
theorem clos_any (x nd : Int) (c : Nat) (B : Bool) (hB : (x == nd) = B) (w : World) (hc : w.cell? ⟨c, 0, none⟩ = some (.int .i64 nd)) :
    Calls Try.prog 103 #[.int .i64 x, .pointer (some ⟨c, 0, none⟩)] w fun e w' => e = .returned (.bool B) ∧ w = w' := by
  go_enter Try.func103, Try.ntmps103
  go_wp2
  go_ret
  exact ⟨rfl, rfl⟩
set_option maxHeartbeats 1000000 in
/-- Where a number that is there stands first. -/
theorem index_any (a : Option Addr) (cap : Nat) (l : List Int) (hl : l.length ≤ 4096) (nd : Int) (c : Nat) (w : World) (ha : Ints .i64 w a l) (hc : w.cell? ⟨c, 0, none⟩ = some (.int .i64 nd)) (hm : nd ∈ l) :
    Calls Try.prog 49 #[.slice a l.length cap, .func (.func 103) #[] #[.pointer (some ⟨c, 0, none⟩)]] w fun e w' => (∃ i : Nat, e = .returned (.int .i64 (i : Int)) ∧ i < l.length ∧ l.getD i 0 = nd ∧ ∀ j, j < i → l.getD j 0 ≠ nd) ∧ w = w' := by
  have HA := Lib.hid ha
  have HM := Lib.hid hm
  clear ha hm
  go_enter Try.func49, Try.ntmps49
  go_wp2
  go_loop [8] (fun i => ∃ k : Nat, k ≤ l.length ∧ i = .int .i64 k ∧ Hid (∀ j, j < k → l.getD j 0 ≠ nd)) (fun i => l.length - (intOf i).toNat)
  case atStart => exact ⟨0, by omega, rfl, fun j hj => by omega⟩
  case round =>
    obtain ⟨k, hk, rfl, HK⟩ := hrel
    by_cases hlt : k < l.length
    · obtain ⟨b, off, rfl, hbl, hcc⟩ := HA.out k hlt
      have hlt1 : (k : Int) < (l.length : Int) := by omega
      have CC : Hid (∀ (B : Bool), (l.getD k 0 == nd) = B → ∀ (W : World), W.cell? ⟨c, 0, none⟩ = some (.int .i64 nd) → _) := fun B hB W hW => clos_any (l.getD k 0) nd c B hB W hW
      obtain ⟨T, hT⟩ : ∃ T : Int, Hid (l.getD k 0 = T) := ⟨_, rfl⟩
      rw [hT.out] at CC hcc
      by_cases g : T = nd
      · have CC2 := Lib.hid (CC.out true (by simp [g]))
        have HF : Hid (k < l.length ∧ l.getD k 0 = nd) := ⟨hlt, by rw [hT.out, g]⟩
        clear g
        go_wp2_with (go_at_call 103; ((with_reducible refine (CC2.out _ hc).mono ?_); rintro e w1 ⟨rfl, rfl⟩))
        go_ret
        exact ⟨⟨k, rfl, HF.out.1, HF.out.2, HK.out⟩, rfl⟩
      · have CC2 := Lib.hid (CC.out false (beq_eq_false_iff_ne.2 g))
        have HK2 : Hid (∀ j, j < k + 1 → l.getD j 0 ≠ nd) := fun j hj => by
          by_cases e : j = k
          · subst e; rw [hT.out]; exact g
          · exact HK.out j (by omega)
        clear g
        go_wp2_with (go_at_call 103; ((with_reducible refine (CC2.out _ hc).mono ?_); rintro e w1 ⟨rfl, rfl⟩))
        go_round
        case rel => exact ⟨k + 1, by omega, by go_num, HK2⟩
        case measure => simp [intOf]; omega
    · exfalso
      obtain ⟨i, hi, e⟩ := List.getElem_of_mem HM.out
      refine HK.out i (by omega) ?_
      rw [List.getD_eq_getElem?_getD, List.getElem?_eq_getElem hi, e]; rfl
/-- What is kept of the first k numbers. -/
def kp (nd : Int) (l : List Int) : List Int := l.filter (fun x => !(x == nd))
theorem kp_snoc (nd : Int) (l : List Int) (k : Nat) (hk : k < l.length) : kp nd (l.take (k + 1)) = if l.getD k 0 = nd then kp nd (l.take k) else kp nd (l.take k) ++ [l.getD k 0] := by
  have e : l.take (k + 1) = l.take k ++ [l.getD k 0] := by
    rw [List.take_succ_eq_append_getElem hk, List.getD_eq_getElem?_getD, List.getElem?_eq_getElem hk]; rfl
  rw [e]
  generalize l.getD k 0 = x
  unfold kp
  rw [List.filter_append]
  by_cases h : x = nd <;> simp [h]
theorem kp_len (nd : Int) (l : List Int) : (kp nd l).length ≤ l.length := List.length_filter_le _ _
theorem kp_none (nd : Int) (l : List Int) (i : Nat) (hi : i ≤ l.length) (h : ∀ j, j < i → l.getD j 0 ≠ nd) : kp nd (l.take i) = l.take i := by
  unfold kp
  rw [List.filter_eq_self]
  intro x hx
  obtain ⟨j, hj, e⟩ := List.getElem_of_mem hx
  rw [List.length_take] at hj
  have := h j (by omega)
  rw [List.getD_eq_getElem?_getD, List.getElem?_eq_getElem (by omega)] at this
  rw [List.getElem_take] at e
  rw [e] at this
  simpa using this
theorem zero3 (w : World) : (zeroValue 3).run Try.prog w = .ok (.int .i64 0) w := by kernel_rfl
theorem own_cell {w : World} {base g n cap : Nat} {e : TypeId} {l : List Int} (h : w.ownsRow base e 1 (.slice (some ⟨g, 0, none⟩) n cap) n (l.map (Value.int .i64))) {i : Nat} (hi : i < l.length) : w.cell? ⟨g, i, none⟩ = some (.int .i64 (l.getD i 0)) ∧ w.frozen? ⟨g, i, none⟩ = false := by
  have r := RowAt.of_own h
  refine ⟨r.cell ?_, r.frozen i⟩
  rw [List.getElem?_map, List.getElem?_eq_getElem hi, List.getD_eq_getElem?_getD, List.getElem?_eq_getElem hi]; rfl
set_option maxRecDepth 100000 in
set_option maxHeartbeats 2000000 in
/-- slices.DeleteFunc of a row of one's own, a number that is there struck. -/
theorem delete_any (base g cap : Nat) (l : List Int) (hl : l.length ≤ 4096) (nd : Int) (c : Nat) (w : World) (hO : w.ownsRow base 3 1 (.slice (some ⟨g, 0, none⟩) l.length cap) l.length (l.map (Value.int .i64))) (hc : w.cell? ⟨c, 0, none⟩ = some (.int .i64 nd)) (hcg : c ≠ g) (hm : nd ∈ l) :
    Calls Try.prog 102 #[.slice (some ⟨g, 0, none⟩) l.length cap, .func (.func 103) #[] #[.pointer (some ⟨c, 0, none⟩)]] w fun e w' => e = .returned (.slice (some ⟨g, 0, none⟩) (kp nd l).length cap) ∧ Hid (w'.ownsRow base 3 1 (.slice (some ⟨g, 0, none⟩) (kp nd l).length cap) (kp nd l).length ((kp nd l).map (Value.int .i64)) ∧ w.grownBy w' (some g)) := by
  have HO := Lib.hid hO
  have IX := Lib.hid (index_any (some ⟨g, 0, none⟩) cap l hl nd c w ((RowAt.of_own hO).ints .i64 l rfl) hc hm)
  have HC := Lib.hid hc
  have HL : Hid (l.length ≤ 4096) := hl
  have hcap : l.length ≤ cap ∧ cap ≤ maxLen := by
    rcases hO.2 with ⟨h0, _⟩ | ⟨g', cap', cur, hv, hb, hg, hn, hc, hs, ht⟩
    · cases h0
    · cases hv; exact ⟨hn, hc⟩
  have hcap1 := hcap.1
  have hcap2 := hcap.2
  unfold maxLen at hcap2
  clear hO hcap hm hc
  go_enter Try.func102, Try.ntmps102
  go_wp2_with (go_at_call 49; ((with_reducible refine IX.out.mono ?_); rintro e w1 ⟨⟨i, rfl, hi, hin, hib⟩, rfl⟩; have HI := Lib.hid (And.intro hi (And.intro hin hib)); have hi4 : i < 4096 := (by have := HL.out; omega); clear hi hin hib; have di : ((i : Int) == -1) = false := beq_eq_false_iff_ne.2 (by omega)))
  go_loopw [5, 6] (fun v5 v6 wr => ∃ (j : Nat) (Z : List Int), j ≤ l.length ∧ v6 = .int .i64 j ∧ v5 = .int .i64 ((kp nd (l.take j)).length : Int) ∧ Hid (Z.length = l.length ∧ (kp nd (l.take j)).length < j ∧ Z.take (kp nd (l.take j)).length = kp nd (l.take j) ∧ (∀ q, j ≤ q → Z.getD q 0 = l.getD q 0)) ∧ Hid (wr.ownsRow base 3 1 (.slice (some ⟨g, 0, none⟩) l.length cap) l.length (Z.map (Value.int .i64))) ∧ Hid (w.grownBy wr (some g)) ∧ Hid (wr.cell? ⟨c, 0, none⟩ = some (.int .i64 nd))) (fun _ v6 _ => l.length - (intOf v6).toNat)
  case atStart =>
    have h := HI.out
    have h1 := h.1
    have e1 : kp nd (l.take (i + 1)) = l.take i := by
      rw [kp_snoc nd l i h.1, if_pos h.2.1]
      exact kp_none nd l i (by omega) h.2.2
    have e2 : (kp nd (l.take (i + 1))).length = i := by rw [e1, List.length_take]; omega
    exact ⟨i + 1, l, by omega, by go_num, by rw [e2], ⟨rfl, by omega, by rw [e2, e1], fun _ _ => rfl⟩, HO, grw_refl _ _, HC⟩
  case round =>
    obtain ⟨j, Z, hj, rfl, rfl, HZ, HOr, HGr, HCr⟩ := hrel
    by_cases hlt : j < l.length
    · have hlt1 : (j : Int) < (l.length : Int) := by omega
      have hj0 : (0 : Int) ≤ (j : Int) := by omega
      have hz := HZ.out
      obtain ⟨cj, _⟩ := own_cell HOr.out (i := j) (by omega)
      rw [hz.2.2.2 j (Nat.le_refl _)] at cj
      have HK := Lib.hid (kp_snoc nd l j hlt)
      have CC : Hid (∀ (B : Bool), (l.getD j 0 == nd) = B → ∀ (W : World), W.cell? ⟨c, 0, none⟩ = some (.int .i64 nd) → _) := fun B hB W hW => clos_any (l.getD j 0) nd c B hB W hW
      obtain ⟨T, hT⟩ : ∃ T : Int, Hid (l.getD j 0 = T) := ⟨_, rfl⟩
      rw [hT.out] at CC cj HK
      by_cases ge : T = nd
      · have CC2 := Lib.hid (CC.out true (by simp [ge]))
        rw [if_pos ge] at HK
        have HZ2 : Hid (Z.length = l.length ∧ (kp nd (l.take (j + 1))).length < j + 1 ∧ Z.take (kp nd (l.take (j + 1))).length = kp nd (l.take (j + 1)) ∧ (∀ q, j + 1 ≤ q → Z.getD q 0 = l.getD q 0)) := by
          show _ ∧ _
          rw [HK.out]
          exact ⟨hz.1, by omega, hz.2.2.1, fun q hq => hz.2.2.2 q (by omega)⟩
        clear hz ge
        go_wp2_with (go_at_call 103; ((with_reducible refine (CC2.out _ HCr.out).mono ?_); rintro e w1 ⟨rfl, rfl⟩))
        go_roundw
        case rel => exact ⟨j + 1, Z, by omega, by go_num, by rw [HK.out], HZ2, HOr, HGr, HCr⟩
        case measure => simp [intOf]; omega
      · have CC2 := Lib.hid (CC.out false (beq_eq_false_iff_ne.2 ge))
        rw [if_neg ge] at HK
        obtain ⟨K, hK⟩ : ∃ K : Nat, Hid ((kp nd (l.take j)).length = K) := ⟨_, rfl⟩
        have HZ2 : Hid ((Z.set K T).length = l.length ∧ (kp nd (l.take (j + 1))).length < j + 1 ∧ (Z.set K T).take (kp nd (l.take (j + 1))).length = kp nd (l.take (j + 1)) ∧ (∀ q, j + 1 ≤ q → (Z.set K T).getD q 0 = l.getD q 0)) := by
          have hKl := hK.out
          have e3 : (kp nd (l.take j) ++ [T]).length = K + 1 := by rw [List.length_append, hKl]; rfl
          show _ ∧ _
          rw [HK.out, e3]
          refine ⟨by rw [List.length_set]; exact hz.1, by omega, ?_, fun q hq => ?_⟩
          · have hz3 := hz.2.2.1
            rw [hKl] at hz3
            have h3 : K < (Z.set K T).length := by rw [List.length_set]; omega
            rw [List.take_succ_eq_append_getElem h3, List.take_set, List.set_eq_of_length_le (by rw [List.length_take]; omega), hz3]
            simp
          · have h4 : (Z.set K T).getD q 0 = Z.getD q 0 := by
              simp only [List.getD_eq_getElem?_getD]
              rw [List.getElem?_set_ne (by omega)]
            rw [h4]
            exact hz.2.2.2 q (by omega)
        have fK := (RowAt.of_own HOr.out).frozen K
        have cK := (own_cell HOr.out (i := K) (by have := hK.out; omega)).1
        have hK0 : (0 : Int) ≤ (K : Int) := by omega
        have hK1 : (K : Int) < (l.length : Int) := by have := hK.out; omega
        have HL2 : Hid ((kp nd (l.take (j + 1))).length = K + 1) := by show _ = _; rw [HK.out, List.length_append, hK.out]; rfl
        rw [hK.out]
        clear hz ge
        go_wp2_with (go_at_call 103; ((with_reducible refine (CC2.out _ HCr.out).mono ?_); rintro e w1 ⟨rfl, rfl⟩))
        go_roundw
        case rel => exact ⟨j + 1, Z.set K T, by omega, by go_num, by rw [HL2.out]; go_num, HZ2, by rw [List.map_set]; exact own_set HOr.out _ _, grw_trans HGr.out (grw_set _ _ _ _), (World.cell?_setCell_other _ _ _ _ (by intro e; cases e; exact hcg rfl)).trans HCr.out⟩
        case measure => simp [intOf]; omega
    · have hje : j = l.length := by omega
      have hz := HZ.out
      subst hje
      rw [List.take_length] at *
      obtain ⟨K, hK⟩ : ∃ K : Nat, Hid ((kp nd l).length = K) := ⟨_, rfl⟩
      have hKn : K < l.length := by have := hK.out; omega
      rw [hK.out] at hz ⊢
      have hcl : ∀ ty, (Builtin.clear_ #[29] ty #[.slice (some ⟨g, K, none⟩) (l.length - K) (cap - K)]).run Try.prog wr = .ok (.tuple #[]) (wr.setCells g K (List.replicate (l.length - K) (.int .i64 0))) :=
        fun ty => Lib.run_clear_slice wr 29 3 ty (.int .i64 0) Try.underlying29 zero3 rfl rfl g K _ _ (by omega) (fun q hq => by rw [(own_cell HOr.out (i := K + q) (by omega)).1]; rfl) (fun q hq => (RowAt.of_own HOr.out).frozen _)
      have HE : Hid ((wr.setCells g K (List.replicate (l.length - K) (.int .i64 0))).ownsRow base 3 1 (.slice (some ⟨g, 0, none⟩) K cap) K ((kp nd l).map (Value.int .i64)) ∧ w.grownBy (wr.setCells g K (List.replicate (l.length - K) (.int .i64 0))) (some g)) := by
        refine ⟨?_, grw_trans HGr.out (grw_sets _ _ _ _)⟩
        have := own_clear HOr.out K (by omega) (List.replicate (l.length - K) (.int .i64 0))
        rw [← List.map_take, hz.2.2.1] at this
        exact this
      have hK0 : (0 : Int) ≤ (K : Int) := by omega
      have hK1 : (K : Int) ≤ (l.length : Int) := by omega
      have hK2 : (K : Int) ≤ (cap : Int) := by omega
      clear hz
      go_wp2_with (simp only [hcl])
      go_ret
      exact ⟨by rw [hK.out]; rfl, by rw [hK.out]; exact HE⟩
end Gra
end Go.Proofs.Ytiabnjmblcogmaa
end
