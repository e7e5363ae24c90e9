/- Texts put together: AsmT, Own, PenP, PenW, PenU, PenR. -/
import Derived.Lib.ParseIntBTie
import Derived.Lib.ItoaNum
import Derived.Lib.ItoaLen
import Derived.Lib.SplitLaws
import Derived.Lib.IndexBytes
import Derived.Lib.JoinLaws
import Derived.Lib.TrimByte
import Derived.Test.YtlhalhilnkneeaaGreatDoorChecked
import Derived.WalkKit
import Derived.Below
import Derived.Deep.AppendLies
import Derived.Deep.RegionLaw
import Derived.Laws.IdiomStrings
import Derived.Laws.BytesArg
import Derived.Lib.Hide
import Derived.WalkLawsBesides
import Derived.Laws.DeepStrings4
import Derived.WalkSmall
import Derived.Deep.LoopGhost
import Derived.Deep.DeepMust
import Derived.Deep.RegionWith
import Derived.Deep.QuietTactic
import Derived.Deep.OwnRows
set_option linter.all false
section
namespace Go.Proofs.YtlhalhilnkneeaaGreatDoor
namespace Asm
open Go.Lib (decDigits itoa)
/-- What stands between bytes of one kind. -/
def splitL (b : UInt8) : List UInt8 → List (List UInt8)
  | [] => [[]]
  | x :: l => if x = b then [] :: splitL b l else match splitL b l with
    | [] => [[x]]
    | p :: r => (x :: p) :: r
theorem splitL_ne (b : UInt8) (l : List UInt8) : splitL b l ≠ [] := by
  cases l with
  | nil => exact List.cons_ne_nil _ _
  | cons x l =>
    unfold splitL
    split
    · exact List.cons_ne_nil _ _
    · split <;> exact List.cons_ne_nil _ _
theorem splitL_not (b : UInt8) : ∀ l : List UInt8, b ∉ l → splitL b l = [l]
  | [], _ => rfl
  | x :: l, h => by
    have h1 : x ≠ b := fun e => h (by rw [e]; exact List.mem_cons_self ..)
    rw [splitL, if_neg h1, splitL_not b l fun hm => h (List.mem_cons_of_mem _ hm)]
theorem splitL_more (b : UInt8) (r : List UInt8) : ∀ l : List UInt8, b ∉ l → splitL b (l ++ b :: r) = l :: splitL b r
  | [], _ => by rw [List.nil_append, splitL, if_pos rfl]
  | x :: l, h => by
    have h1 : x ≠ b := fun e => h (by rw [e]; exact List.mem_cons_self ..)
    rw [List.cons_append, splitL, if_neg h1, splitL_more b r l fun hm => h (List.mem_cons_of_mem _ hm)]
theorem splitL_len (b : UInt8) : ∀ l : List UInt8, (splitL b l).length = l.count b + 1
  | [] => rfl
  | x :: l => by
    rw [splitL]
    split
    · rename_i e
      subst e
      rw [List.length_cons, splitL_len x l, List.count_cons_self]
    · rename_i e
      have ih := splitL_len b l
      rw [List.count_cons_of_ne (by simpa using e)]
      split
      · rename_i h0; exact absurd h0 (splitL_ne b l)
      · rename_i p r h0; rw [h0] at ih; exact ih
/-- How a text is parted from its front. -/
theorem splitL_front (b : UInt8) (l : List UInt8) (h : b ∈ l) : ∃ p r, l = p ++ b :: r ∧ b ∉ p ∧ splitL b l = p :: splitL b r := by
  induction l with
  | nil => cases h
  | cons x l ih =>
    by_cases e : x = b
    · subst e
      exact ⟨[], l, rfl, (fun hm => by cases hm), by rw [splitL, if_pos rfl]⟩
    · have hm : b ∈ l := by
        rcases List.mem_cons.1 h with h1 | h1
        · exact absurd h1.symm e
        · exact h1
      obtain ⟨p, r, e1, e2, e3⟩ := ih hm
      refine ⟨x :: p, r, by rw [e1]; rfl, fun hm => ?_, by rw [splitL, if_neg e, e3]⟩
      rcases List.mem_cons.1 hm with h1 | h1
      · exact e h1.symm
      · exact e2 h1
/-- The parts behind a byte more at the end (as the document's loop goes). -/
def putPart (x : UInt8) : List (List UInt8) → List (List UInt8)
  | [] => []
  | [p] => [p ++ [x]]
  | p :: q :: r => p :: putPart x (q :: r)
theorem index_front (b : UInt8) (r : List UInt8) : ∀ p : List UInt8, b ∉ p → Lib.index (p ++ b :: r) [b] = (p.length : Int)
  | [], _ => by rw [List.nil_append, Lib.index]; simp [List.isPrefixOf]
  | x :: p, h => by
    have h1 : b ≠ x := fun e => h (by rw [e]; exact List.mem_cons_self ..)
    have hp : ([b] : List UInt8).isPrefixOf (x :: (p ++ b :: r)) = false := by simp [List.isPrefixOf, h1]
    have ih := index_front b r p fun hm => h (List.mem_cons_of_mem _ hm)
    rw [List.cons_append, Lib.index, hp, ih]
    simp
    try omega
theorem index_not (b : UInt8) : ∀ p : List UInt8, b ∉ p → Lib.index p [b] = -1
  | [], _ => by rw [Lib.index]; simp
  | x :: p, h => by
    have h1 : b ≠ x := fun e => h (by rw [e]; exact List.mem_cons_self ..)
    have hp : ([b] : List UInt8).isPrefixOf (x :: p) = false := by simp [List.isPrefixOf, h1]
    have ih := index_not b p fun hm => h (List.mem_cons_of_mem _ hm)
    rw [Lib.index, hp, ih]
    simp
/-- The library's parts are these. -/
theorem splitK_eq (b : UInt8) : ∀ (n : Nat) (l : List UInt8), l.count b = n → Lib.splitK [b] 0 n l = splitL b l
  | 0, l, h => by
    have hn : b ∉ l := fun hm => by have := List.count_pos_iff.2 hm; omega
    rw [splitL_not b l hn]
    rfl
  | n + 1, l, h => by
    have hm : b ∈ l := List.count_pos_iff.1 (by omega)
    obtain ⟨p, r, e1, e2, e3⟩ := splitL_front b l hm
    have hc : r.count b = n := by
      rw [e1, List.count_append, List.count_cons_self, List.count_eq_zero_of_not_mem e2] at h
      omega
    rw [e3, Lib.splitK, e1, index_front b r p e2, if_neg (by simp)]
    congr 1
    · simp
    · rw [← splitK_eq b n r hc]
      congr 1
      simp
theorem split_data (b : UInt8) (s : ByteArray) : (Lib.splitB ⟨#[b]⟩ 0 (Lib.countB s ⟨#[b]⟩) s).map (·.data.toList) = splitL b s.data.toList := by
  rw [Lib.splitB_data]
  show Lib.splitK [b] 0 (Lib.count s.data.toList [b]) s.data.toList = _
  rw [Lib.count_one]
  exact splitK_eq b _ _ rfl
/-- What stands ahead of the first such byte, and behind it. -/
def cutL (b : UInt8) : List UInt8 → Option (List UInt8 × List UInt8)
  | [] => none
  | x :: l => if x = b then some ([], l) else (cutL b l).map fun p => (x :: p.1, p.2)
theorem cutL_not (b : UInt8) : ∀ l : List UInt8, b ∉ l → cutL b l = none
  | [], _ => rfl
  | x :: l, h => by
    have h1 : x ≠ b := fun e => h (by rw [e]; exact List.mem_cons_self ..)
    rw [cutL, if_neg h1, cutL_not b l fun hm => h (List.mem_cons_of_mem _ hm)]
    rfl
theorem cutL_at (b : UInt8) (r : List UInt8) : ∀ l : List UInt8, b ∉ l → cutL b (l ++ b :: r) = some (l, r)
  | [], _ => by rw [List.nil_append, cutL, if_pos rfl]
  | x :: l, h => by
    have h1 : x ≠ b := fun e => h (by rw [e]; exact List.mem_cons_self ..)
    rw [List.cons_append, cutL, if_neg h1, cutL_at b r l fun hm => h (List.mem_cons_of_mem _ hm)]
    rfl
theorem cut_eq (b : UInt8) (l : List UInt8) : Lib.cut l [b] = match cutL b l with
    | some p => (p.1, p.2, true)
    | none => (l, [], false) := by
  by_cases h : b ∈ l
  · obtain ⟨p, r, e1, e2, -⟩ := splitL_front b l h
    rw [e1, cutL_at b r p e2]
    unfold Lib.cut
    rw [index_front b r p e2, if_pos (by omega)]
    simp
  · rw [cutL_not b l h]
    unfold Lib.cut
    rw [index_not b l h, if_neg (by omega)]
/-- Parts put together. -/
def joinL (b : UInt8) : List (List UInt8) → List UInt8
  | [] => []
  | [x] => x
  | x :: y :: r => x ++ b :: joinL b (y :: r)
theorem split_join (b : UInt8) : ∀ ps : List (List UInt8), ps ≠ [] → (∀ p ∈ ps, b ∉ p) → splitL b (joinL b ps) = ps
  | [], h, _ => absurd rfl h
  | [x], _, h => splitL_not b x (h x (List.mem_singleton.2 rfl))
  | x :: y :: r, _, h => by
    rw [joinL, splitL_more b _ x (h x (List.mem_cons_self ..)), split_join b (y :: r) (List.cons_ne_nil _ _) fun p hp => h p (List.mem_cons_of_mem _ hp)]
/-- The parts that are some. -/
def wordsL (l : List UInt8) : List (List UInt8) := (splitL 32 l).filter fun p => !p.isEmpty
theorem words_join (ps : List (List UInt8)) (h0 : ps ≠ []) (h : ∀ p ∈ ps, 32 ∉ p ∧ p ≠ []) : wordsL (joinL 32 ps) = ps := by
  unfold wordsL
  rw [split_join 32 ps h0 fun p hp => (h p hp).1]
  rw [List.filter_eq_self]
  intro p hp
  have := (h p hp).2
  cases p with
  | nil => exact absurd rfl this
  | cons => rfl
/-- A line that does not count. -/
def skip (l : List UInt8) : Bool := match l.dropWhile (· == 32) with
  | [] => true
  | x :: _ => x == 35
theorem words_drop (l : List UInt8) : wordsL (l.dropWhile (· == 32)) = wordsL l := by
  induction l with
  | nil => rfl
  | cons x l ih =>
    rw [List.dropWhile_cons]
    split
    · rename_i e
      have e' : x = 32 := by simpa using e
      subst e'
      rw [ih]
      unfold wordsL
      rw [splitL, if_pos rfl]
      rfl
    · rfl
theorem words_head (x : UInt8) (l : List UInt8) (h : x ≠ 32) : ∃ p r, wordsL (x :: l) = (x :: p) :: r := by
  unfold wordsL
  rw [splitL, if_neg h]
  split
  · exact ⟨[], [], rfl⟩
  · rename_i p r e
    exact ⟨p, _, rfl⟩
/-- A line counts by its first word. -/
theorem skip_words (l : List UInt8) : skip l = match wordsL l with
    | [] => true
    | p :: _ => p.head? == some 35 := by
  rw [← words_drop l]
  unfold skip
  cases hd : l.dropWhile (· == 32) with
  | nil => rfl
  | cons x r =>
    have hx : x ≠ 32 := by
      have := List.head?_dropWhile_not (· == (32 : UInt8)) l
      rw [hd] at this
      simpa using this
    obtain ⟨p, q, e⟩ := words_head x r hx
    rw [e]
    simp
theorem dig_byte (k : Nat) (h : k < 10) : (UInt8.ofNat (48 + k)).toNat = 48 + k := by
  rw [UInt8.toNat_ofNat']
  omega
theorem dig_range (u : Nat) : ∀ c ∈ decDigits u, 48 ≤ c.toNat ∧ c.toNat ≤ 57 := by
  induction u using Nat.strongRecOn with
  | _ u ih =>
    intro c hc
    rw [decDigits] at hc
    split at hc
    · rename_i h
      rw [List.mem_singleton] at hc
      rw [hc, dig_byte u h]
      omega
    · rename_i h
      rcases List.mem_append.1 hc with hc | hc
      · exact ih (u / 10) (by omega) c hc
      · rw [List.mem_singleton] at hc
        rw [hc, dig_byte (u % 10) (by omega)]
        omega
theorem dig_ne (u : Nat) : decDigits u ≠ [] := by
  rw [decDigits]
  split
  · exact List.cons_ne_nil _ _
  · exact List.append_ne_nil_of_right_ne_nil _ (List.cons_ne_nil _ _)
theorem parse_append (M : Nat) (hM : M ≤ 18446744073709551615) (d : Nat) (hd : d < 10) : ∀ (l : List UInt8) (acc u : Nat), Lib.parseUintM M acc l = .ok u → u * 10 + d ≤ M → Lib.parseUintM M acc (l ++ [UInt8.ofNat (48 + d)]) = .ok (u * 10 + d)
  | [], acc, u, h, hu => by
    simp only [Lib.parseUintM] at h
    injection h with h
    subst h
    rw [List.nil_append, Lib.parseUintM, dig_byte d hd, if_pos (by omega), if_neg (by omega), if_neg (by omega), Lib.parseUintM]
    congr 1
    omega
  | c :: l, acc, u, h, hu => by
    rw [Lib.parseUintM] at h
    rw [List.cons_append, Lib.parseUintM]
    split at h
    · rename_i h1
      rw [if_pos h1]
      split at h
      · cases h
      · rename_i h2
        rw [if_neg h2]
        split at h
        · cases h
        · rename_i h3
          rw [if_neg h3]
          exact parse_append M hM d hd l _ u h hu
    · cases h
theorem parse_dig (M : Nat) (hM : M ≤ 18446744073709551615) (u : Nat) (hu : u ≤ M) : Lib.parseUintM M 0 (decDigits u) = .ok u := by
  induction u using Nat.strongRecOn with
  | _ u ih =>
    rw [decDigits]
    split
    · rename_i h
      rw [Lib.parseUintM, dig_byte u h, if_pos (by omega), if_neg (by omega), if_neg (by omega), Lib.parseUintM]
      congr 1
      omega
    · rename_i h
      have := parse_append M hM (u % 10) (by omega) (decDigits (u / 10)) 0 (u / 10) (ih (u / 10) (by omega) (by omega)) (by omega)
      rw [this]
      congr 1
      omega
/-- Numbers of an int. -/
def I64 (n : Int) : Prop := -9223372036854775808 ≤ n ∧ n ≤ 9223372036854775807
instance (n : Int) : Decidable (I64 n) := inferInstanceAs (Decidable (_ ∧ _))
theorem parse_itoa (n : Int) (h : I64 n) : Lib.parseIntB 64 (itoa n) = .ok n := by
  obtain ⟨h0, h1⟩ := h
  unfold itoa
  split
  · rename_i hn
    unfold Lib.parseIntB
    dsimp only
    have e45 : (45 : UInt8).toNat = 45 := rfl
    rw [e45, if_pos (Or.inr rfl)]
    unfold Lib.parseUintB
    rw [if_neg (dig_ne _), parse_dig _ (by decide) _ (by omega)]
    dsimp only
    rw [if_neg (by rintro ⟨h, -⟩; exact h rfl), if_neg (by rintro ⟨-, h⟩; omega), if_pos rfl]
    congr 1
    omega
  · rename_i hn
    unfold Lib.parseIntB
    cases hd : decDigits n.toNat with
    | nil => exact absurd hd (dig_ne _)
    | cons c r =>
      have hc := dig_range n.toNat c (by rw [hd]; exact List.mem_cons_self ..)
      dsimp only
      rw [if_neg (by omega), ← hd]
      unfold Lib.parseUintB
      rw [if_neg (dig_ne _), parse_dig _ (by decide) _ (by omega)]
      dsimp only
      have hne : ¬ c.toNat = 45 := by omega
      rw [if_neg (by rintro ⟨-, h⟩; omega), if_neg (by rintro ⟨h, -⟩; exact hne h), if_neg hne]
      congr 1
      omega
/-- The number that a text tells. -/
def numL (l : List UInt8) : Option Int := match Lib.parseIntB 64 l with
  | .ok v => if itoa v = l then some v else none
  | _ => none
theorem numL_itoa (n : Int) (h : I64 n) : numL (itoa n) = some n := by
  unfold numL
  rw [parse_itoa n h]
  dsimp only
  rw [if_pos rfl]
theorem numL_some {l : List UInt8} {n : Int} (h : numL l = some n) : itoa n = l ∧ I64 n := by
  unfold numL at h
  cases hp : Lib.parseIntB 64 l with
  | ok v =>
    rw [hp] at h
    dsimp only at h
    split at h
    · rename_i e
      cases h
      have hb := Lib.parseIntB_bounds hp
      have e63 : ((2 ^ (64 - 1) : Nat) : Int) = 9223372036854775808 := by decide
      rw [e63] at hb
      exact ⟨e, hb.1, by omega⟩
    · cases h
  | _ => rw [hp] at h; cases h
theorem numL_none {l : List UInt8} (h : numL l = none) (n : Int) (hn : I64 n) : itoa n ≠ l := fun e => by
  rw [← e, numL_itoa n hn] at h
  cases h
theorem itoa_byte (n : Int) : ∀ c ∈ itoa n, c = 45 ∨ (48 ≤ c.toNat ∧ c.toNat ≤ 57) := by
  intro c hc
  unfold itoa at hc
  split at hc
  · rcases List.mem_cons.1 hc with rfl | hc
    · exact Or.inl rfl
    · exact Or.inr (dig_range _ c hc)
  · exact Or.inr (dig_range _ c hc)
theorem itoa_not (n : Int) (b : UInt8) (h : b.toNat < 45 ∨ b.toNat = 46 ∨ b.toNat = 47 ∨ 57 < b.toNat) : b ∉ itoa n := fun hm => by
  rcases itoa_byte n b hm with rfl | hb
  · revert h; decide
  · omega
theorem itoa_ne (n : Int) : itoa n ≠ [] := by
  unfold itoa
  split
  · exact List.cons_ne_nil _ _
  · exact dig_ne _
end Asm
end Go.Proofs.YtlhalhilnkneeaaGreatDoor
end
section
namespace Go.Proofs.YtlhalhilnkneeaaGreatDoor
open Go.RowKit
namespace Own
theorem own_block {w : World} {base : Nat} {e : TypeId} {size : Nat} {v : Value} {n : Nat} {xs : List Value} (h : w.ownsRow base e size v n xs) {B : Nat} (hB : B ≤ base) : ∀ k, v.ownBlock = some k → B ≤ k :=
  fun k hk => Nat.le_trans hB (h.lt k hk).1
/-- One element behind a row of one's own, in a region that draws its order. -/
theorem step_one {P : Program} {ops : Array Oper} {o : Oper} {a : Act} {w : World} {K : Act → World → Prop} {Q : Exit → Act → World → Prop} {E : Prop} (hgd : o.guard = none) (s x : Operand) (t : TypeId)
    (ho : o.op = .call { callee := .builtin .append, args := #[s, x], argTypes := #[t, t] })
    (base : Nat) (e : TypeId) (i : TypeInfo) (z : Value) (bytes : Nat) (ht : P.underlying t = some (.slice e)) (hi : P.info? e = some i) (hz : i.zero = some z)
    (hsize : i.size = 1) (hby : i.bytes = bytes) (hzs : z.cells.size = 1)
    (v : Value) (n : Nat) (xs : List Value) (hs : a.eval s = v) (ad : Addr) (c : Nat) (u : Value) (hx : a.eval x = .slice (some ad) 1 c) (hown : w.ownsRow base e 1 v n xs)
    (hu : w.cell? ad = some u) (h1 : u.oneCell' = true) (h63 : n + 1 ≤ maxLen) (hbytes : (n + 1) * bytes ≤ 140737488355328) (hbase : base ≤ w.heap.size)
    (h : ∀ v' w', w'.ownsRow base e 1 v' (n + 1) (xs ++ [u]) → w.grownBy w' v.ownBlock → K (a.put o.dst v') w') :
    if Region.wanted o (yielded ops a.tmps) = true then Oper.wp P o a w K Q else E :=
  step_append_lies w hgd s x t ho base e i z 1 bytes ht hi hz hsize hby hzs (by decide) v n xs hs hown ad 1 c [u] hx rfl
    (fun j u2 hj => by cases j with
      | zero => simp at hj; subst hj; simpa [Addr.add] using hu
      | succ j => simp at hj) (fun u2 hw => by simp at hw; subst hw; exact h1) (by decide) h63 hbytes hbase _ rfl
    (fun g cap w' hown' hgrow _ _ => h _ w' hown' hgrow)
/-- One element behind a row of one's own. -/
theorem list_one {P : Program} {ops : Array Oper} {rest : List Oper} {o : Oper} {a : Act} {w : World} {Q : Exit → Act → World → Prop} (hgd : o.guard = none) (s x : Operand) (t : TypeId)
    (ho : o.op = .call { callee := .builtin .append, args := #[s, x], argTypes := #[t, t] })
    (base : Nat) (e : TypeId) (i : TypeInfo) (z : Value) (bytes : Nat) (ht : P.underlying t = some (.slice e)) (hi : P.info? e = some i) (hz : i.zero = some z)
    (hsize : i.size = 1) (hby : i.bytes = bytes) (hzs : z.cells.size = 1)
    (v : Value) (n : Nat) (xs : List Value) (hs : a.eval s = v) (ad : Addr) (c : Nat) (u : Value) (hx : a.eval x = .slice (some ad) 1 c) (hown : w.ownsRow base e 1 v n xs)
    (hu : w.cell? ad = some u) (h1 : u.oneCell' = true) (h63 : n + 1 ≤ maxLen) (hbytes : (n + 1) * bytes ≤ 140737488355328) (hbase : base ≤ w.heap.size)
    (h : ∀ v' w', w'.ownsRow base e 1 v' (n + 1) (xs ++ [u]) → w.grownBy w' v.ownBlock → wpList P ops Q rest (a.put o.dst v') w') : wpList P ops Q (o :: rest) a w :=
  wpList_append_own w hgd s x t ho base e i z 1 bytes ht hi hz hsize hby hzs (by decide) v n xs hs hown ad 1 c [u] hx rfl
    (fun j u2 hj => by cases j with
      | zero => simp at hj; subst hj; simpa [Addr.add] using hu
      | succ j => simp at hj) (fun u2 hw => by simp at hw; subst hw; exact h1) h63 hbytes hbase
    (fun v' w' hown' hgrow _ => h v' w' hown' hgrow)
/-- Bytes as cells. -/
def byteVals (l : List UInt8) : List Value := l.map fun b => Value.int .u8 b.toNat
theorem byteVals_append (a b : List UInt8) : byteVals (a ++ b) = byteVals a ++ byteVals b := by simp [byteVals]
theorem byteVals_length (a : List UInt8) : (byteVals a).length = a.length := by simp [byteVals]
/-- 'string(b)' of bytes of one's own. -/
theorem run_back {P : Program} {w : World} {base : Nat} {e src dst : TypeId} {v : Value} {l : List UInt8} (hs : P.underlying src = some (.slice e)) (he : P.underlying e = some (.int .u8)) (hd : P.underlying dst = some .string)
    (h : w.ownsRow base e 1 v l.length (byteVals l)) : (convert src dst v).run P w = .ok (.string ⟨l.toArray⟩) w := by
  rcases h.2 with ⟨rfl, h0⟩ | ⟨g, cap, cur, rfl, _, _, _⟩
  · have : l = [] := List.length_eq_zero_iff.1 h0
    subst this
    exact run_convert_bytes_nil w src e hs he 0 0 dst hd
  · apply run_convert_bytes_back w src dst e _ cap l hs he hd
    intro j hj
    exact h.cells rfl j _ (by simp [byteVals, hj])
theorem ownsRow_drewN {w : World} {base : Nat} {e : TypeId} {size : Nat} {v : Value} {n : Nat} {xs : List Value} (h : w.ownsRow base e size v n xs) (q : Nat) : (w.drewN q).ownsRow base e size v n xs := h
theorem ownsRow_drew {w : World} {base : Nat} {e : TypeId} {size : Nat} {v : Value} {n : Nat} {xs : List Value} (h : w.ownsRow base e size v n xs) : w.drew.ownsRow base e size v n xs := h
theorem cell_new (w : World) (x : Value) (t : TypeId) : (w.alloc (.cells #[x] t)).cell? ⟨w.heap.size, 0, none⟩ = some x :=
  (cell_of_row _ _ 0 #[x] t (0, 0) (by show (w.heap.push _)[w.heap.size]? = _; simp)).trans rfl
/-- 'string(b)' of a block of bytes. -/
theorem run_back_block {P : Program} {w : World} {e src dst T : TypeId} {fr : Nat × Nat} (g cap : Nat) (l : List UInt8) (rest : List Value) (hs : P.underlying src = some (.slice e)) (he : P.underlying e = some (.int .u8)) (hd : P.underlying dst = some .string)
    (h : w.heap[g]? = some (.cells (byteVals l ++ rest).toArray T fr)) : (convert src dst (.slice (some ⟨g, 0, none⟩) l.length cap)).run P w = .ok (.string ⟨l.toArray⟩) w := by
  apply run_convert_bytes_back w src dst e _ cap l hs he hd
  intro j hj
  have hadd : (⟨g, 0, none⟩ : Addr).add j = ⟨g, j, none⟩ := by unfold Addr.add; split <;> simp_all
  rw [hadd, cell_of_row _ _ _ _ _ _ h]
  simp [byteVals, List.getElem?_append, hj]
theorem heap_new (w : World) (o : Obj) : (w.alloc o).heap[w.heap.size]? = some o := by
  show (w.heap.push _)[w.heap.size]? = _; simp
theorem run_back_new {P : Program} {w : World} {e src dst T : TypeId} (cap : Nat) (C : Array Value) (l : List UInt8) (n : Nat) (hs : P.underlying src = some (.slice e)) (he : P.underlying e = some (.int .u8)) (hd : P.underlying dst = some .string)
    (hC : C = (byteVals l).toArray) (hn : l.length = n) : (convert src dst (.slice (some ⟨w.heap.size, 0, none⟩) n cap)).run P (w.alloc (.cells C T)) = .ok (.string ⟨l.toArray⟩) (w.alloc (.cells C T)) := by
  subst hn
  exact run_back_block w.heap.size cap l [] hs he hd (by rw [heap_new, hC, List.append_nil])
/-- A cut of a string, its bounds written as a walk writes them. -/
theorem slice_str {P : Program} {t : TypeId} (ht : P.underlying t = some .string) (s : ByteArray) (lo hi : Nat) (i j : Int) (h1 : i = (lo : Int)) (h2 : j = (hi : Int)) (h3 : lo ≤ hi) (h4 : hi ≤ s.size) (w : World) :
    (Instr.slice t (.string s) (some (.int .i64 i)) (some (.int .i64 j)) none).run P w = .ok (.string (s.extract lo hi)) w := by
  subst h1
  subst h2
  rw [run_slice_string_if w t s .i64 .i64 _ _ ht, if_pos ⟨by omega, by omega⟩, if_pos ⟨by omega, by omega⟩]
  simp
/-- A row of one's own stays where nothing that was there has changed. -/
theorem own_below {w w' : World} {base : Nat} {e : TypeId} {size : Nat} {v : Value} {n : Nat} {xs : List Value} (h : w.ownsRow base e size v n xs) (hb : Below w.heap.size w w') : w'.ownsRow base e size v n xs := by
  refine ⟨h.1, ?_⟩
  rcases h.2 with h0 | ⟨g, cap, cur, rfl, h1, hg, h2⟩
  · exact .inl h0
  · exact .inr ⟨g, cap, cur, rfl, h1, (hb.block g (Array.getElem?_eq_some_iff.1 hg).1).trans hg, h2⟩
end Own
end Go.Proofs.YtlhalhilnkneeaaGreatDoor
end
section
namespace Go.Proofs.YtlhalhilnkneeaaGreatDoor
open Go.RowKit
namespace Pen
def bs (l : List UInt8) : ByteArray := ⟨l.toArray⟩
theorem bs_size (l : List UInt8) : (bs l).size = l.length := by unfold bs; simp [ByteArray.size]
theorem bs_toList (l : List UInt8) : (bs l).data.toList = l := rfl
theorem bs_append (a b : List UInt8) : bs a ++ bs b = bs (a ++ b) := by
  apply ByteArray.ext
  simp [bs, ByteArray.data_append]
/-- A word's bytes; so many more than one may come. -/
def wbF : Nat → Nat → List UInt8
  | 0, n => [UInt8.ofNat n]
  | f + 1, n => if n < 128 then [UInt8.ofNat n] else UInt8.ofNat (128 + n % 128) :: wbF f (n / 128)
def wb (n : Nat) : List UInt8 := wbF 9 n
/-- A number's bytes. -/
def uintB (n : Int) : List UInt8 := if n < 0 then [] else wb n.toNat
theorem wbF_len (f n : Nat) : 1 ≤ (wbF f n).length ∧ (wbF f n).length ≤ f + 1 := by
  induction f generalizing n with
  | zero => simp [wbF]
  | succ f ih =>
    rw [wbF]
    split
    · simp
    · have := ih (n / 128)
      simp only [List.length_cons]; omega
theorem uintB_len (n : Int) : (uintB n).length ≤ 10 := by
  unfold uintB wb
  split
  · simp
  · have := wbF_len 9 n.toNat; omega
/-- A word that stands there: what it is, and what is left. -/
def rdF : Nat → Nat → Nat → List UInt8 → Option (Nat × List UInt8)
  | 0, _, _, _ => none
  | _ + 1, _, _, [] => none
  | f + 1, k, n, b :: l => if (b = 0 ∧ 0 < k) ∨ (k = 9 ∧ 1 < b.toNat) then none else if b.toNat < 128 then some (n + b.toNat % 128 * 2 ^ (7 * k), l) else rdF f (k + 1) (n + b.toNat % 128 * 2 ^ (7 * k)) l
def rd (l : List UInt8) : Option (Nat × List UInt8) := rdF 10 0 0 l
/-- A number at most so great, out of what a reader has left; none: it is bad. -/
def uintS (most : Int) : Option (List UInt8) → Int × Option (List UInt8)
  | none => (0, none)
  | some l => match rd l with
    | none => (0, none)
    | some (n, l') => if (9223372036854775807 : Int) < (n : Int) ∨ most < (n : Int) then (0, none) else ((n : Int), some l')
def doneS : Option (List UInt8) → Bool
  | none => false
  | some l => l.isEmpty
theorem rdF_small (f k n : Nat) (l : List UInt8) (r : Nat × List UInt8) (hf : f + k = 10) (hn : n < 2 ^ (7 * k)) (h : rdF f k n l = some r) : r.1 < 2 ^ 64 ∧ r.2.length < l.length := by
  induction f generalizing k n l with
  | zero => cases l <;> simp [rdF] at h
  | succ f ih =>
    cases l with
    | nil => simp [rdF] at h
    | cons b l =>
      rw [rdF] at h
      split at h
      · cases h
      · rename_i hc
        have hb : b.toNat < 256 := b.toNat_lt
        have hk : k ≤ 9 := by omega
        have hmod : b.toNat % 128 ≤ 127 := by omega
        have hstep : n + b.toNat % 128 * 2 ^ (7 * k) < 2 ^ (7 * (k + 1)) := by
          rw [show 7 * (k + 1) = 7 * k + 7 by omega, Nat.pow_add]
          have : b.toNat % 128 * 2 ^ (7 * k) ≤ 127 * 2 ^ (7 * k) := Nat.mul_le_mul_right _ hmod
          omega
        split at h
        · cases h
          refine ⟨?_, by simp⟩
          simp only
          by_cases h9 : k = 9
          · subst h9
            have : b.toNat ≤ 1 := by omega
            have h1 : b.toNat % 128 * 2 ^ (7 * 9) ≤ 1 * 2 ^ (7 * 9) := Nat.mul_le_mul_right _ (by omega)
            omega
          · have h2 : 2 ^ (7 * (k + 1)) ≤ 2 ^ 63 := Nat.pow_le_pow_right (by omega) (by omega)
            omega
        · have := ih (k + 1) _ l (by omega) hstep h
          refine ⟨this.1, by simp only [List.length_cons]; omega⟩
theorem rd_small {l : List UInt8} {r : Nat × List UInt8} (h : rd l = some r) : r.1 < 2 ^ 64 ∧ r.2.length < l.length := rdF_small 10 0 0 l r rfl (by decide) h
end Pen
end Go.Proofs.YtlhalhilnkneeaaGreatDoor
end
section
namespace Go.Proofs.YtlhalhilnkneeaaGreatDoor
open Go.RowKit
namespace Pen
theorem below2 {w a b : World} (h : Below w.heap.size w a) (h2 : Below a.heap.size a b) : Below w.heap.size w b := h.trans (h2.mono h.size)
theorem below_al {w x : World} (h : Below w.heap.size w x) (o : Obj) : Below w.heap.size w (x.alloc o) := h.alloc h.size o
theorem uinfo : (Tryz.prog.info? 5).map (fun i => (i.zero, i.size, i.bytes)) = some (some (.int .u8 0), 1, 1) := by kernel_rfl
theorem and127 (n : Nat) (h : n < 18446744073709551616) : bits .and .u64 (n : Int) 127 = ((n % 128 : Nat) : Int) := by
  show IntKind.u64.wrap ((BitVec.ofInt 64 (n : Int) &&& BitVec.ofInt 64 127).toNat : Int) = _
  rw [BitVec.toNat_and, show (BitVec.ofInt 64 127).toNat = 2 ^ 7 - 1 from rfl, Nat.and_two_pow_sub_one_eq_mod, show (BitVec.ofInt 64 (n : Int)).toNat = n by rw [BitVec.ofInt_natCast, BitVec.toNat_ofNat]; exact Nat.mod_eq_of_lt h, IntKind.wrap_u64]
  omega
theorem or128 (m : Nat) (h : m < 128) : bits .or .u8 128 (m : Int) = ((128 + m : Nat) : Int) := by
  have key : ∀ m : Fin 128, bits .or .u8 128 ((m.val : Nat) : Int) = ((128 + m.val : Nat) : Int) := by decide +kernel
  exact key ⟨m, h⟩
theorem u8v (m : Nat) (h : m < 256) : ((UInt8.ofNat m).toNat : Int) = (m : Int) := by
  have e : (UInt8.ofNat m).toNat = m % 256 := by simp
  rw [e, Nat.mod_eq_of_lt h]
theorem back_form {w : World} {base : Nat} {e : TypeId} {v : Value} {b l : List UInt8} {m : UInt8} {M : Int} (hr : l = b ++ [m]) (hv : (m.toNat : Int) = M) (h : w.ownsRow base e 1 v (b.length + 1) (Own.byteVals b ++ [.int .u8 M])) : w.ownsRow base e 1 v l.length (Own.byteVals l) := by
  subst hr
  subst hv
  rw [List.length_append, List.length_singleton, Own.byteVals_append]
  exact h
set_option maxRecDepth 100000 in
set_option maxHeartbeats 1000000 in
theorem word_any (n : Nat) (hn : n < 18446744073709551616) (w : World) :
    Calls Tryz.prog 114 #[.int .u64 (n : Int)] w fun e w' => e = .returned (.string (bs (wb n))) ∧ Below w.heap.size w w' := by
  obtain ⟨i0, hi, hz0, hz1, hz2⟩ := info_parts uinfo
  have HN := Lib.hid hn
  clear hn
  obtain ⟨V, hV⟩ : ∃ V : Int, Hid ((n : Int) = V) := ⟨_, rfl⟩
  rw [hV.out]
  go_enter Tryz.func114, Tryz.ntmps114
  go_wp2
  go_loopg [0, 3] 9 (fun gk v0 v3 wr => ∃ (m : Nat) (b : List UInt8), v0 = .int .u64 (m : Int) ∧ Hid (b.length = 9 - gk ∧ gk ≤ 9 ∧ m < 2 ^ (7 * gk + 1) ∧ wb n = b ++ wbF gk m) ∧ Hid (wr.ownsRow w.heap.size 5 1 v3 b.length (Own.byteVals b)) ∧ Hid (Below w.heap.size w wr))
  case atStart => exact ⟨n, [], by rw [hV.out], ⟨rfl, Nat.le_refl _, HN.out, rfl⟩, World.ownsRow_nil _ _ _ _, Below.refl _ _⟩
  case round =>
    obtain ⟨m, b, rfl, HM, HO, HB⟩ := hrel
    obtain ⟨M, hM⟩ : ∃ M : Int, Hid ((m : Int) = M) := ⟨_, rfl⟩
    have HBL : Hid (b.length ≤ 9) := by have := HM.out; show _ ≤ _; omega
    have hm64 : m < 18446744073709551616 := by
      have h1 := HM.out.2.2.1
      have h2 : 2 ^ (7 * gk + 1) ≤ 2 ^ 64 := Nat.pow_le_pow_right (by omega) (by have := HM.out; omega)
      omega
    by_cases hlt : 127 < m
    · have hd : decide ((127 : Int) < M) = true := decide_eq_true (by have := hM.out; omega)
      have hgk : 1 ≤ gk := by
        by_cases e : gk = 0
        · have := HM.out.2.2.1
          rw [e] at this
          omega
        · omega
      obtain ⟨G, hG⟩ : ∃ G, Hid (gk = G + 1) := ⟨gk - 1, by show _ = _; omega⟩
      have hA := and127 m hm64
      have hO := or128 (m % 128) (by omega)
      have hW : wbF gk m = UInt8.ofNat (128 + m % 128) :: wbF G (m / 128) := by rw [hG.out, wbF, if_neg (by omega)]
      have HW := Lib.hid hW
      have HP : Hid (m / 128 < 2 ^ (7 * G + 1)) := by
        have h1 := HM.out.2.2.1
        rw [hG.out, show 7 * (G + 1) + 1 = 7 * G + 1 + 7 by omega, Nat.pow_add] at h1
        show _ < _
        omega
      have HV8 : Hid (((UInt8.ofNat (128 + m % 128)).toNat : Int) = ((128 + m % 128 : Nat) : Int)) := by
        exact u8v (128 + m % 128) (by omega)
      obtain ⟨A1, hA1⟩ : ∃ A1 : Int, Hid (((m % 128 : Nat) : Int) = A1) := ⟨_, rfl⟩
      obtain ⟨A2, hA2⟩ : ∃ A2 : Int, Hid (((128 + m % 128 : Nat) : Int) = A2) := ⟨_, rfl⟩
      have a0 : 0 ≤ A1 := by have := hA1.out; omega
      have a1 : A1 ≤ 127 := by have := hA1.out; omega
      rw [hA1.out, hM.out] at hA
      rw [hA1.out, hA2.out] at hO
      rw [hA2.out] at HV8
      have M0 : 0 ≤ M := by have := hM.out; omega
      obtain ⟨D, hD⟩ : ∃ D : Int, M / 128 = D := ⟨_, rfl⟩
      have HD : Hid (((m / 128 : Nat) : Int) = D) := by show _ = _; rw [← hD, ← hM.out]; omega
      rw [hM.out]
      clear hlt hm64 hgk hW
      go_wp2_with (at_builtin; go_must (refine Own.list_one rfl (.tmp 6) (.tmp 11) 92 rfl w.heap.size 5 i0 _ 1 Tryz.underlying92 hi hz0 hz1 hz2 rfl _ _ _ rfl _ _ _ rfl (HO.out.alloc _) (Own.cell_new _ _ _) rfl ?h1 ?h2 ?h3 ?_; (case h1 => have := HBL.out; unfold maxLen; omega); (case h2 => have := HBL.out; omega); (case h3 => have := HB.out.size; simp; omega); intro v3' w2 hown2 hgrow2; have HB2 := Lib.hid ((below_al HB.out _).grown hgrow2 (below_al HB.out _).size (Own.own_block HO.out (Nat.le_refl _))); have HO2 := Lib.hid hown2; clear hown2 hgrow2))
      go_roundg G
      case measure => have := hG.out; omega
      case rel =>
        refine ⟨m / 128, b ++ [UInt8.ofNat (128 + m % 128)], by rw [HD.out], ⟨?_, ?_, HP.out, ?_⟩, ?_, HB2⟩
        · have := HM.out; have := hG.out; rw [List.length_append, List.length_singleton]; omega
        · have := HM.out; have := hG.out; omega
        · have := HM.out.2.2.2; rw [this, HW.out, List.append_assoc]; rfl
        · rw [List.length_append, List.length_singleton, Own.byteVals_append]
          have h := HO2.out
          rw [← HV8.out] at h
          exact h
    · have hm : m < 128 := by omega
      have hd : decide ((127 : Int) < M) = false := decide_eq_false (by have := hM.out; omega)
      have hW : wbF gk m = [UInt8.ofNat m] := by
        cases gk with
        | zero => rfl
        | succ g => rw [wbF, if_pos hm]
      have HR : Hid (wb n = b ++ [UInt8.ofNat m]) := by show _ = _; rw [HM.out.2.2.2, hW]
      have HV8 : Hid (((UInt8.ofNat m).toNat : Int) = M) := by show _ = _; rw [u8v m (by omega)]; exact hM.out
      have M0 : 0 ≤ M := by have := hM.out; omega
      have M1 : M ≤ 127 := by have := hM.out; omega
      rw [hM.out]
      clear hlt hm64 hm hW
      go_wp2_with (at_builtin; go_must (refine Own.list_one rfl (.tmp 15) (.tmp 18) 92 rfl w.heap.size 5 i0 _ 1 Tryz.underlying92 hi hz0 hz1 hz2 rfl _ _ _ rfl _ _ _ rfl (HO.out.alloc _) (Own.cell_new _ _ _) rfl ?h1 ?h2 ?h3 ?_; (case h1 => have := HBL.out; unfold maxLen; omega); (case h2 => have := HBL.out; omega); (case h3 => have := HB.out.size; simp; omega); intro v3' w2 hown2 hgrow2; have HB2 := Lib.hid ((below_al HB.out _).grown hgrow2 (below_al HB.out _).size (Own.own_block HO.out (Nat.le_refl _))); have hback := Own.run_back (P := Tryz.prog) (l := wb n) (dst := 9) Tryz.underlying92 Tryz.underlying5 Tryz.underlying9 (back_form HR.out HV8.out hown2); clear hown2 hgrow2))
      go_ret
      exact ⟨rfl, HB2.out⟩
end Pen
end Go.Proofs.YtlhalhilnkneeaaGreatDoor
end
section
namespace Go.Proofs.YtlhalhilnkneeaaGreatDoor
open Go.RowKit
namespace Pen
set_option maxRecDepth 100000 in
theorem uint_any (n : Int) (hn : n ≤ 9223372036854775807) (w : World) :
    Calls Tryz.prog 72 #[.int .i64 n] w fun e w' => e = .returned (.string (bs (uintB n))) ∧ Below w.heap.size w w' := by
  by_cases h : n < 0
  · have d : decide (n < 0) = true := decide_eq_true h
    have HR : Hid (uintB n = []) := by show _ = _; unfold uintB; rw [if_pos h]
    rw [HR.out]
    clear h hn
    go_enter Tryz.func72, Tryz.ntmps72
    go_wp2
    go_ret
    exact ⟨rfl, Below.refl _ _⟩
  · have d : decide (n < 0) = false := decide_eq_false h
    have HR : Hid (uintB n = wb n.toNat) := by show _ = _; unfold uintB; rw [if_neg h]
    rw [HR.out]
    have CW : Hid (∀ w, _) := fun w => word_any n.toNat (by omega) w
    have hn0 : ((n.toNat : Nat) : Int) = n := by omega
    rw [hn0] at CW
    have hw : IntKind.u64.wrap n = n := by rw [IntKind.wrap_u64]; omega
    clear h hn hn0
    generalize wb n.toNat = B at *
    go_enter Tryz.func72, Tryz.ntmps72
    go_wp2_with (go_at_call 114; ((with_reducible refine (CW.out _).mono ?_); rintro e w1 ⟨rfl, hb1⟩; have HB1 := Lib.hid hb1; clear hb1))
    go_ret
    exact ⟨rfl, HB1.out⟩
theorem bs_cons (b : UInt8) (l : List UInt8) : bs [b] ++ bs l = bs (b :: l) := by rw [bs_append]; rfl
theorem back_at (b8 : UInt8) (B : Int) (hv : (b8.toNat : Int) = B) (w : World) (g : Nat) (h : w.heap[g]? = some (.cells #[.int .u8 B] 5 (0, 0))) :
    (convert 92 9 (.slice (some ⟨g, 0, none⟩) 1 1)).run Tryz.prog w = .ok (.string (bs [b8])) w := by
  subst hv
  exact Own.run_back_block (rest := []) g 1 [b8] Tryz.underlying92 Tryz.underlying5 Tryz.underlying9 h
theorem back_blk (b8 : UInt8) (B : Int) (hv : (b8.toNat : Int) = B) {w w1 : World} (h : Below (w.alloc (.cells #[.int .u8 B] 5)).drew.heap.size (w.alloc (.cells #[.int .u8 B] 5)).drew w1) :
    (convert 92 9 (.slice (some ⟨w.heap.size, 0, none⟩) 1 1)).run Tryz.prog w1 = .ok (.string (bs [b8])) w1 :=
  back_at b8 B hv w1 w.heap.size ((h.block w.heap.size (by show w.heap.size < (w.alloc _).heap.size; simp)).trans (heap_alloc_new w _))
set_option maxRecDepth 100000 in
set_option maxHeartbeats 1000000 in
theorem refWord_any (f : Nat) : ∀ (n : Nat), n < 2 ^ (7 * f + 1) → f ≤ 9 → ∀ (w : World),
    Calls Tryz.prog 121 #[.int .u64 (n : Int)] w fun e w' => e = .returned (.string (bs (wbF f n))) ∧ Below w.heap.size w w' := by
  induction f with
  | zero =>
    intro n hn _ w
    have hn2 : n < 128 := by omega
    have hd : decide ((n : Int) < 128) = true := decide_eq_true (by omega)
    have hcv := Own.run_back_new (P := Tryz.prog) (w := w) (src := 92) (dst := 9) (T := 5) 1 #[.int .u8 (n : Int)] [UInt8.ofNat n] 1 Tryz.underlying92 Tryz.underlying5 Tryz.underlying9 (by simp [Own.byteVals, Nat.mod_eq_of_lt (show n < 256 by omega)]) rfl
    have h0 : (0 : Int) ≤ (n : Int) := by omega
    have h1 : (n : Int) ≤ 127 := by omega
    obtain ⟨M, hM⟩ : ∃ M : Int, (n : Int) = M := ⟨_, rfl⟩
    rw [hM] at hd hcv h0 h1 ⊢
    clear hM hn hn2
    go_enter Tryz.func121, Tryz.ntmps121
    go_wp2
    go_ret
    exact ⟨rfl, below_al (Below.refl _ _) _⟩
  | succ f ih =>
    intro n hn hf w
    by_cases hlt : n < 128
    · have hd : decide ((n : Int) < 128) = true := decide_eq_true (by omega)
      have hcv := Own.run_back_new (P := Tryz.prog) (w := w) (src := 92) (dst := 9) (T := 5) 1 #[.int .u8 (n : Int)] [UInt8.ofNat n] 1 Tryz.underlying92 Tryz.underlying5 Tryz.underlying9 (by simp [Own.byteVals, Nat.mod_eq_of_lt (show n < 256 by omega)]) rfl
      have h0 : (0 : Int) ≤ (n : Int) := by omega
      have h1 : (n : Int) ≤ 127 := by omega
      have hW : wbF (f + 1) n = [UInt8.ofNat n] := by rw [wbF, if_pos hlt]
      rw [hW]
      obtain ⟨M, hM⟩ : ∃ M : Int, (n : Int) = M := ⟨_, rfl⟩
      rw [hM] at hd hcv h0 h1 ⊢
      clear hM hn hlt hW ih
      go_enter Tryz.func121, Tryz.ntmps121
      go_wp2
      go_ret
      exact ⟨rfl, below_al (Below.refl _ _) _⟩
    · have hd : decide ((n : Int) < 128) = false := decide_eq_false (by omega)
      have hp : n / 128 < 2 ^ (7 * f + 1) := by
        rw [show 7 * (f + 1) + 1 = 7 * f + 1 + 7 by omega, Nat.pow_add] at hn
        omega
      have IH : Hid (∀ w, _) := fun w => ih (n / 128) hp (by omega) w
      have hW : wbF (f + 1) n = UInt8.ofNat (128 + n % 128) :: wbF f (n / 128) := by rw [wbF, if_neg hlt]
      rw [hW, ← bs_cons]
      have HV8 : Hid (((UInt8.ofNat (128 + n % 128)).toNat : Int) = ((128 + n % 128 : Nat) : Int)) := u8v _ (by omega)
      obtain ⟨M, hM⟩ : ∃ M : Int, Hid ((n : Int) = M) := ⟨_, rfl⟩
      obtain ⟨D, hD⟩ : ∃ D : Int, Hid (((n / 128 : Nat) : Int) = D) := ⟨_, rfl⟩
      obtain ⟨B, hB⟩ : ∃ B : Int, Hid (((128 + n % 128 : Nat) : Int) = B) := ⟨_, rfl⟩
      rw [hD.out] at IH
      rw [hB.out] at HV8
      rw [hM.out] at hd ⊢
      have hSL : (bs (wbF f (n / 128))).size ≤ 10 := by rw [bs_size]; have := wbF_len f (n / 128); omega
      have hSA : (bs [UInt8.ofNat (128 + n % 128)]).size = 1 := rfl
      generalize bs (wbF f (n / 128)) = SL at *
      generalize UInt8.ofNat (128 + n % 128) = b8 at *
      have h0 : 0 ≤ M := by have := hM.out; omega
      have e1 : M.tdiv 128 = D := by rw [Int.tdiv_eq_ediv_of_nonneg h0, ← hM.out, ← hD.out]; omega
      obtain ⟨R, hR⟩ : ∃ R : Int, M.tmod 128 = R := ⟨_, rfl⟩
      have hR2 : R = M % 128 := by rw [← hR, Int.tmod_eq_emod_of_nonneg h0]
      have e3 : IntKind.u64.wrap (128 + R) = B := by rw [IntKind.wrap_u64, hR2, ← hM.out, ← hB.out]; omega
      have e4 : IntKind.u8.wrap B = B := by rw [IntKind.wrap_u8, ← hB.out]; omega
      have e5 : IntKind.u64.wrap D = D := by
        have : (n / 128 : Nat) < 2 ^ 64 := by
          have h2 : 2 ^ (7 * f + 1) ≤ 2 ^ 64 := Nat.pow_le_pow_right (by omega) (by omega)
          omega
        rw [IntKind.wrap_u64, ← hD.out]; omega
      clear h0 hR2
      have hcA : ∀ w : World, (convert 92 9 (.slice (some ⟨w.heap.size, 0, none⟩) 1 1)).run Tryz.prog (w.alloc (.cells #[.int .u8 B] 5)) = .ok (.string (bs [b8])) (w.alloc (.cells #[.int .u8 B] 5)) := fun w => back_at b8 B HV8.out _ _ (heap_alloc_new w _)
      have hcB : ∀ w : World, (convert 92 9 (.slice (some ⟨w.heap.size, 0, none⟩) 1 1)).run Tryz.prog (w.alloc (.cells #[.int .u8 B] 5)).drew = .ok (.string (bs [b8])) (w.alloc (.cells #[.int .u8 B] 5)).drew := fun w => back_at b8 B HV8.out _ _ (heap_alloc_new w _)
      have HB0 : Hid (Below w.heap.size w w) := Below.refl _ _
      have HBK : Hid (∀ (w w1 : World), Below (w.alloc (.cells #[.int .u8 B] 5)).drew.heap.size (w.alloc (.cells #[.int .u8 B] 5)).drew w1 → (convert 92 9 (.slice (some ⟨w.heap.size, 0, none⟩) 1 1)).run Tryz.prog w1 = .ok (.string (bs [b8])) w1) := fun w w1 h => back_blk b8 B HV8.out h
      generalize bs [b8] = SA at *
      clear hn hlt hp hW ih
      go_enter Tryz.func121, Tryz.ntmps121
      go_wp2
      go_region_with (go_at_call 121; ((with_reducible refine (IH.out _).mono ?_); rintro e w1 ⟨rfl, hb1⟩; (try have hcx := HBK.out _ _ hb1); have HB1 := Lib.hid hb1; clear hb1))
      all_goals (go_wp2; go_ret)
      all_goals first
        | exact ⟨rfl, below2 ((below_al (Below.refl _ _) _).drew) HB1.out⟩
        | exact ⟨rfl, below_al (below2 ((Below.refl _ _).drew) HB1.out) _⟩
        | exact ⟨rfl, (below_al (below2 ((Below.refl _ _).drew) HB1.out) _).drew⟩
set_option maxRecDepth 100000 in
theorem refUint_any (n : Int) (hn : n ≤ 9223372036854775807) (w : World) :
    Calls Tryz.prog 87 #[.int .i64 n] w fun e w' => e = .returned (.string (bs (uintB n))) ∧ Below w.heap.size w w' := by
  by_cases h : n < 0
  · have d : decide (n < 0) = true := decide_eq_true h
    have HR : Hid (uintB n = []) := by show _ = _; unfold uintB; rw [if_pos h]
    rw [HR.out]
    clear h hn
    go_enter Tryz.func87, Tryz.ntmps87
    go_wp2
    go_ret
    exact ⟨rfl, Below.refl _ _⟩
  · have d : decide (n < 0) = false := decide_eq_false h
    have HR : Hid (uintB n = wb n.toNat) := by show _ = _; unfold uintB; rw [if_neg h]
    rw [HR.out]
    have CW : Hid (∀ w, _) := fun w => refWord_any 9 n.toNat (by omega) (Nat.le_refl _) w
    have hn0 : ((n.toNat : Nat) : Int) = n := by omega
    rw [hn0, show wbF 9 n.toNat = wb n.toNat from rfl] at CW
    have hw : IntKind.u64.wrap n = n := by rw [IntKind.wrap_u64]; omega
    clear h hn hn0
    generalize wb n.toNat = B at *
    go_enter Tryz.func87, Tryz.ntmps87
    go_wp2_with (go_at_call 121; ((with_reducible refine (CW.out _).mono ?_); rintro e w1 ⟨rfl, hb1⟩; have HB1 := Lib.hid hb1; clear hb1))
    go_ret
    exact ⟨rfl, HB1.out⟩
end Pen
end Go.Proofs.YtlhalhilnkneeaaGreatDoor
end
section
namespace Go.Proofs.YtlhalhilnkneeaaGreatDoor
open Go.RowKit
namespace Pen
/-- A reader's cells. -/
def rc (rest : ByteArray) (bad : Bool) (i : Nat) : Value := if i = 0 then .string rest else if i = 1 then .bool bad else .bool true
def RdAt (w : World) (g : Nat) (rest : ByteArray) (bad : Bool) : Prop := w.rowIs g 140 3 (rc rest bad)
theorem grw_trans {a b c : World} {g : Nat} (h1 : a.grownBy b (some g)) (h2 : b.grownBy c (some g)) : a.grownBy c (some g) :=
  ⟨h2.os.trans h1.os, h2.tape.trans h1.tape, h2.output.trans h1.output, Nat.le_trans h1.size h2.size, fun k hk hne => (h2.block k (Nat.lt_of_lt_of_le hk h1.size) hne).trans (h1.block k hk hne)⟩
theorem grw_refl (w : World) (g : Nat) : w.grownBy w (some g) := ⟨rfl, rfl, rfl, Nat.le_refl _, fun _ _ _ => rfl⟩
theorem grw_set (w : World) (g i : Nat) (u : Value) : w.grownBy (w.setCell ⟨g, i, none⟩ u) (some g) :=
  ⟨rfl, rfl, rfl, by simp, fun k _ hne => Below.heap_setCell _ _ _ _ (fun e => hne (by rw [e]))⟩
theorem RdAt.cells {w : World} {g : Nat} {rest : ByteArray} {bad : Bool} (h : RdAt w g rest bad) : w.cell? ⟨g, 0, none⟩ = some (.string rest) ∧ w.cell? ⟨g, 1, none⟩ = some (.bool bad) ∧ w.cell? ⟨g, 2, none⟩ = some (.bool true) :=
  ⟨h.cell (by decide), h.cell (by decide), h.cell (by decide)⟩
theorem RdAt.setBad {w : World} {g : Nat} {rest : ByteArray} {bad : Bool} (h : RdAt w g rest bad) : RdAt (w.setCell ⟨g, 1, none⟩ (.bool true)) g rest true :=
  (World.rowIs.set h 1 _).congr fun i hi => by unfold rc; by_cases e : i = 1 <;> simp [e]
theorem RdAt.setRest {w : World} {g : Nat} {rest : ByteArray} {bad : Bool} (h : RdAt w g rest bad) (r : ByteArray) : RdAt (w.setCell ⟨g, 0, none⟩ (.string r)) g r bad :=
  (World.rowIs.set h 0 _).congr fun i hi => by unfold rc; by_cases e : i = 0 <;> simp [e]
theorem new_any (s : ByteArray) (w : World) :
    Calls Tryz.prog 78 #[.string s] w fun e w' => e = .returned (.pointer (some ⟨w.heap.size, 0, none⟩)) ∧ RdAt w' w.heap.size s false ∧ Below w.heap.size w w' := by
  go_enter Tryz.func78, Tryz.ntmps78
  go_wp2
  go_ret
  refine ⟨rfl, ?_, below_al (Below.refl _ _) _⟩
  refine ⟨_, heap_alloc_new w _, rfl, fun i hi => ?_⟩
  match i, hi with
  | 0, _ => rfl
  | 1, _ => rfl
  | 2, _ => rfl
theorem fails_any (g : Nat) (rest : ByteArray) (bad : Bool) (w : World) (h : RdAt w g rest bad) :
    Calls Tryz.prog 117 #[.pointer (some ⟨g, 0, none⟩)] w fun e w' => e = .returned (.tuple #[]) ∧ RdAt w' g rest true ∧ w.grownBy w' (some g) := by
  obtain ⟨c0, c1, c2⟩ := h.cells
  have f1 := World.rowIs.frozen h 1
  have HS := Lib.hid h.setBad
  clear h
  go_enter Tryz.func117, Tryz.ntmps117
  go_wp2
  go_end0
  exact ⟨rfl, HS.out, grw_set _ _ _ _⟩
theorem bad_any (g : Nat) (rest : ByteArray) (bad : Bool) (w : World) (h : RdAt w g rest bad) :
    Calls Tryz.prog 118 #[.pointer (some ⟨g, 0, none⟩)] w fun e w' => e = .returned (.bool bad) ∧ w = w' := by
  obtain ⟨c0, c1, c2⟩ := h.cells
  clear h
  cases bad with
  | true =>
    go_enter Tryz.func118, Tryz.ntmps118
    go_wp2
    go_ret
    exact ⟨rfl, rfl⟩
  | false =>
    go_enter Tryz.func118, Tryz.ntmps118
    go_wp2
    go_ret
    exact ⟨rfl, rfl⟩
theorem and127b (b : UInt8) : bits .and .u8 (b.toNat : Int) 127 = ((b.toNat % 128 : Nat) : Int) := by
  have key : ∀ m : Fin 256, bits .and .u8 ((m.val : Nat) : Int) 127 = ((m.val % 128 : Nat) : Int) := by decide +kernel
  exact key ⟨b.toNat, b.toNat_lt⟩
theorem or_add (n m t : Nat) (hn : n < 2 ^ t) (h : n + m * 2 ^ t < 2 ^ 64) : bits .or .u64 (n : Int) ((m * 2 ^ t : Nat) : Int) = ((n + m * 2 ^ t : Nat) : Int) := by
  have h1 : n < 2 ^ 64 := by omega
  have h2 : m * 2 ^ t < 2 ^ 64 := by omega
  show IntKind.u64.wrap ((BitVec.ofInt 64 (n : Int) ||| BitVec.ofInt 64 ((m * 2 ^ t : Nat) : Int)).toNat : Int) = _
  rw [BitVec.toNat_or, show (BitVec.ofInt 64 (n : Int)).toNat = n by rw [BitVec.ofInt_natCast, BitVec.toNat_ofNat]; exact Nat.mod_eq_of_lt h1,
    show (BitVec.ofInt 64 ((m * 2 ^ t : Nat) : Int)).toNat = m * 2 ^ t by rw [BitVec.ofInt_natCast, BitVec.toNat_ofNat]; exact Nat.mod_eq_of_lt h2]
  have e : n ||| m * 2 ^ t = n + m * 2 ^ t := by
    rw [Nat.or_comm, Nat.mul_comm, ← Nat.two_pow_add_eq_or_of_lt hn m, Nat.add_comm]
  rw [e, IntKind.wrap_u64]
  omega
/-- What a word leaves. -/
def wordS (l : List UInt8) : Int × Bool × List UInt8 × Bool := match rd l with
  | none => (0, false, l, true)
  | some (n, l') => ((n : Int), true, l', false)
theorem rdF_step (f k n : Nat) (b : UInt8) (l : List UInt8) : rdF (f + 1) k n (b :: l) = if (b = 0 ∧ 0 < k) ∨ (k = 9 ∧ 1 < b.toNat) then none else if b.toNat < 128 then some (n + b.toNat % 128 * 2 ^ (7 * k), l) else rdF f (k + 1) (n + b.toNat % 128 * 2 ^ (7 * k)) l := rfl
theorem drop_at (s : ByteArray) (k : Nat) (h : k < s.size) : s.data.toList.drop k = s[k] :: s.data.toList.drop (k + 1) := by
  rw [List.drop_eq_getElem_cons (by simpa using h)]; rfl
theorem extract_bs (s : ByteArray) (k : Nat) : s.extract k s.size = bs (s.data.toList.drop k) := by
  apply ByteArray.ext
  apply Array.toList_inj.1
  simp [bs, ByteArray.data_extract]
  rw [List.take_of_length_le (by simp)]
theorem bs_self (s : ByteArray) : bs s.data.toList = s := by
  apply ByteArray.ext; simp [bs]
theorem acc_bound {n b k : Nat} (hn : n < 2 ^ (7 * k)) (hb : b ≤ 127) (hk : k ≤ 9) (h9 : k = 9 → b ≤ 1) : n + b * 2 ^ (7 * k) < 2 ^ 64 ∧ n + b * 2 ^ (7 * k) < 2 ^ (7 * (k + 1)) := by
  have h2 : n + b * 2 ^ (7 * k) < 2 ^ (7 * (k + 1)) := by
    rw [show 7 * (k + 1) = 7 * k + 7 by omega, Nat.pow_add]
    have : b * 2 ^ (7 * k) ≤ 127 * 2 ^ (7 * k) := Nat.mul_le_mul_right _ hb
    omega
  refine ⟨?_, h2⟩
  by_cases e : k = 9
  · have hb1 := h9 e
    subst e
    have : b * 2 ^ (7 * 9) ≤ 1 * 2 ^ (7 * 9) := Nat.mul_le_mul_right _ hb1
    omega
  · have h3 : 2 ^ (7 * (k + 1)) ≤ 2 ^ 63 := Nat.pow_le_pow_right (by omega) (by omega)
    omega
set_option maxRecDepth 100000 in
set_option maxHeartbeats 4000000 in
theorem word_good (g : Nat) (s : ByteArray) (hs : s.size ≤ 1000000000) (w : World) (h : RdAt w g s false) :
    Calls Tryz.prog 116 #[.pointer (some ⟨g, 0, none⟩)] w fun e w' => e = .returned (.tuple #[.int .u64 (wordS s.data.toList).1, .bool (wordS s.data.toList).2.1]) ∧ Hid (RdAt w' g (bs (wordS s.data.toList).2.2.1) (wordS s.data.toList).2.2.2) ∧ Hid (w.grownBy w' (some g)) := by
  have H := Lib.hid h
  have hs1 : (s.size : Int) ≤ 1000000000 := by omega
  obtain ⟨c0, c1, c2⟩ := h.cells
  have f0 := World.rowIs.frozen h 0
  have CB := Lib.hid (bad_any g s false w h)
  have CF := Lib.hid (fails_any g s false w h)
  have HSR := Lib.hid (fun r => h.setRest r)
  obtain ⟨R, hR⟩ : ∃ R, Hid (wordS s.data.toList = R) := ⟨_, rfl⟩
  rw [hR.out]
  clear h
  obtain ⟨K, hK⟩ : ∃ K : Nat, Hid (min 10 s.size = K) := ⟨_, rfl⟩
  have hK1 : K ≤ 10 := by have := hK.out; omega
  have hK2 : (K : Int) < 11 := by omega
  have hmin : (if (s.size : Int) < 10 then (s.size : Int) else 10) = (K : Int) := by have := hK.out; split <;> omega
  go_enter Tryz.func116, Tryz.ntmps116
  go_wp2_with (go_at_call 118; (with_reducible refine CB.out.mono ?_); rintro e w1 ⟨rfl, rfl⟩)
  clear hmin
  go_loop [4, 16] (fun v4 v16 => ∃ (k n : Nat), k ≤ K ∧ v16 = .int .i64 (k : Int) ∧ v4 = .int .u64 (n : Int) ∧ Hid (n < 2 ^ (7 * k) ∧ rdF (10 - k) k n (s.data.toList.drop k) = rd s.data.toList)) (fun _ v16 => K - (intOf v16).toNat)
  case atStart => exact ⟨0, 0, by omega, rfl, rfl, by decide, by rw [List.drop_zero]; rfl⟩
  case round =>
    obtain ⟨k, n, hk, rfl, rfl, HN⟩ := hrel
    by_cases hlt : k < K
    · have hks : k < s.size := by have := hK.out; omega
      have hk10 : k < 10 := by omega
      have hlt1 : (k : Int) < (K : Int) := by omega
      have hks1 : (k : Int) < (s.size : Int) := by omega
      have hk0 : (0 : Int) ≤ (k : Int) := by omega
      have HST : Hid (rd s.data.toList = if (s[k] = 0 ∧ 0 < k) ∨ (k = 9 ∧ 1 < s[k].toNat) then none else if s[k].toNat < 128 then some (n + s[k].toNat % 128 * 2 ^ (7 * k), s.data.toList.drop (k + 1)) else rdF (9 - k) (k + 1) (n + s[k].toNat % 128 * 2 ^ (7 * k)) (s.data.toList.drop (k + 1))) := by
        have := HN.out.2
        rw [drop_at s k hks, show 10 - k = (9 - k) + 1 by omega, rdF_step] at this
        exact this.symm
      have hbn := (s[k]).toNat_lt
      have HZ0 : Hid (s[k] = 0 ↔ s[k].toNat = 0) := ⟨fun h => by rw [h]; rfl, fun h => by
        apply UInt8.toNat_inj.1; rw [h]; rfl⟩
      have hA := and127b s[k]
      obtain ⟨B, hB⟩ : ∃ B : Nat, s[k].toNat = B := ⟨_, rfl⟩
      rw [hB] at HST HZ0 hbn hA
      obtain ⟨A, hAe⟩ : ∃ A : Int, Hid (((B % 128 : Nat) : Int) = A) := ⟨_, rfl⟩
      obtain ⟨t, ht⟩ : ∃ t : Nat, Hid (7 * k = t) := ⟨_, rfl⟩
      have ht2 : 7 * (k : Int) = (t : Int) := by have := ht.out; omega
      have ht3 : t ≤ 63 := by have := ht.out; omega
      have ht4 : (t : Int) ≤ 64 := by omega
      obtain ⟨Z, hZ⟩ : ∃ Z : Int, (B : Int) = Z := ⟨_, rfl⟩
      have HBZ : Hid ((B : Int) = Z ∧ B < 256) := ⟨hZ, by omega⟩
      rw [hAe.out, hZ] at hA
      have a0 : 0 ≤ A := by have := hAe.out; omega
      have a1 : A ≤ 127 := by have := hAe.out; omega
      by_cases hfail : (B = 0 ∧ 0 < k) ∨ (k = 9 ∧ 1 < B)
      · have HFR : Hid (R = (0, false, s.data.toList, true)) := by
          show R = _
          rw [← hR.out]
          unfold wordS
          rw [HST.out, if_pos (by rcases hfail with h | h; exact .inl ⟨HZ0.out.2 h.1, h.2⟩; exact .inr h)]
        by_cases hz : B = 0 ∧ 0 < k
        · have z0 : Z = 0 := by have := HBZ.out.1; omega
          have dk0 : (0 : Int) < (k : Int) := by omega
          have dk0' : 0 < k := hz.2
          subst z0
          clear hfail hz hbn HST
          go_wp2_with (go_at_call 117; (with_reducible refine CF.out.mono ?_); rintro e w2 ⟨rfl, hrd, hgr⟩; have HRD := Lib.hid hrd; have HGR := Lib.hid hgr; clear hrd hgr)
          go_ret2
          have e := HFR.out
          rw [e]
          exact ⟨rfl, by show RdAt _ _ _ _; rw [bs_self]; exact HRD.out, HGR.out⟩
        · have hk9 : k = 9 ∧ 1 < B := by rcases hfail with h | h; exact absurd h hz; exact h
          have hk9' := hk9.1
          have dz0 : (Z == 0) = false := beq_eq_false_iff_ne.2 (by have := HBZ.out.1; omega)
          have dz1 : decide (1 < Z) = true := decide_eq_true (by have := HBZ.out.1; omega)
          have HK9 := Lib.hid hk9'
          have dk9 : ((k : Int) == 9) = true := by rw [hk9']; rfl
          clear hfail hz hbn HST hk9 hk9' ht2 ht3 ht4
          by_cases h128 : Z < 128
          · have dlast : decide (Z < 128) = true := decide_eq_true h128
            clear h128
            go_wp2_with (go_at_call 117; (with_reducible refine CF.out.mono ?_); rintro e w2 ⟨rfl, hrd, hgr⟩; have HRD := Lib.hid hrd; have HGR := Lib.hid hgr; clear hrd hgr)
            go_ret2
            have e := HFR.out
            rw [e]
            exact ⟨rfl, by show RdAt _ _ _ _; rw [bs_self]; exact HRD.out, HGR.out⟩
          · have dlast : decide (Z < 128) = false := decide_eq_false h128
            clear h128
            go_wp2_with (go_at_call 117; (with_reducible refine CF.out.mono ?_); rintro e w2 ⟨rfl, hrd, hgr⟩; have HRD := Lib.hid hrd; have HGR := Lib.hid hgr; clear hrd hgr)
            go_ret2
            have e := HFR.out
            rw [e]
            exact ⟨rfl, by show RdAt _ _ _ _; rw [bs_self]; exact HRD.out, HGR.out⟩
      · have hbound : n + B % 128 * 2 ^ (7 * k) < 2 ^ 64 ∧ n + B % 128 * 2 ^ (7 * k) < 2 ^ (7 * (k + 1)) := acc_bound HN.out.1 (by omega) (by omega) (fun e => by
          have : ¬ 1 < B := fun h => hfail (.inr ⟨e, h⟩)
          omega)
        have HBD := Lib.hid hbound.2
        have hor := or_add n (B % 128) (7 * k) HN.out.1 hbound.1
        have hwr : IntKind.u64.wrap (A * 2 ^ t) = ((B % 128 * 2 ^ (7 * k) : Nat) : Int) := by
          rw [IntKind.wrap_u64, ← hAe.out, ← ht.out, show (((B % 128 : Nat) : Int) * 2 ^ (7 * k)) = ((B % 128 * 2 ^ (7 * k) : Nat) : Int) by rw [Int.natCast_mul, Int.natCast_pow]; rfl]
          have := hbound.1
          omega
        obtain ⟨S, hS⟩ : ∃ S : Int, Hid (((B % 128 * 2 ^ (7 * k) : Nat) : Int) = S) := ⟨_, rfl⟩
        obtain ⟨N2, hN2⟩ : ∃ N2 : Nat, Hid (n + B % 128 * 2 ^ (7 * k) = N2) := ⟨_, rfl⟩
        rw [hS.out, hN2.out] at hor
        rw [hS.out] at hwr
        rw [hN2.out] at HBD HST
        have hN63 : (N2 : Int) < 18446744073709551616 := by have := hN2.out; have := hbound.1; omega
        replace hN63 := Lib.hid hN63
        clear hbound
        by_cases h128 : B < 128
        · have HRR : Hid (R = ((N2 : Int), true, s.data.toList.drop (k + 1), false)) := by
            show R = _
            rw [← hR.out]
            unfold wordS
            rw [HST.out, if_neg (fun h => hfail (by rcases h with h | h; exact .inl ⟨HZ0.out.1 h.1, h.2⟩; exact .inr h)), if_pos h128]
          have dlast : decide (Z < 128) = true := decide_eq_true (by have := HBZ.out.1; omega)
          have hex := Lib.hid (extract_bs s (k + 1))
          by_cases hz : B = 0
          · have z0 : Z = 0 := by have := HBZ.out.1; omega
            have hk00 : k = 0 := by
              by_cases e : k = 0
              · exact e
              · exact absurd (.inl ⟨hz, by omega⟩) hfail
            subst hk00
            have hSA : S = A := by rw [← hS.out, ← hAe.out]; simp
            rw [hSA] at hor
            subst z0
            clear hfail hz hbn HST h128 hSA
            go_wp2
            go_ret2
            have e := HRR.out
            rw [e]
            exact ⟨rfl, by show RdAt _ _ _ _; rw [← hex.out]; exact HSR.out _, grw_set _ _ _ _⟩
          · have dz0 : (Z == 0) = false := beq_eq_false_iff_ne.2 (by have := HBZ.out.1; omega)
            by_cases hk9 : k = 9
            · have dz1 : decide (1 < Z) = false := decide_eq_false (fun h => hfail (.inr ⟨hk9, by have := HBZ.out.1; omega⟩))
              have dk9 : ((k : Int) == 9) = true := by rw [hk9]; rfl
              replace hk9 := Lib.hid hk9
              clear hfail hz hbn HST h128
              go_wp2
              go_ret2
              have e := HRR.out
              rw [e]
              exact ⟨rfl, by show RdAt _ _ _ _; rw [← hex.out]; exact HSR.out _, grw_set _ _ _ _⟩
            · have dk9 : ((k : Int) == 9) = false := beq_eq_false_iff_ne.2 (by omega)
              clear hfail hz hbn HST h128 hk9
              go_wp2
              go_ret2
              have e := HRR.out
              rw [e]
              exact ⟨rfl, by show RdAt _ _ _ _; rw [← hex.out]; exact HSR.out _, grw_set _ _ _ _⟩
        · have dlast : decide (Z < 128) = false := decide_eq_false (by have := HBZ.out.1; omega)
          have k9 : ¬ k = 9 := fun e => hfail (.inr ⟨e, by omega⟩)
          have dk9 : ((k : Int) == 9) = false := beq_eq_false_iff_ne.2 (by omega)
          have HNX : Hid (rdF (10 - (k + 1)) (k + 1) N2 (s.data.toList.drop (k + 1)) = rd s.data.toList) := by
            show _ = _
            rw [HST.out, if_neg (fun h => hfail (by rcases h with h | h; exact .inl ⟨HZ0.out.1 h.1, h.2⟩; exact .inr h)), if_neg h128]
            rw [show 10 - (k + 1) = 9 - k by omega]
          clear hfail h128 hbn HST
          go_wp2
          go_round
          case rel => exact ⟨k + 1, N2, by omega, by go_num, rfl, HBD, HNX⟩
          case measure => simp [intOf]; omega
    · have hkK : k = K := by omega
      have hge : ¬ (k : Int) < (K : Int) := by omega
      have HFR : Hid (R = (0, false, s.data.toList, true)) := by
        show R = _
        rw [← hR.out]
        unfold wordS
        have h1 := HN.out.2
        have h2 : rdF (10 - k) k n (s.data.toList.drop k) = none := by
          by_cases e : k = 10
          · subst e
            cases s.data.toList.drop 10 <;> rfl
          · have : s.data.toList.drop k = [] := List.drop_eq_nil_of_le (by have := hK.out; simp; omega)
            rw [this]
            cases (10 - k) <;> rfl
        rw [← h1, h2]
      clear hlt hkK
      go_wp2_with (go_at_call 117; (with_reducible refine CF.out.mono ?_); rintro e w2 ⟨rfl, hrd, hgr⟩; have HRD := Lib.hid hrd; have HGR := Lib.hid hgr; clear hrd hgr)
      go_ret2
      have e := HFR.out
      rw [e]
      exact ⟨rfl, by show RdAt _ _ _ _; rw [bs_self]; exact HRD.out, HGR.out⟩
end Pen
end Go.Proofs.YtlhalhilnkneeaaGreatDoor
end
