/- Texts put together: AsmL, CrcP, CrcW, CrcS, FrmP. -/
import Derived.Test.YtlhalhilnkneeaaGreatDoorM00
import Derived.Test.YtlhalhilnkneeaaGreatDoorM07
import Derived.WalkKit
import Derived.WalkLawsBesides
import Derived.Test.YtlhalhilnkneeaaGreatDoorChecked
import Derived.Lib.Hide
import Derived.Laws.CopyOwn
import Derived.Lib.ConvBytes
import Derived.Deep.WholeRow
set_option linter.all false
section
namespace Go.Proofs.YtlhalhilnkneeaaGreatDoor
open Go.RowKit Go.Great
namespace Asm
open Go.Lib (decDigits itoa)
open Pen (bs)
open Rec (Stk)
open Cmd (CmdIn fi fn nm names words place kindOf nameOf isIn chkV Eqv Cok Clear Lok Snum)
def givesN : List UInt8 := [103, 105, 118, 101, 115]
def wantsN : List UInt8 := [119, 97, 110, 116, 115]
def stkT (s : Stk) : List UInt8 := itoa s.1 ++ 120 :: itoa s.2
def listT (l : List Stk) : List UInt8 := joinL 44 (l.map stkT)
/-- The stack of a text. -/
def stkL (l : List UInt8) : Option Stk := match cutL 120 l with
  | none => none
  | some p => match numL p.1, numL p.2 with
    | some n, some m => some (n, m)
    | _, _ => none
def allO {α : Type} : List (Option α) → Option (List α)
  | [] => some []
  | none :: _ => none
  | some x :: l => (allO l).map (x :: ·)
def stksL (s : List UInt8) : Option (List Stk) := if 8 < (splitL 44 s).length then none else allO ((splitL 44 s).map stkL)
theorem allO_some {α β : Type} (f : β → Option α) (g : α → β) : ∀ l : List α, (∀ x ∈ l, f (g x) = some x) → allO ((l.map g).map f) = some l
  | [], _ => rfl
  | x :: l, h => by
    rw [List.map_cons, List.map_cons, h x (List.mem_cons_self ..), allO, allO_some f g l fun y hy => h y (List.mem_cons_of_mem _ hy)]
    rfl
theorem stkL_of (s : Stk) (h1 : I64 s.1) (h2 : I64 s.2) : stkL (stkT s) = some s := by
  unfold stkL stkT
  rw [cutL_at 120 (itoa s.2) (itoa s.1) (itoa_not _ _ (by decide))]
  dsimp only
  rw [numL_itoa _ h1, numL_itoa _ h2]
theorem stkT_not (s : Stk) (b : UInt8) (h : (b.toNat < 45 ∨ b.toNat = 46 ∨ b.toNat = 47 ∨ 57 < b.toNat) ∧ b ≠ 120) : b ∉ stkT s := fun hm => by
  rcases List.mem_append.1 hm with hm | hm
  · exact itoa_not _ _ h.1 hm
  · rcases List.mem_cons.1 hm with hm | hm
    · exact h.2 hm
    · exact itoa_not _ _ h.1 hm
theorem snum_mem {l : List Stk} (h : Snum l) : ∀ s ∈ l, I64 s.1 ∧ I64 s.2 := fun s hs => by
  obtain ⟨i, hi, e⟩ := List.getElem_of_mem hs
  have := h i hi
  rw [List.getD_eq_getElem?_getD, List.getElem?_eq_getElem hi, e] at this
  exact ⟨⟨this.1.1, this.1.2⟩, ⟨this.2.1, this.2.2⟩⟩
theorem stksL_of (l : List Stk) (h0 : l ≠ []) (h8 : l.length ≤ 8) (h : Snum l) : stksL (listT l) = some l := by
  have hs : splitL 44 (listT l) = l.map stkT := split_join 44 _ (fun e => h0 (List.map_eq_nil_iff.1 e)) fun p hp => by
    obtain ⟨s, hs, rfl⟩ := List.mem_map.1 hp
    exact stkT_not s 44 (by decide)
  unfold stksL
  rw [hs, if_neg (by rw [List.length_map]; omega)]
  exact allO_some stkL stkT l fun s hs => stkL_of s (snum_mem h s hs).1 (snum_mem h s hs).2
theorem joinL_mem (b c : UInt8) : ∀ ps : List (List UInt8), c ∈ joinL b ps → c = b ∨ ∃ p ∈ ps, c ∈ p
  | [], h => by cases h
  | [x], h => Or.inr ⟨x, List.mem_singleton.2 rfl, h⟩
  | x :: y :: r, h => by
    rw [joinL] at h
    rcases List.mem_append.1 h with h | h
    · exact Or.inr ⟨x, List.mem_cons_self .., h⟩
    · rcases List.mem_cons.1 h with h | h
      · exact Or.inl h
      · rcases joinL_mem b c (y :: r) h with h | ⟨p, hp, h⟩
        · exact Or.inl h
        · exact Or.inr ⟨p, List.mem_cons_of_mem _ hp, h⟩
theorem listT_not (l : List Stk) (b : UInt8) (h : (b.toNat < 45 ∨ b.toNat = 46 ∨ b.toNat = 47 ∨ 57 < b.toNat) ∧ b ≠ 120 ∧ b ≠ 44) : b ∉ listT l := fun hm => by
  rcases joinL_mem 44 b _ hm with e | ⟨p, hp, hm⟩
  · exact h.2.2 e
  · obtain ⟨s, -, rfl⟩ := List.mem_map.1 hp
    exact stkT_not s b ⟨h.1, h.2.1⟩ hm
theorem joinL_snoc (b : UInt8) (w : List UInt8) : ∀ ws : List (List UInt8), ws ≠ [] → joinL b (ws ++ [w]) = joinL b ws ++ b :: w
  | [], h => absurd rfl h
  | [x], _ => rfl
  | x :: y :: r, _ => by
    have ih := joinL_snoc b w (y :: r) (List.cons_ne_nil _ _)
    show x ++ b :: joinL b ((y :: r) ++ [w]) = x ++ b :: joinL b (y :: r) ++ b :: w
    rw [ih]
    simp
/-- A number's word. -/
def fieldT (c : CmdIn) (i : Nat) : List (List UInt8) := if c.num i = 0 then [] else [names.getD i [] ++ 61 :: itoa (c.num i)]
def fieldsT (c : CmdIn) (l : List Nat) : List (List UInt8) := l.flatMap (fieldT c)
def tailT (nm : List UInt8) (l : List Stk) : List (List UInt8) := if l = [] then [] else [nm ++ 61 :: listT l]
/-- A command's words. -/
def lineW (c : CmdIn) : List (List UInt8) := (nameOf c.kind).data.toList :: (fieldsT c (fi c.kind) ++ (tailT givesN c.gives ++ tailT wantsN c.wants))
def lineT (c : CmdIn) : List UInt8 := joinL 32 (lineW c)
def lineV (c : CmdIn) : List UInt8 × Int := if chkV c = 0 then (lineT c, 0) else ([], 1)
theorem names_bytes : ∀ i, i < 19 → (∀ b ∈ names.getD i [], 97 ≤ b.toNat ∧ b.toNat ≤ 122) ∧ names.getD i [] ≠ [] ∧ (names.getD i []).length ≤ 6 ∧ names.getD i [] ≠ givesN ∧ names.getD i [] ≠ wantsN := by decide +kernel
theorem words_bytes : ∀ k, k < 25 → (∀ b ∈ words.getD k [], 97 ≤ b.toNat ∧ b.toNat ≤ 122) ∧ words.getD k [] ≠ [] ∧ (words.getD k []).length ≤ 7 := by decide +kernel
theorem kind_name {K : Int} (hK : 1 ≤ K ∧ K ≤ 25) : kindOf (nameOf K) = K := by
  have h : ∀ m : Nat, m < 25 → kindOf (nameOf ((m : Int) + 1)) = (m : Int) + 1 := by decide +kernel
  obtain ⟨m, hm⟩ : ∃ m : Nat, K = (m : Int) + 1 := ⟨(K - 1).toNat, by omega⟩
  rw [hm]
  exact h m (by omega)
theorem name_word {K : Int} (hK : 1 ≤ K ∧ K ≤ 25) : (nameOf K).data.toList = words.getD (K - 1).toNat [] := by
  unfold nameOf
  rw [if_pos hK]
  rfl
theorem nm_list (i : Nat) : nm i = bs (names.getD i []) := rfl
theorem not_of_range {l : List UInt8} (h : ∀ b ∈ l, 97 ≤ b.toNat ∧ b.toNat ≤ 122) (c : UInt8) (hc : c.toNat < 97) : c ∉ l := fun hm => by
  have := h c hm
  omega
/-- The words have no blank, and are some. -/
theorem lineW_ok (c : CmdIn) (hk : 1 ≤ c.kind ∧ c.kind ≤ 25) : ∀ p ∈ lineW c, 32 ∉ p ∧ p ≠ [] := by
  intro p hp
  rcases List.mem_cons.1 hp with rfl | hp
  · rw [name_word hk]
    obtain ⟨h1, h2, -⟩ := words_bytes (c.kind - 1).toNat (by omega)
    exact ⟨not_of_range h1 32 (by decide), h2⟩
  have num : ∀ (n t : List UInt8), (∀ b ∈ n, 97 ≤ b.toNat ∧ b.toNat ≤ 122) → 32 ∉ t → 32 ∉ n ++ 61 :: t ∧ n ++ 61 :: t ≠ [] := fun n t hn ht => by
    refine ⟨fun hm => ?_, List.append_ne_nil_of_right_ne_nil _ (List.cons_ne_nil _ _)⟩
    rcases List.mem_append.1 hm with hm | hm
    · exact not_of_range hn 32 (by decide) hm
    · rcases List.mem_cons.1 hm with hm | hm
      · revert hm; decide
      · exact ht hm
  rcases List.mem_append.1 hp with hp | hp
  · obtain ⟨i, hi, hp⟩ := List.mem_flatMap.1 hp
    unfold fieldT at hp
    split at hp
    · cases hp
    · rw [List.mem_singleton.1 hp]
      exact num _ _ (names_bytes i (Cmd.fi_small _ i hi)).1 (itoa_not _ _ (by decide))
  · rcases List.mem_append.1 hp with hp | hp
    · unfold tailT at hp
      split at hp
      · cases hp
      · rw [List.mem_singleton.1 hp]
        exact num _ _ (by decide) (listT_not _ _ (by decide))
    · unfold tailT at hp
      split at hp
      · cases hp
      · rw [List.mem_singleton.1 hp]
        exact num _ _ (by decide) (listT_not _ _ (by decide))
theorem words_line (c : CmdIn) (hk : 1 ≤ c.kind ∧ c.kind ≤ 25) : wordsL (lineT c) = lineW c := words_join _ (List.cons_ne_nil _ _) (lineW_ok c hk)
def bareK (k : Int) : CmdIn := ⟨k, fun _ => 0, [], none, 0, [], none, 0⟩
/-- A command with one more field. -/
def fieldV (c : CmdIn) (a t : List UInt8) : Option CmdIn :=
  if c.kind = 14 ∧ a = givesN then (stksL t).map fun l => { c with gives := l, ga := none, gc := 0 }
  else if c.kind = 14 ∧ a = wantsN then (stksL t).map fun l => { c with wants := l, wa := none, wc := 0 }
  else match numL t with
    | none => none
    | some n => if isIn (fn c.kind) (bs a) = true then match place (bs a) with
      | some i => some (c.set i n)
      | none => none
    else none
def fieldsV : CmdIn → List (List UInt8) → List (List UInt8) → Option CmdIn
  | c, _, [] => some c
  | c, seen, w :: r => match cutL 61 w with
    | none => none
    | some p => if p.1 ∈ seen then none else match fieldV c p.1 p.2 with
      | none => none
      | some c' => fieldsV c' (seen ++ [p.1]) r
/-- The command of a line. -/
def parseO (l : List UInt8) : Option CmdIn := match wordsL l with
  | [] => none
  | k :: r => if 1024 < l.length then none else if kindOf (bs k) = 0 then none else fieldsV (bareK (kindOf (bs k))) [] r
theorem fieldV_num (c : CmdIn) (i : Nat) (hi : i ∈ fi c.kind) (n : Int) (hn : I64 n) : fieldV c (names.getD i []) (itoa n) = some (c.set i n) := by
  have h19 := Cmd.fi_small _ i hi
  obtain ⟨-, -, -, h1, h2⟩ := names_bytes i h19
  unfold fieldV
  rw [if_neg (fun h => h1 h.2), if_neg (fun h => h2 h.2), numL_itoa n hn]
  dsimp only
  rw [← nm_list, if_pos ((Cmd.isIn_fn _ i h19).2 hi), Cmd.place_nm h19]
/-- The fields of the numbers. -/
theorem fieldsV_nums (c : CmdIn) (hI : ∀ i ∈ fi c.kind, I64 (c.num i)) (rest : List (List UInt8)) : ∀ (l : List Nat), (∀ i ∈ l, i ∈ fi c.kind) → l.Nodup → ∀ (d : CmdIn) (seen : List (List UInt8)), d.kind = c.kind → (∀ i ∈ l, names.getD i [] ∉ seen) →
    ∃ d' seen', fieldsV d seen (fieldsT c l ++ rest) = fieldsV d' seen' rest ∧ d'.kind = c.kind ∧ (∀ j, d'.num j = if j ∈ l ∧ c.num j ≠ 0 then c.num j else d.num j) ∧ d'.gives = d.gives ∧ d'.wants = d.wants ∧ (givesN ∉ seen → givesN ∉ seen') ∧ (wantsN ∉ seen → wantsN ∉ seen') := by
  intro l
  induction l with
  | nil => intro _ _ d seen hk _; exact ⟨d, seen, rfl, hk, fun j => by simp, rfl, rfl, id, id⟩
  | cons i l ih =>
    intro hl hnd d seen hk hs
    obtain ⟨hni, hnd'⟩ := List.nodup_cons.1 hnd
    have hi := hl i (List.mem_cons_self ..)
    have hl' : ∀ j ∈ l, j ∈ fi c.kind := fun j hj => hl j (List.mem_cons_of_mem _ hj)
    have h19 := Cmd.fi_small _ i hi
    by_cases h0 : c.num i = 0
    · have e : fieldsT c (i :: l) = fieldsT c l := by simp [fieldsT, fieldT, h0]
      rw [e]
      obtain ⟨d', s', e1, e2, e3, e4, e5, e6, e7⟩ := ih hl' hnd' d seen hk fun j hj => hs j (List.mem_cons_of_mem _ hj)
      refine ⟨d', s', e1, e2, fun j => ?_, e4, e5, e6, e7⟩
      rw [e3 j]
      by_cases hj : j = i
      · subst hj
        rw [if_neg (fun h => h.2 h0), if_neg (fun h => h.2 h0)]
      · simp [hj]
    · have e : fieldsT c (i :: l) ++ rest = (names.getD i [] ++ 61 :: itoa (c.num i)) :: (fieldsT c l ++ rest) := by simp [fieldsT, fieldT, h0]
      obtain ⟨b1, b2, b3, b4, b5⟩ := names_bytes i h19
      have hc : cutL 61 (names.getD i [] ++ 61 :: itoa (c.num i)) = some (names.getD i [], itoa (c.num i)) := cutL_at 61 _ _ (not_of_range b1 61 (by decide))
      have hf : fieldV d (names.getD i []) (itoa (c.num i)) = some (d.set i (c.num i)) := fieldV_num d i (by rw [hk]; exact hi) _ (hI i hi)
      rw [e, fieldsV, hc]
      dsimp only
      rw [if_neg (hs i (List.mem_cons_self ..)), hf]
      dsimp only
      obtain ⟨d', s', e1, e2, e3, e4, e5, e6, e7⟩ := ih hl' hnd' (d.set i (c.num i)) (seen ++ [names.getD i []]) hk fun j hj hm => by
        rcases List.mem_append.1 hm with hm | hm
        · exact hs j (List.mem_cons_of_mem _ hj) hm
        · have hj19 := Cmd.fi_small _ j (hl' j hj)
          have := Cmd.names_apart j hj19 i h19 (List.mem_singleton.1 hm)
          subst this
          exact hni hj
      refine ⟨d', s', e1, e2, fun j => ?_, e4, e5, fun h => e6 fun hm => ?_, fun h => e7 fun hm => ?_⟩
      · rw [e3 j]
        by_cases hj : j = i
        · subst hj
          rw [if_neg (fun h => hni h.1), if_pos ⟨List.mem_cons_self .., h0⟩]
          show (if j = j then _ else _) = _
          rw [if_pos rfl]
        · by_cases hm : j ∈ l ∧ c.num j ≠ 0
          · rw [if_pos hm, if_pos ⟨List.mem_cons_of_mem _ hm.1, hm.2⟩]
          · rw [if_neg hm, if_neg (fun h => hm ⟨(List.mem_cons.1 h.1).resolve_left hj, h.2⟩)]
            show (if j = i then _ else _) = _
            rw [if_neg hj]
      · rcases List.mem_append.1 hm with hm | hm
        · exact h hm
        · exact b4 (List.mem_singleton.1 hm).symm
      · rcases List.mem_append.1 hm with hm | hm
        · exact h hm
        · exact b5 (List.mem_singleton.1 hm).symm
theorem fieldsV_gives (d : CmdIn) (hk : d.kind = 14) (seen : List (List UInt8)) (hs : givesN ∉ seen) (l : List Stk) (h8 : l.length ≤ 8) (h : Snum l) (h0 : l = [] → d.gives = []) (rest : List (List UInt8)) :
    ∃ d' seen', fieldsV d seen (tailT givesN l ++ rest) = fieldsV d' seen' rest ∧ d'.kind = d.kind ∧ d'.num = d.num ∧ d'.gives = l ∧ d'.wants = d.wants ∧ (wantsN ∉ seen → wantsN ∉ seen') := by
  by_cases hl : l = []
  · subst hl
    exact ⟨d, seen, rfl, rfl, rfl, h0 rfl, rfl, id⟩
  · have e : tailT givesN l ++ rest = (givesN ++ 61 :: listT l) :: rest := by simp [tailT, hl]
    have hc : cutL 61 (givesN ++ 61 :: listT l) = some (givesN, listT l) := cutL_at 61 _ _ (by decide)
    rw [e, fieldsV, hc]
    dsimp only
    rw [if_neg hs]
    unfold fieldV
    rw [if_pos ⟨hk, rfl⟩, stksL_of l hl h8 h]
    refine ⟨_, _, rfl, rfl, rfl, rfl, rfl, fun h hm => ?_⟩
    rcases List.mem_append.1 hm with hm | hm
    · exact h hm
    · revert hm; decide
theorem fieldsV_wants (d : CmdIn) (hk : d.kind = 14) (seen : List (List UInt8)) (hs : wantsN ∉ seen) (l : List Stk) (h8 : l.length ≤ 8) (h : Snum l) (h0 : l = [] → d.wants = []) :
    ∃ d', fieldsV d seen (tailT wantsN l) = some d' ∧ d'.kind = d.kind ∧ d'.num = d.num ∧ d'.gives = d.gives ∧ d'.wants = l := by
  by_cases hl : l = []
  · subst hl
    exact ⟨d, rfl, rfl, rfl, rfl, h0 rfl⟩
  · have e : tailT wantsN l = [wantsN ++ 61 :: listT l] := by simp [tailT, hl]
    have hc : cutL 61 (wantsN ++ 61 :: listT l) = some (wantsN, listT l) := cutL_at 61 _ _ (by decide)
    rw [e, fieldsV, hc]
    dsimp only
    rw [if_neg hs]
    unfold fieldV
    rw [if_neg (fun h => by revert h; rintro ⟨-, h⟩; revert h; decide), if_pos ⟨hk, rfl⟩, stksL_of l hl h8 h]
    exact ⟨_, rfl, rfl, rfl, rfl, rfl⟩
theorem dig_len : ∀ (k u : Nat), u < 10 ^ (k + 1) → (decDigits u).length ≤ k + 1
  | 0, u, h => by rw [decDigits, dif_pos (by simpa using h)]; exact Nat.le_refl _
  | k + 1, u, h => by
    rw [decDigits]
    split
    · simp
    · have h10 : u / 10 < 10 ^ (k + 1) := by rw [Nat.pow_succ] at h; omega
      have := dig_len k (u / 10) h10
      rw [List.length_append]
      simp
      omega
theorem itoa_len {n : Int} (h : I64 n) : (itoa n).length ≤ 20 := by
  obtain ⟨h0, h1⟩ := h
  have e : (10 : Nat) ^ (18 + 1) = 10000000000000000000 := by decide
  unfold itoa
  split
  · have := dig_len 18 n.natAbs (by omega)
    rw [List.length_cons]
    omega
  · have := dig_len 18 n.toNat (by omega)
    omega
theorem joinL_len (b : UInt8) (m : Nat) : ∀ ps : List (List UInt8), (∀ p ∈ ps, p.length ≤ m) → (joinL b ps).length ≤ (m + 1) * ps.length
  | [], _ => by simp [joinL]
  | [x], h => by
    have := h x (List.mem_singleton.2 rfl)
    rw [joinL]
    simp
    omega
  | x :: y :: r, h => by
    have h1 := h x (List.mem_cons_self ..)
    have h2 := joinL_len b m (y :: r) fun p hp => h p (List.mem_cons_of_mem _ hp)
    rw [joinL, List.length_append, List.length_cons]
    rw [List.length_cons, Nat.mul_succ]
    omega
theorem listT_len (l : List Stk) (h8 : l.length ≤ 8) (h : Snum l) : (listT l).length ≤ 336 := by
  have := joinL_len 44 41 (l.map stkT) fun p hp => by
    obtain ⟨s, hs, rfl⟩ := List.mem_map.1 hp
    have h1 := itoa_len (snum_mem h s hs).1
    have h2 := itoa_len (snum_mem h s hs).2
    unfold stkT
    rw [List.length_append, List.length_cons]
    omega
  rw [List.length_map] at this
  unfold listT
  have : 42 * l.length ≤ 42 * 8 := Nat.mul_le_mul_left _ h8
  omega
def sumL : List (List UInt8) → Nat
  | [] => 0
  | x :: l => x.length + 1 + sumL l
theorem sumL_append (l m : List (List UInt8)) : sumL (l ++ m) = sumL l + sumL m := by
  induction l with
  | nil => simp [sumL]
  | cons x l ih => rw [List.cons_append, sumL, sumL, ih]; omega
theorem joinL_sum (b : UInt8) : ∀ ps : List (List UInt8), (joinL b ps).length ≤ sumL ps
  | [] => Nat.le_refl _
  | [x] => by simp [joinL, sumL]
  | x :: y :: r => by
    have := joinL_sum b (y :: r)
    rw [joinL, List.length_append, List.length_cons, sumL]
    omega
theorem fieldsT_sum (c : CmdIn) (hI : ∀ i ∈ fi c.kind, I64 (c.num i)) : ∀ l : List Nat, (∀ i ∈ l, i ∈ fi c.kind) → sumL (fieldsT c l) ≤ 28 * l.length
  | [], _ => Nat.zero_le _
  | i :: l, h => by
    have hi := h i (List.mem_cons_self ..)
    have ih := fieldsT_sum c hI l fun j hj => h j (List.mem_cons_of_mem _ hj)
    obtain ⟨-, -, b3, -⟩ := names_bytes i (Cmd.fi_small _ i hi)
    have hl := itoa_len (hI i hi)
    have e : fieldsT c (i :: l) = fieldT c i ++ fieldsT c l := rfl
    rw [e, sumL_append, List.length_cons]
    have : sumL (fieldT c i) ≤ 28 := by
      unfold fieldT
      split
      · exact Nat.zero_le _
      · simp only [sumL, List.length_append, List.length_cons]
        omega
    omega
theorem line_len (c : CmdIn) (hc : Cok c) (h : chkV c = 0) : (lineT c).length ≤ 1015 := by
  obtain ⟨h1, ⟨l1, l2, l3⟩, h3⟩ := Cmd.chk_fn h
  have hk := Cmd.kind_of h1
  have hI : ∀ i ∈ fi c.kind, I64 (c.num i) := fun i hi => ⟨(hc.num i (Cmd.fi_small _ i hi)).1, (hc.num i (Cmd.fi_small _ i hi)).2⟩
  have a1 := joinL_sum 32 (lineW c)
  have a2 := fieldsT_sum c hI (fi c.kind) fun i hi => hi
  have a3 := Cmd.fi_len c.kind
  obtain ⟨-, -, a4⟩ := words_bytes (c.kind - 1).toNat (by omega)
  rw [← name_word hk] at a4
  have a5 : ∀ (n : List UInt8) (l : List Stk), n.length = 5 → l.length ≤ 8 → Snum l → sumL (tailT n l) ≤ 343 := fun n l hn h8 hs => by
    have := listT_len l h8 hs
    unfold tailT
    split
    · exact Nat.zero_le _
    · simp only [sumL, List.length_append, List.length_cons]
      omega
  have a6 := a5 givesN c.gives rfl l1 hc.gives
  have a7 := a5 wantsN c.wants rfl l2 hc.wants
  have e : sumL (lineW c) = (nameOf c.kind).data.toList.length + 1 + (sumL (fieldsT c (fi c.kind)) + (sumL (tailT givesN c.gives) + sumL (tailT wantsN c.wants))) := by
    unfold lineW
    rw [sumL, sumL_append, sumL_append]
  unfold lineT
  omega
/-- What a line says is told by it again. -/
theorem parse_line (c : CmdIn) (hc : Cok c) (hz : Clear c) (h : chkV c = 0) : ∃ c', parseO (lineT c) = some c' ∧ Eqv c' c := by
  obtain ⟨h1, ⟨l1, l2, l3⟩, h3⟩ := Cmd.chk_fn h
  have hk := Cmd.kind_of h1
  have hb := (Cmd.bads_iff c).1 h3
  have hI : ∀ i ∈ fi c.kind, I64 (c.num i) := fun i hi => ⟨(hc.num i (Cmd.fi_small _ i hi)).1, (hc.num i (Cmd.fi_small _ i hi)).2⟩
  have hl := line_len c hc h
  have ek : kindOf (bs (nameOf c.kind).data.toList) = c.kind := kind_name hk
  unfold parseO
  rw [words_line c hk]
  unfold lineW
  dsimp only
  rw [ek, if_neg (by omega), if_neg (by omega)]
  obtain ⟨d1, s1, e1, k1, n1, g1, w1, sg, sw⟩ := fieldsV_nums c hI (tailT givesN c.gives ++ tailT wantsN c.wants) (fi c.kind) (fun i hi => hi) (Cmd.fi_nodup _) (bareK c.kind) [] rfl (fun i _ hm => by cases hm)
  rw [e1]
  have hnum : d1.num = c.num := by
    funext j
    rw [n1 j]
    by_cases hj : j ∈ fi c.kind ∧ c.num j ≠ 0
    · rw [if_pos hj]
    · rw [if_neg hj]
      show (0 : Int) = _
      by_cases hm : j ∈ fi c.kind
      · exact (Decidable.byContradiction fun e => hj ⟨hm, fun e2 => e e2.symm⟩)
      · by_cases h19 : j < 19
        · exact (hb j h19 hm).symm
        · exact (hz j (by omega)).symm
  by_cases h14 : c.kind = 14
  · obtain ⟨d2, s2, e2, k2, n2, g2, w2, sw2⟩ := fieldsV_gives d1 (by rw [k1, h14]) s1 (sg (by simp)) c.gives l1 hc.gives (fun _ => g1) (tailT wantsN c.wants)
    rw [e2]
    obtain ⟨d3, e3, k3, n3, g3, w3⟩ := fieldsV_wants d2 (by rw [k2, k1, h14]) s2 (sw2 (sw (by simp))) c.wants l2 hc.wants (fun _ => by rw [w2, w1]; rfl)
    exact ⟨d3, e3, ⟨by rw [k3, k2, k1], by rw [n3, n2, hnum], by rw [g3, g2], w3⟩⟩
  · have := l3 h14
    have g0 : c.gives = [] := List.eq_nil_of_length_eq_zero (by omega)
    have w0 : c.wants = [] := List.eq_nil_of_length_eq_zero (by omega)
    rw [g0, w0]
    exact ⟨d1, rfl, ⟨k1, hnum, by rw [g1, g0]; rfl, by rw [w1, w0]; rfl⟩⟩
end Asm
end Go.Proofs.YtlhalhilnkneeaaGreatDoor
end
section
namespace Go.Proofs.YtlhalhilnkneeaaGreatDoor
/-- A number of 32 bits, as a walk holds it. -/
def U (x : BitVec 32) : Int := x.toNat
namespace Crc
theorem U_lo (x : BitVec 32) : 0 ≤ U x := Int.natCast_nonneg _
theorem U_hi (x : BitVec 32) : U x ≤ 4294967295 := by have := x.isLt; unfold U; omega
theorem U_inj {x y : BitVec 32} : (U x == U y) = (x == y) := by
  unfold U; rw [Bool.eq_iff_iff]; simp [← BitVec.toNat_inj]; omega
theorem U_of (n : Nat) (h : n < 4294967296) : ((n : Nat) : Int) = U (BitVec.ofNat 32 n) := by
  unfold U; simp; omega
theorem U_shr1 (x : BitVec 32) : U x / (2 : Int) = U (x >>> 1) := by
  unfold U; rw [BitVec.toNat_ushiftRight, Nat.shiftRight_eq_div_pow]; omega
theorem U_shr4 (x : BitVec 32) : U x / (16 : Int) = U (x >>> 4) := by
  unfold U; rw [BitVec.toNat_ushiftRight, Nat.shiftRight_eq_div_pow]; omega
theorem bits_U (x : BitVec 32) : BitVec.ofInt 32 (U x) = x := by unfold U; simp
theorem wrapU (x : BitVec 32) : IntKind.u32.wrap (x.toNat : Int) = U x := by
  have := x.isLt; unfold U; rw [IntKind.wrap_u32]; omega
theorem and_U (x y : BitVec 32) : bits .and .u32 (U x) (U y) = U (x &&& y) := by
  show IntKind.u32.wrap ((BitVec.ofInt 32 (U x) &&& BitVec.ofInt 32 (U y)).toNat : Int) = _
  rw [bits_U, bits_U, wrapU]
theorem xor_U (x y : BitVec 32) : bits .xor .u32 (U x) (U y) = U (x ^^^ y) := by
  show IntKind.u32.wrap ((BitVec.ofInt 32 (U x) ^^^ BitVec.ofInt 32 (U y)).toNat : Int) = _
  rw [bits_U, bits_U, wrapU]
theorem and_U1 (x : BitVec 32) : bits .and .u32 (U x) 1 = U (x &&& 1#32) := and_U x 1#32
theorem and_U15 (x : BitVec 32) : bits .and .u32 (U x) 15 = U (x &&& 15#32) := and_U x 15#32
def poly : BitVec 32 := 3988292384#32
theorem and_Up (x : BitVec 32) : bits .and .u32 3988292384 (U x) = U (poly &&& x) := and_U poly x
theorem xor_Up (x : BitVec 32) : bits .xor .u32 (U x) 3988292384 = U (x ^^^ poly) := xor_U x poly
theorem neg_U (x : BitVec 32) : -U x % (4294967296 : Int) = U (-x) := by
  have := x.isLt; unfold U; rw [BitVec.toNat_neg]; omega
theorem not_U (x : BitVec 32) : bits .xor .u32 (U x) 4294967295 = U (~~~x) := by
  have e : (4294967295 : Int) = U (BitVec.allOnes 32) := rfl
  rw [e, xor_U, BitVec.xor_allOnes]
/-- One step: shifted down; the polynomial put on it if the lowest bit was 1. -/
def stp (x : BitVec 32) : BitVec 32 := (x >>> 1) ^^^ (poly &&& -(x &&& 1#32))
def stps : Nat → BitVec 32 → BitVec 32
  | 0, x => x
  | n + 1, x => stps n (stp x)
theorem stps_snoc (n : Nat) (x : BitVec 32) : stps (n + 1) x = stp (stps n x) := by
  induction n generalizing x with
  | zero => rfl
  | succ n ih => rw [stps, ih]; rfl
theorem lsb01 (x : BitVec 32) : x &&& 1#32 = 0#32 ∨ x &&& 1#32 = 1#32 := by
  have h : (x &&& 1#32).toNat = x.toNat % 2 := by rw [BitVec.toNat_and]; exact Nat.and_two_pow_sub_one_eq_mod _ 1
  rcases Nat.mod_two_eq_zero_or_one x.toNat with e | e
  · left; apply BitVec.eq_of_toNat_eq; rw [h, e]; rfl
  · right; apply BitVec.eq_of_toNat_eq; rw [h, e]; rfl
theorem stp_even {x : BitVec 32} (h : (U (x &&& 1#32) == 1) = false) : stp x = x >>> 1 := by
  rcases lsb01 x with e | e
  · rw [stp, e]; simp
  · rw [e] at h; exact absurd h (by decide)
theorem stp_odd {x : BitVec 32} (h : (U (x &&& 1#32) == 1) = true) : stp x = (x >>> 1) ^^^ poly := by
  rcases lsb01 x with e | e
  · rw [e] at h; exact absurd h (by decide)
  · rw [stp, e]; rfl
def nib (k : Nat) : BitVec 32 := stps 4 (BitVec.ofNat 32 k)
/-- n numbers of 32 bits as cells. -/
def arrU (n : Nat) (f : Nat → BitVec 32) : Array Value := ((List.range n).map fun i => Value.int .u32 (U (f i))).toArray
theorem arrU_size (n : Nat) (f : Nat → BitVec 32) : (arrU n f).size = n := by simp [arrU]
theorem arrU_get (n : Nat) (f : Nat → BitVec 32) (i : Nat) (h : i < n) : (arrU n f)[i]? = some (Value.int .u32 (U (f i))) := by
  simp [arrU, h]
theorem arrU_one (n : Nat) (f : Nat → BitVec 32) : (arrU n f).all (·.oneCell') = true := by
  simp [arrU, Value.oneCell']
theorem arrU_ext {n : Nat} {f g : Nat → BitVec 32} (h : ∀ i, i < n → f i = g i) : arrU n f = arrU n g := by
  unfold arrU
  congr 1
  apply List.map_congr_left
  intro i hi
  rw [h i (by simpa using hi)]
theorem arrU_set (n : Nat) (f : Nat → BitVec 32) (k : Nat) (v : BitVec 32) : (arrU n f).setIfInBounds k (.int .u32 (U v)) = arrU n (fun i => if i = k then v else f i) := by
  apply Array.ext'
  apply List.ext_getElem?
  intro i
  by_cases hi : i < n
  · have e1 := arrU_get n f i hi
    have e2 := arrU_get n (fun i => if i = k then v else f i) i hi
    simp only [← Array.getElem?_toList] at e1 e2
    rw [e2, Array.toList_setIfInBounds, List.getElem?_set, e1]
    have := arrU_size n f
    by_cases hk : k = i
    · subst hk; simp [this, hi]
    · rw [if_neg hk, if_neg (fun e => hk e.symm)]
  · rw [List.getElem?_eq_none (by simp [arrU_size]; omega), List.getElem?_eq_none (by simp [arrU_size]; omega)]
/-- Filled as far as k, 0 behind. -/
def upTo (f : Nat → BitVec 32) (k i : Nat) : BitVec 32 := if i < k then f i else 0#32
theorem arrU_fill (n : Nat) (f : Nat → BitVec 32) (k : Nat) : (arrU n (upTo f k)).setIfInBounds k (.int .u32 (U (f k))) = arrU n (upTo f (k + 1)) := by
  rw [arrU_set]
  apply arrU_ext
  intro i _
  by_cases h : i = k
  · subst h; simp [upTo]
  · by_cases h1 : i < k
    · simp [upTo, h, h1, show i < k + 1 by omega]
    · simp [upTo, h, h1, show ¬ i < k + 1 by omega]
theorem arrU_full (n : Nat) (f : Nat → BitVec 32) : arrU n (upTo f n) = arrU n f :=
  arrU_ext fun i h => by simp [upTo, h]
theorem arrU_todo (n : Nat) (f : Nat → BitVec 32) (k : Nat) (h : k < n) : (arrU n (upTo f k))[k]? = some (.int .u32 0) := by
  rw [arrU_get n _ k h]; simp [upTo]; rfl
/-- A byte comes to a number. -/
def byt (n : BitVec 32) (b : UInt8) : BitVec 32 := stps 8 (n ^^^ BitVec.ofNat 32 b.toNat)
def run (n : BitVec 32) (l : List UInt8) : BitVec 32 := l.foldl byt n
def more (sum : BitVec 32) (l : List UInt8) : BitVec 32 := ~~~ run (~~~ sum) l
def sum (l : List UInt8) : BitVec 32 := more 0#32 l
theorem run_snoc (n : BitVec 32) (l : List UInt8) (b : UInt8) : run n (l ++ [b]) = byt (run n l) b := by simp [run]
theorem run_take (n : BitVec 32) (s : ByteArray) (k : Nat) (h : k < s.size) : run n (s.data.toList.take (k + 1)) = byt (run n (s.data.toList.take k)) s[k] := by
  rw [List.take_succ_eq_append_getElem (by simpa using h), run_snoc]; rfl
theorem U_byte (b : UInt8) : ((b.toNat : Nat) : Int) = U (BitVec.ofNat 32 b.toNat) := U_of _ (by have := b.toNat_lt; omega)
theorem not_Um (x : BitVec 32) : bits .xor .u32 IntKind.u32.max (U x) = U (~~~x) := by
  have e : IntKind.u32.max = U (BitVec.allOnes 32) := rfl
  rw [e, xor_U, BitVec.allOnes_xor]
theorem getD_byte (s : ByteArray) (k : Nat) (h : k < s.size) : s.data.toList.getD k 0 = s[k] := by
  have h' : k < s.data.toList.length := by simpa using h
  rw [List.getD_eq_getElem?_getD, List.getElem?_eq_getElem h']
  rfl
theorem U_mod (x : BitVec 32) : U x % (4294967296 : Int) = U x := by have := U_lo x; have := U_hi x; omega
theorem lsb_iff (x : BitVec 32) : x &&& 1#32 = if x.getLsbD 0 then 1#32 else 0#32 := by
  have h : (x &&& 1#32).getLsbD 0 = x.getLsbD 0 := by simp
  rcases lsb01 x with e | e
  · rw [e] at h; rw [← h, e]; rfl
  · rw [e] at h; rw [← h, e]; rfl
theorem stp_eq (x : BitVec 32) : stp x = (x >>> 1) ^^^ (if x.getLsbD 0 then poly else 0#32) := by
  rw [stp, lsb_iff]
  cases x.getLsbD 0 <;> rfl
theorem xor4 (a b c d : BitVec 32) : (a ^^^ b) ^^^ (c ^^^ d) = (a ^^^ c) ^^^ (b ^^^ d) := by
  rw [BitVec.xor_assoc, ← BitVec.xor_assoc b, BitVec.xor_comm b c, BitVec.xor_assoc c, ← BitVec.xor_assoc]
theorem stp_xor (x y : BitVec 32) : stp (x ^^^ y) = stp x ^^^ stp y := by
  rw [stp_eq, stp_eq, stp_eq, BitVec.ushiftRight_xor_distrib, xor4]
  congr 1
  rw [BitVec.getLsbD_xor]
  cases x.getLsbD 0 <;> cases y.getLsbD 0 <;> simp
theorem stps_xor (n : Nat) (x y : BitVec 32) : stps n (x ^^^ y) = stps n x ^^^ stps n y := by
  induction n generalizing x y with
  | zero => rfl
  | succ n ih => rw [stps, stps, stps, stp_xor, ih]
theorem stps_add (a b : Nat) (x : BitVec 32) : stps (a + b) x = stps b (stps a x) := by
  induction a generalizing x with
  | zero => rw [Nat.zero_add]; rfl
  | succ a ih => rw [Nat.add_right_comm, stps, stps, ih]
theorem stp_low {x : BitVec 32} (h : x.getLsbD 0 = false) : stp x = x >>> 1 := by rw [stp_eq, h]; simp
/-- Numbers whose lowest k bits are 0 are only shifted by k steps. -/
theorem stps_low (k : Nat) (x : BitVec 32) (h : ∀ i, i < k → x.getLsbD i = false) : stps k x = x >>> k := by
  induction k generalizing x with
  | zero => rw [stps, BitVec.ushiftRight_zero]
  | succ k ih =>
    rw [stps, stp_low (h 0 (by omega)), ih]
    · rw [← BitVec.shiftRight_add, Nat.add_comm]
    · intro i hi
      rw [BitVec.getLsbD_ushiftRight]
      exact h _ (by omega)
def nibOf (y : BitVec 32) : BitVec 32 := nib (y &&& 15#32).toNat
theorem and15_lt (y : BitVec 32) : (y &&& 15#32).toNat < 16 := by
  rw [BitVec.toNat_and]
  have : (15#32 : BitVec 32).toNat = 2 ^ 4 - 1 := rfl
  rw [this, Nat.and_two_pow_sub_one_eq_mod]
  omega
theorem U_and15 (y : BitVec 32) : 0 ≤ U (y &&& 15#32) ∧ U (y &&& 15#32) ≤ 15 := by have := and15_lt y; unfold U; omega
theorem split15 (y : BitVec 32) : y = (y &&& 15#32) ^^^ (y &&& ~~~ 15#32) := by
  apply BitVec.eq_of_getLsbD_eq
  intro i hi
  simp only [BitVec.getLsbD_xor, BitVec.getLsbD_and, BitVec.getLsbD_not, hi, decide_true, Bool.true_and]
  cases y.getLsbD i <;> cases (15#32).getLsbD i <;> rfl
/-- Four steps by the table. -/
theorem stps_nib (y : BitVec 32) : stps 4 y = nibOf y ^^^ (y >>> 4) := by
  conv => lhs; rw [split15 y, stps_xor]
  congr 1
  · rw [nibOf, nib, BitVec.ofNat_toNat, BitVec.setWidth_eq]
  · rw [stps_low]
    · apply BitVec.eq_of_getLsbD_eq
      intro i hi
      simp only [BitVec.getLsbD_ushiftRight, BitVec.getLsbD_and, BitVec.getLsbD_not]
      by_cases h : 4 + i < 32
      · have : (15#32).getLsbD (4 + i) = false := by
          rw [BitVec.getLsbD_ofNat]
          have : Nat.testBit 15 (4 + i) = false := by
            apply Nat.testBit_lt_two_pow
            exact Nat.lt_of_lt_of_le (by decide : 15 < 2 ^ 4) (Nat.pow_le_pow_right (by decide) (by omega))
          rw [this, Bool.and_false]
        simp only [this, h, decide_true, Bool.not_false, Bool.and_true]
      · simp [BitVec.getLsbD_of_ge y (4 + i) (by omega)]
    · intro i hi
      rw [BitVec.getLsbD_and, BitVec.getLsbD_not]
      match i, hi with
      | 0, _ => simp
      | 1, _ => simp
      | 2, _ => simp
      | 3, _ => simp
theorem stps_nib2 (y : BitVec 32) : stps 8 y = nibOf (nibOf y ^^^ (y >>> 4)) ^^^ ((nibOf y ^^^ (y >>> 4)) >>> 4) := by
  rw [show (8 : Nat) = 4 + 4 from rfl, stps_add, stps_nib y, stps_nib]
theorem U_shr (x : BitVec 32) (k : Nat) : U x / (2 : Int) ^ k = U (x >>> k) := by
  unfold U
  rw [BitVec.toNat_ushiftRight, Nat.shiftRight_eq_div_pow, Int.natCast_ediv, Int.natCast_pow]; rfl
theorem bitTest (n : BitVec 32) (k : Nat) : (bits .and .u32 (U n / (2 : Int) ^ k) 1 == 1) = n.getLsbD k := by
  rw [U_shr, and_U1, lsb_iff, BitVec.getLsbD_ushiftRight, Nat.add_zero]
  cases n.getLsbD k <;> rfl
theorem i64_and1 (n : Int) : bits .and .i64 n 1 = n % 2 := by
  show IntKind.i64.wrap ((BitVec.ofInt 64 n &&& BitVec.ofInt 64 1).toNat : Int) = _
  rw [BitVec.toNat_and, show (BitVec.ofInt 64 1).toNat = 2 ^ 1 - 1 from rfl, Nat.and_two_pow_sub_one_eq_mod, BitVec.toNat_ofInt, IntKind.wrap_i64]
  have h : ((n % ((2 ^ 64 : Nat) : Int)).toNat : Int) = n % ((2 ^ 64 : Nat) : Int) := Int.toNat_of_nonneg (Int.emod_nonneg _ (by decide))
  have h2 : (((n % ((2 ^ 64 : Nat) : Int)).toNat % 2 ^ 1 : Nat) : Int) = n % 2 := by
    rw [Int.natCast_emod, h]
    omega
  rw [h2]
  omega
end Crc
attribute [go_sem] Crc.U_mod Crc.not_Um Crc.U_shr1 Crc.U_shr4 Crc.and_U Crc.xor_U Crc.and_U1 Crc.and_U15 Crc.and_Up Crc.xor_Up Crc.neg_U
end Go.Proofs.YtlhalhilnkneeaaGreatDoor
end
section
namespace Go.Proofs.YtlhalhilnkneeaaGreatDoor
open Go.RowKit
namespace Crc
set_option maxHeartbeats 400000 in
theorem eight_any (x : BitVec 32) (w : World) :
    Calls Tryz.prog 156 #[.int .u32 (U x)] w fun e w' => e = .returned (.int .u32 (U (stps 8 x))) ∧ w = w' := by
  go_enter Tryz.func156, Tryz.ntmps156
  go_wp2
  go_loop [0, 3, 4] (fun n _ i => ∃ k : Nat, k ≤ 8 ∧ i = .int .i64 k ∧ n = .int .u32 (U (stps k x))) (fun _ _ i => 8 - (intOf i).toNat)
  case atStart => exact ⟨0, by omega, rfl, rfl⟩
  case round =>
    obtain ⟨k, hk, rfl, rfl⟩ := hrel
    have hs : Hid (stps (k + 1) x = _) := Lib.hid (stps_snoc k x)
    go_wp2
    · go_round
      case rel => exact ⟨k + 1, by omega, by go_num, by rw [hs.out]; rfl⟩
      case measure => simp [intOf]; omega
    · have : k = 8 := by omega
      subst this
      go_ret
      exact ⟨rfl, rfl⟩
set_option maxHeartbeats 400000 in
theorem step_any (x : BitVec 32) (w : World) :
    Calls Tryz.prog 158 #[.int .u32 (U x)] w fun e w' => e = .returned (.int .u32 (U (stp x))) ∧ w = w' := by
  rcases hb : (U (x &&& 1#32) == 1) with _ | _
  · have hs := Lib.hid (stp_even hb)
    go_enter Tryz.func158, Tryz.ntmps158
    go_wp2
    go_ret
    exact ⟨by rw [hs.out]; rfl, rfl⟩
  · have hs := Lib.hid (stp_odd hb)
    go_enter Tryz.func158, Tryz.ntmps158
    go_wp2
    go_ret
    exact ⟨by rw [hs.out]; rfl, rfl⟩
def nibArr (k : Nat) : Array Value := arrU 16 (upTo nib k)
set_option maxHeartbeats 400000 in
theorem nibbles_any (w : World) :
    Calls Tryz.prog 157 #[] w fun e w' => e = .returned (.agg (arrU 16 nib)) ∧ Below w.heap.size w w' := by
  go_enter Tryz.func157, Tryz.ntmps157
  go_wp2
  go_loopw [4] (fun i wr => ∃ k : Nat, k ≤ 16 ∧ i = .int .u32 k ∧ wr = (w.alloc (.cells (nibArr 0) 175)).alloc (.cells (nibArr k) 175)) (fun i _ => 16 - (intOf i).toNat)
  case atStart => exact ⟨0, by omega, rfl, rfl⟩
  case round =>
    obtain ⟨k, hk, rfl, rfl⟩ := hrel
    have hn := Lib.hid (U_of k (by omega))
    by_cases hlt : k < 16
    · have hg : (nibArr k)[k]? = some (.int .u32 0) := arrU_todo 16 nib k hlt
      have hset := Lib.hid (arrU_fill 16 nib k)
      go_wp2
      go_loop [3, 8] (fun n i => ∃ j : Nat, j ≤ 4 ∧ i = .int .i64 j ∧ n = .int .u32 (U (stps j (BitVec.ofNat 32 k)))) (fun _ i => 4 - (intOf i).toNat)
      case atStart => exact ⟨0, by omega, rfl, by rw [hn.out]; rfl⟩
      case round =>
        obtain ⟨j, hj, rfl, rfl⟩ := hrel
        have hs : Hid (stps (j + 1) (BitVec.ofNat 32 k) = _) := Lib.hid (stps_snoc j _)
        go_wp2
        · go_round
          case rel => exact ⟨j + 1, by omega, by go_num, by rw [hs.out]; rfl⟩
          case measure => simp [intOf]; omega
        · have : j = 4 := by omega
          subst this
          go_roundw
          case rel => exact ⟨k + 1, by omega, by go_num, by rw [show nibArr (k + 1) = _ from hset.out.symm]; rfl⟩
          case measure => simp [intOf]; omega
    · have : k = 16 := by omega
      subst this
      have hsz : ∀ k, (Tryz.prog.info? 175).map (·.size) = some (nibArr k).size := fun k => by rw [nibArr, arrU_size]; kernel_rfl
      go_wp2_with (first | (refine wpList_load_row rfl 175 (.tmp 1) rfl _ rfl 175 (nibArr 16) (0, 0) _ (heap_alloc2_new w _ _) Tryz.underlying175 rfl (hsz 16) ?_) | (refine wpList_store_row rfl 175 (.tmp 0) (.tmp 22) rfl _ _ rfl rfl 175 (nibArr 0) (heap_alloc2_old w _ _) (hsz 16) (by simp [nibArr, arrU_size]) (arrU_one _ _) ?_))
      refine bodyPost_ret (v := .agg (nibArr 16)) (results_cell_row rfl _ _ w.heap.size 175 (nibArr 16) (0, 0) _ rfl (setRow_heap _ _ _ _ _ _ (heap_alloc2_old w _ _)) Tryz.underlying175 rfl (hsz 16)) rfl ⟨by rw [nibArr, arrU_full], ?_⟩
      exact below_setRow ((((Below.refl _ _).alloc (Nat.le_refl _) _).alloc (by simp) _)) (Nat.le_refl _) _
theorem bytesWorld_below (w : World) (e : TypeId) (s : ByteArray) : Below w.heap.size w (Lib.bytesWorld w e s) :=
  ⟨rfl, rfl, rfl, by rw [Lib.bytesWorld_size]; omega, fun k hk => Lib.bytesWorld_at_old w e s k hk⟩
set_option maxHeartbeats 400000 in
set_option maxRecDepth 100000 in
theorem more_any (n : BitVec 32) (s : ByteArray) (hs : s.size ≤ maxLen) (w : World) :
    Calls Tryz.prog 141 #[.int .u32 (U n), .string s] w fun e w' => e = .returned (.int .u32 (U (more n s.data.toList))) ∧ Below w.heap.size w w' := by
  unfold maxLen at hs
  have hconv := fun w => Lib.run_convert_string_bytes (P := Tryz.prog) w 9 92 5 s Tryz.underlying9 Tryz.underlying92 Tryz.underlying5
  by_cases h16 : s.size < 16
  · go_enter Tryz.func141, Tryz.ntmps141
    go_wp2
    go_loop [5, 19] (fun v i => ∃ k : Nat, k ≤ s.size ∧ i = .int .i64 k ∧ v = .int .u32 (U (run (~~~ n) (s.data.toList.take k)))) (fun _ i => s.size - (intOf i).toNat)
    case atStart => exact ⟨0, by omega, rfl, rfl⟩
    case round =>
      obtain ⟨k, hk, rfl, rfl⟩ := hrel
      by_cases hlt : k < s.size
      · have hcell := Lib.bytesWorld_cell w 5 s k hlt
        have hd : s.data.toList.getD k 0 = s[k] := getD_byte s k hlt
        rw [hd, U_byte s[k]] at hcell
        have hrun := Lib.hid (run_take (~~~ n) s k hlt)
        clear hd
        go_wp2_with (go_at_call 156; ((with_reducible refine (eight_any _ _).mono ?_); rintro e w1 ⟨rfl, rfl⟩))
        go_round
        case rel => exact ⟨k + 1, by omega, by go_num, by rw [hrun.out]; rfl⟩
        case measure => simp [intOf]; omega
      · have hrun : Hid (s.data.toList.take k = _) := Lib.hid (List.take_of_length_le (by simp; omega))
        go_wp2
        go_ret
        refine ⟨?_, bytesWorld_below _ _ _⟩
        rw [hrun.out]; rfl
  · have hsz : (Tryz.prog.info? 175).map (·.size) = some (arrU 16 nib).size := by rw [arrU_size]; kernel_rfl
    have hz0 : (arrU 16 (fun _ => 0#32)).size = (arrU 16 nib).size := by rw [arrU_size, arrU_size]
    have hone := arrU_one 16 nib
    go_enter Tryz.func141, Tryz.ntmps141
    go_wp2_with (first | (go_at_call 157; ((with_reducible refine (nibbles_any _).mono ?_); rintro e w1 ⟨rfl, hb⟩)) | (refine wpList_store_row rfl 175 (.tmp 8) (.tmp 31) rfl _ (arrU 16 nib) rfl rfl 175 _ (heap_alloc_last _ _) hsz ?hh hone ?_; (case hh => simp [arrU_size]); rw [World.setRow_alloc_new]))
    have hcB : ∀ k, k < s.size → (Lib.bytesWorld (w1.alloc (.cells (arrU 16 nib) 175)) 5 s).cell? ⟨w1.heap.size + 1, k, none⟩ = some (.int .u8 (s.data.toList.getD k 0).toNat) := by
      intro k hk
      have := Lib.bytesWorld_cell (w1.alloc (.cells (arrU 16 nib) 175)) 5 s k hk
      simpa using this
    have hcT : ∀ y : BitVec 32, (Lib.bytesWorld (w1.alloc (.cells (arrU 16 nib) 175)) 5 s).cell? ⟨w1.heap.size, (U (y &&& 15#32)).toNat, none⟩ = some (.int .u32 (U (nibOf y))) := by
      intro y
      rw [Lib.bytesWorld_old _ _ _ _ (by simp), cell_of_row _ _ _ _ _ _ (heap_alloc_last _ _)]
      exact arrU_get 16 nib _ (and15_lt y)
    have hbw : Below w.heap.size w (Lib.bytesWorld (w1.alloc (.cells (arrU 16 nib) 175)) 5 s) := (hb.alloc hb.size _).trans ((bytesWorld_below _ _ _).mono (by simp; have := hb.size; omega))
    generalize Lib.bytesWorld (w1.alloc (.cells (arrU 16 nib) 175)) 5 s = W at hcB hcT hbw ⊢
    clear hsz hz0 hone
    go_loop [5, 35] (fun v i => ∃ k : Nat, k ≤ s.size ∧ i = .int .i64 k ∧ v = .int .u32 (U (run (~~~ n) (s.data.toList.take k)))) (fun _ i => s.size - (intOf i).toNat)
    case atStart => exact ⟨0, by omega, rfl, rfl⟩
    case round =>
      obtain ⟨k, hk, rfl, rfl⟩ := hrel
      have HB := Lib.hid hbw
      clear hbw
      by_cases hlt : k < s.size
      · have hcell := hcB k hlt
        rw [getD_byte s k hlt, U_byte s[k]] at hcell
        clear hcB
        have hrun := Lib.hid (run_take (~~~ n) s k hlt)
        have hnib := Lib.hid (stps_nib2 (run (~~~ n) (s.data.toList.take k) ^^^ BitVec.ofNat 32 s[k].toNat))
        have b1 := U_and15 (run (~~~ n) (s.data.toList.take k) ^^^ BitVec.ofNat 32 s[k].toNat)
        have b2 := U_and15 (nibOf (run (~~~ n) (s.data.toList.take k) ^^^ BitVec.ofNat 32 s[k].toNat) ^^^ ((run (~~~ n) (s.data.toList.take k) ^^^ BitVec.ofNat 32 s[k].toNat) >>> 4))
        go_wp2
        go_round
        case rel => exact ⟨k + 1, by omega, by go_num, by rw [hrun.out, byt, hnib.out]⟩
        case measure => simp [intOf]; omega
      · have hrun : Hid (s.data.toList.take k = _) := Lib.hid (List.take_of_length_le (by simp; omega))
        clear hcB hcT
        go_wp2
        go_ret
        refine ⟨?_, HB.out⟩
        rw [hrun.out]; rfl
end Crc

end Go.Proofs.YtlhalhilnkneeaaGreatDoor
end
section
namespace Go.Proofs.YtlhalhilnkneeaaGreatDoor
open Go.RowKit
namespace Crc
set_option maxHeartbeats 400000 in
theorem refMore_any (n : BitVec 32) (s : ByteArray) (hs : s.size ≤ maxLen) (w : World) :
    Calls Tryz.prog 142 #[.int .u32 (U n), .string s] w fun e w' => e = .returned (.int .u32 (U (more n s.data.toList))) ∧ w = w' := by
  unfold maxLen at hs
  go_enter Tryz.func142, Tryz.ntmps142
  go_wp2
  go_loop [5, 6, 7] (fun v i _ => ∃ k : Nat, k ≤ s.size ∧ i = .int .i64 k ∧ v = .int .u32 (U (run (~~~ n) (s.data.toList.take k)))) (fun _ i _ => s.size - (intOf i).toNat)
  case atStart => exact ⟨0, by omega, rfl, rfl⟩
  case round =>
    obtain ⟨k, hk, rfl, rfl⟩ := hrel
    by_cases hlt : k < s.size
    · have hrun := Lib.hid (run_take (~~~ n) s k hlt)
      have hub := U_byte s[k]
      go_wp2
      go_loop [5, 7] (fun v i => ∃ j : Nat, j ≤ 8 ∧ i = .int .i64 j ∧ v = .int .u32 (U (stps j (run (~~~ n) (s.data.toList.take k) ^^^ BitVec.ofNat 32 s[k].toNat)))) (fun _ i => 8 - (intOf i).toNat)
      case atStart => exact ⟨0, by omega, rfl, rfl⟩
      case round =>
        obtain ⟨j, hj, rfl, rfl⟩ := hrel
        have hst : Hid (stps (j + 1) (run (~~~ n) (s.data.toList.take k) ^^^ BitVec.ofNat 32 s[k].toNat) = _) := Lib.hid (stps_snoc j _)
        go_wp2_with (go_at_call 158; ((with_reducible refine (step_any _ _).mono ?_); rintro e w1 ⟨rfl, rfl⟩))
        · go_round
          case rel => exact ⟨j + 1, by omega, by go_num, by rw [hst.out]⟩
          case measure => simp [intOf]; omega
        · have : j = 8 := by omega
          subst this
          go_round
          case rel => exact ⟨k + 1, by omega, by go_num, by rw [hrun.out]; rfl⟩
          case measure => simp [intOf]; omega
    · have hrun : Hid (s.data.toList.take k = _) := Lib.hid (List.take_of_length_le (by simp; omega))
      go_wp2
      go_ret
      exact ⟨by rw [hrun.out]; rfl, rfl⟩
set_option maxHeartbeats 400000 in
theorem sum_any (s : ByteArray) (hs : s.size ≤ maxLen) (w : World) :
    Calls Tryz.prog 115 #[.string s] w fun e w' => e = .returned (.int .u32 (U (sum s.data.toList))) ∧ Below w.heap.size w w' := by
  have h0 : Hid ((.int .u32 0 : Value) = .int .u32 (U 0#32)) := rfl
  go_enter Tryz.func115, Tryz.ntmps115
  go_wp2_with (go_at_call 141; rw [h0.out]; ((with_reducible refine (more_any _ _ hs _).mono ?_); rintro e w1 ⟨rfl, hb⟩))
  go_ret
  exact ⟨rfl, hb⟩
set_option maxHeartbeats 400000 in
theorem refSum_any (s : ByteArray) (hs : s.size ≤ maxLen) (w : World) :
    Calls Tryz.prog 124 #[.string s] w fun e w' => e = .returned (.int .u32 (U (sum s.data.toList))) ∧ w = w' := by
  have h0 : Hid ((.int .u32 0 : Value) = .int .u32 (U 0#32)) := rfl
  go_enter Tryz.func124, Tryz.ntmps124
  go_wp2_with (go_at_call 142; rw [h0.out]; ((with_reducible refine (refMore_any _ _ hs _).mono ?_); rintro e w1 ⟨rfl, rfl⟩))
  go_ret
  exact ⟨rfl, rfl⟩
end Crc
end Go.Proofs.YtlhalhilnkneeaaGreatDoor
end
section
namespace Go.Proofs.YtlhalhilnkneeaaGreatDoor
namespace Frm
open Crc (sum)
/-- A number as four bytes, the highest first. -/
def b4 (n : Nat) : List UInt8 := [UInt8.ofNat (n / 16777216), UInt8.ofNat (n / 65536), UInt8.ofNat (n / 256), UInt8.ofNat n]
def fits (n : Nat) : Bool := decide (1 ≤ n ∧ n ≤ 4096)
/-- What stands ahead of a record. -/
def hd (l : List UInt8) : List UInt8 := b4 l.length ++ b4 (sum l).toNat
theorem hd_length (l : List UInt8) : (hd l).length = 8 := rfl
def put (l : List UInt8) : List UInt8 := hd l ++ l
theorem put_length (l : List UInt8) : (put l).length = 8 + l.length := by rw [put, List.length_append, hd_length]
/-- Bytes as a number. -/
def num (l : List UInt8) : Nat := l.foldl (fun n b => n * 256 + b.toNat) 0
theorem num_b4 (n : Nat) (h : n < 4294967296) : num (b4 n) = n := by
  simp [num, b4]
  omega
/-- The record with which bytes begin. -/
def first (l : List UInt8) : Option (List UInt8) :=
  if l.length < 8 then none
  else if fits (num (l.take 4)) && decide (num (l.take 4) ≤ l.length - 8) then
    (if hd ((l.drop 8).take (num (l.take 4))) = l.take 8 then some ((l.drop 8).take (num (l.take 4))) else none)
  else none
theorem first_some {l r : List UInt8} (h : first l = some r) : fits r.length = true ∧ ∃ t, l = put r ++ t := by
  unfold first at h
  split at h
  · cases h
  · rename_i h8
    split at h
    · rename_i hn
      split at h
      · rename_i hh
        cases h
        simp only [Bool.and_eq_true, decide_eq_true_eq] at hn
        have hl : ((l.drop 8).take (num (l.take 4))).length = num (l.take 4) := by
          rw [List.length_take, List.length_drop]; omega
        rw [hl]
        refine ⟨hn.1, (l.drop 8).drop (num (l.take 4)), ?_⟩
        rw [put, hh, List.append_assoc, List.take_append_drop, List.take_append_drop]
      · cases h
    · cases h
theorem first_put (r t : List UInt8) (h : fits r.length = true) : first (put r ++ t) = some r := by
  have hb := of_decide_eq_true h
  have h4 : (put r ++ t).take 4 = b4 r.length := by simp [put, hd, b4]
  have h8 : (put r ++ t).take 8 = hd r := by simp [put, hd, b4]
  have hd8 : (put r ++ t).drop 8 = r ++ t := by simp [put, hd, b4]
  have hn : num (b4 r.length) = r.length := num_b4 _ (by omega)
  have hl : (put r ++ t).length = 8 + r.length + t.length := by rw [List.length_append, put_length]
  unfold first
  rw [h4, h8, hd8, hn, hl, if_neg (by omega), h, if_pos (by simp; omega)]
  simp
/-- The records that stand one behind the other, and how many bytes they take. -/
def scanF : Nat → List UInt8 → List (List UInt8) × Nat
  | 0, _ => ([], 0)
  | f + 1, l => match first l with
    | none => ([], 0)
    | some r => (r :: (scanF f (l.drop (8 + r.length))).1, 8 + r.length + (scanF f (l.drop (8 + r.length))).2)
def scan (l : List UInt8) : List (List UInt8) × Nat := scanF l.length l
theorem first_nil : first [] = none := rfl
theorem scanF_two (k : Nat) : ∀ (f : Nat) (l : List UInt8), l.length ≤ k → l.length ≤ f → scanF k l = scanF f l := by
  induction k with
  | zero =>
    intro f l hk _
    have : l = [] := List.length_eq_zero_iff.1 (by omega)
    subst this
    cases f <;> rfl
  | succ k ih =>
    intro f l hk hf
    cases f with
    | zero =>
      have : l = [] := List.length_eq_zero_iff.1 (by omega)
      subst this
      rfl
    | succ f =>
      rw [scanF, scanF]
      cases hl : first l with
      | none => rfl
      | some r =>
        obtain ⟨_, t, rfl⟩ := first_some hl
        have h8 := put_length r
        rw [List.length_append] at hk hf
        have e := ih f ((put r ++ t).drop (8 + r.length)) (by rw [List.length_drop, List.length_append]; omega) (by rw [List.length_drop, List.length_append]; omega)
        simp only [e]
theorem scan_none {l : List UInt8} (h : first l = none) : scan l = ([], 0) := by
  unfold scan
  cases hl : l.length with
  | zero => rfl
  | succ n => rw [scanF, h]
theorem scan_put (r t : List UInt8) (h : fits r.length = true) : scan (put r ++ t) = (r :: (scan t).1, 8 + r.length + (scan t).2) := by
  have hd : (put r ++ t).drop (8 + r.length) = t := by rw [← put_length, List.drop_left]
  have hl : (put r ++ t).length = (7 + r.length + t.length) + 1 := by rw [List.length_append, put_length]; omega
  unfold scan
  rw [hl, scanF, first_put r t h]
  simp only [hd]
  rw [scanF_two (7 + r.length + t.length) t.length t (by omega) (by omega)]
theorem scan_some {l r : List UInt8} (h : first l = some r) : scan l = (r :: (scan (l.drop (8 + r.length))).1, 8 + r.length + (scan (l.drop (8 + r.length))).2) ∧ 8 + r.length ≤ l.length ∧ r = (l.drop 8).take r.length := by
  obtain ⟨hf, t, rfl⟩ := first_some h
  have hd : (put r ++ t).drop (8 + r.length) = t := by rw [← put_length, List.drop_left]
  refine ⟨by rw [scan_put r t hf, hd], by rw [List.length_append, put_length]; omega, ?_⟩
  simp [put, b4, Frm.hd]
/-- Records' bytes, one behind the other. -/
def cats (l : List ByteArray) : List UInt8 := l.flatMap fun s => put s.data.toList
theorem cats_cons (s : ByteArray) (l : List ByteArray) : cats (s :: l) = put s.data.toList ++ cats l := rfl
theorem cats_append (l m : List ByteArray) : cats (l ++ m) = cats l ++ cats m := by simp [cats]
def ok (s : ByteArray) : Bool := fits s.size
theorem scan_cats (l : List ByteArray) (h : ∀ s ∈ l, ok s = true) (t : List UInt8) : scan (cats l ++ t) = (l.map (fun s => s.data.toList) ++ (scan t).1, (cats l).length + (scan t).2) := by
  induction l with
  | nil => simp [cats]
  | cons s l ih =>
    rw [cats_cons, List.append_assoc, scan_put _ _ (by have := h s (by simp); simpa [ok] using this), ih (fun x hx => h x (by simp [hx]))]
    simp only [List.map_cons, List.cons_append, List.length_append, put_length, Nat.add_assoc]
/-- A strict beginning of a record's bytes is none. -/
theorem first_cut (r : List UInt8) (m : Nat) (h : fits r.length = true) (hm : m < 8 + r.length) : first ((put r).take m) = none := by
  have hb := of_decide_eq_true h
  have hl : ((put r).take m).length = m := by rw [List.length_take, put_length]; omega
  unfold first
  by_cases h8 : m < 8
  · rw [if_pos (by rw [hl]; exact h8)]
  · have h4 : ((put r).take m).take 4 = b4 r.length := by
      rw [List.take_take, Nat.min_eq_left (by omega)]; simp [put, hd, b4]
    have hn : num (b4 r.length) = r.length := num_b4 _ (by omega)
    rw [if_neg (by rw [hl]; exact h8), h4, hn, hl, if_neg]
    simp
    omega
theorem first_short {l : List UInt8} (h : l.length ≤ 8) : first l = none := by
  unfold first
  split
  · rfl
  · rw [if_neg]
    simp only [Bool.and_eq_true, decide_eq_true_eq, not_and]
    intro hf
    have := (of_decide_eq_true hf).1
    omega
end Frm
end Go.Proofs.YtlhalhilnkneeaaGreatDoor
end
