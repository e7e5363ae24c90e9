/- Replies as words: unlike replies have unlike words. -/
import Derived.Test.YtmaddebfoefckaaDoorRepP
set_option linter.unusedSimpArgs false
set_option linter.unusedVariables false
namespace Go.Proofs.YtmaddebfoefckaaDoor
open Go.RowKit
namespace Rep
open Go.Lib (decDigits itoa)
/-- The errors' words. -/
def wdL : List (List UInt8) := [[111, 107], [97, 114, 103], [98, 97, 100], [110, 111, 110, 101], [102, 117, 108, 108], [111, 118, 101, 114], [102, 117, 110, 100, 115], [105, 116, 101, 109, 115], [114, 111, 108, 101], [115, 116, 97, 116, 101], [115, 108, 111, 116, 115], [114, 117, 110, 115], [98, 117, 115, 121], [99, 108, 111, 99, 107], [100, 101, 97, 100]]
def word (e : Int) : List UInt8 := wdL.getD e.toNat []
/-- The numbers' names. -/
def nmId : List UInt8 := [105, 100]
def nmN : List UInt8 := [110]
def nmSt : List UInt8 := [115, 116, 97, 116, 101]
def nmTi : List UInt8 := [116, 105, 109, 101]
/-- A number as words. -/
def part (nm : List UInt8) (x : Int) : List UInt8 := if x = 0 then [] else 32 :: (nm ++ 61 :: itoa x)
def okT (r : RepIn) : List UInt8 := [111, 107] ++ (part nmId r.id ++ (part nmN r.n ++ (part nmSt r.st ++ part nmTi r.ti)))
/-- A reply as words. -/
def textV (r : RepIn) : List UInt8 := if May r then (if r.err = 0 then okT r else word r.err) else [63]
theorem dig_byte (k : Nat) (h : k < 10) : (UInt8.ofNat (48 + k)).toNat = 48 + k := by
  rw [UInt8.toNat_ofNat']
  omega
theorem dig_range (u : Nat) : ∀ c ∈ decDigits u, 48 ≤ c.toNat ∧ c.toNat ≤ 57 := by
  induction u using Nat.strongRecOn with
  | _ u ih =>
    intro c hc
    rw [decDigits] at hc
    split at hc
    · rename_i h
      rw [List.mem_singleton] at hc
      rw [hc, dig_byte u h]
      omega
    · rename_i h
      rcases List.mem_append.1 hc with hc | hc
      · exact ih (u / 10) (by omega) c hc
      · rw [List.mem_singleton] at hc
        rw [hc, dig_byte (u % 10) (by omega)]
        omega
/-- What a numeral tells. -/
def valD (l : List UInt8) : Nat := l.foldl (fun a c => a * 10 + (c.toNat - 48)) 0
theorem val_dig (u : Nat) : valD (decDigits u) = u := by
  induction u using Nat.strongRecOn with
  | _ u ih =>
    rw [decDigits]
    split
    · rename_i h
      simp only [valD, List.foldl_cons, List.foldl_nil]
      rw [dig_byte u h]
      omega
    · rename_i h
      have h1 := ih (u / 10) (by omega)
      unfold valD at h1 ⊢
      rw [List.foldl_append, h1]
      simp only [List.foldl_cons, List.foldl_nil]
      rw [dig_byte (u % 10) (by omega)]
      omega
theorem dig_inj {u v : Nat} (h : decDigits u = decDigits v) : u = v := by rw [← val_dig u, h, val_dig]
theorem dig_ne (u : Nat) : decDigits u ≠ [] := by
  rw [decDigits]
  split
  · exact List.cons_ne_nil _ _
  · exact List.append_ne_nil_of_right_ne_nil _ (List.cons_ne_nil _ _)
theorem itoa_no (x : Int) : ∀ c ∈ itoa x, c ≠ 32 := by
  intro c hc
  unfold itoa at hc
  split at hc
  · rcases List.mem_cons.1 hc with rfl | hc
    · decide
    · have := dig_range _ c hc
      rintro rfl
      revert this
      decide
  · have := dig_range _ c hc
    rintro rfl
    revert this
    decide
theorem itoa_inj {x y : Int} (h : itoa x = itoa y) : x = y := by
  unfold itoa at h
  have no : ∀ u v : Nat, 45 :: decDigits u ≠ decDigits v := fun u v e => by
    have := dig_range v 45 (by rw [← e]; exact List.mem_cons_self ..)
    revert this
    decide
  split at h
  · split at h
    · have := dig_inj (List.cons.inj h).2
      omega
    · exact absurd h (no _ _)
  · split at h
    · exact absurd h.symm (no _ _)
    · have := dig_inj h
      omega
/-- What goes on behind a word begins with a blank and one of some letters. -/
def Starts (S : List UInt8) (R : List UInt8) : Prop := R = [] ∨ ∃ d l, R = 32 :: d :: l ∧ d ∈ S
theorem cut : ∀ (p q R R' : List UInt8) (S S' : List UInt8), (∀ c ∈ p, c ≠ 32) → (∀ c ∈ q, c ≠ 32) → Starts S R → Starts S' R' → p ++ R = q ++ R' → p = q ∧ R = R'
  | [], [], R, R', S, S', hp, hq, hR, hR', h => ⟨rfl, h⟩
  | [], b :: q, R, R', S, S', hp, hq, hR, hR', h => by
    rcases hR with rfl | ⟨d, l, rfl, -⟩
    · cases h
    · have := (List.cons.inj h).1
      exact absurd this.symm (hq b (List.mem_cons_self ..))
  | a :: p, [], R, R', S, S', hp, hq, hR, hR', h => by
    rcases hR' with rfl | ⟨d, l, rfl, -⟩
    · cases h
    · have := (List.cons.inj h).1
      exact absurd this (hp a (List.mem_cons_self ..))
  | a :: p, b :: q, R, R', S, S', hp, hq, hR, hR', h => by
    obtain ⟨h1, h2⟩ := List.cons.inj h
    obtain ⟨h3, h4⟩ := cut p q R R' S S' (fun c hc => hp c (List.mem_cons_of_mem _ hc)) (fun c hc => hq c (List.mem_cons_of_mem _ hc)) hR hR' h2
    exact ⟨by rw [h1, h3], h4⟩
theorem part_starts {S R : List UInt8} (c : UInt8) (nm : List UInt8) (x : Int) (h : Starts S R) : Starts (c :: S) (part (c :: nm) x ++ R) := by
  unfold part
  split
  · rcases h with rfl | ⟨d, l, rfl, hd⟩
    · exact Or.inl rfl
    · exact Or.inr ⟨d, l, rfl, List.mem_cons_of_mem _ hd⟩
  · exact Or.inr ⟨c, _, rfl, List.mem_cons_self ..⟩
theorem part_step {S R R' : List UInt8} {c : UInt8} {nm : List UInt8} {x y : Int} (hc : c ∉ S) (hR : Starts S R) (hR' : Starts S R') (h : part (c :: nm) x ++ R = part (c :: nm) y ++ R') : x = y ∧ R = R' := by
  have no : ∀ (z : Int) (T T' : List UInt8), Starts S T → T ≠ 32 :: ((c :: nm) ++ 61 :: itoa z) ++ T' := by
    intro z T T' hT e
    rcases hT with rfl | ⟨d, l, rfl, hd⟩
    · cases e
    · have := (List.cons.inj (List.cons.inj e).2).1
      exact hc (this ▸ hd)
  unfold part at h
  split at h
  · rename_i hx
    split at h
    · rename_i hy
      exact ⟨by rw [hx, hy], h⟩
    · exact absurd h (no _ _ _ hR)
  · split at h
    · exact absurd h.symm (no _ _ _ hR')
    · have h1 : (c :: nm ++ 61 :: itoa x) ++ R = (c :: nm ++ 61 :: itoa y) ++ R' := (List.cons.inj h).2
      rw [List.append_assoc, List.append_assoc] at h1
      have h2 := List.append_cancel_left h1
      have h3 := (List.cons.inj h2).2
      obtain ⟨h4, h5⟩ := cut _ _ _ _ _ _ (itoa_no x) (itoa_no y) hR hR' h3
      exact ⟨itoa_inj h4, h5⟩
theorem okT_inj {a b : RepIn} (h : okT a = okT b) : a.id = b.id ∧ a.n = b.n ∧ a.st = b.st ∧ a.ti = b.ti := by
  unfold okT at h
  have h0 := List.append_cancel_left h
  have t4 : ∀ r : RepIn, Starts [116] (part nmTi r.ti ++ []) := fun r => part_starts 116 _ r.ti (Or.inl rfl)
  have t3 : ∀ r : RepIn, Starts [115, 116] (part nmSt r.st ++ (part nmTi r.ti ++ [])) := fun r => part_starts 115 _ r.st (t4 r)
  have t2 : ∀ r : RepIn, Starts [110, 115, 116] (part nmN r.n ++ (part nmSt r.st ++ (part nmTi r.ti ++ []))) := fun r => part_starts 110 _ r.n (t3 r)
  have h0' : part nmId a.id ++ (part nmN a.n ++ (part nmSt a.st ++ (part nmTi a.ti ++ []))) = part nmId b.id ++ (part nmN b.n ++ (part nmSt b.st ++ (part nmTi b.ti ++ []))) := by
    rw [List.append_nil, List.append_nil]
    exact h0
  obtain ⟨e1, h1⟩ := part_step (by decide) (t2 a) (t2 b) h0'
  obtain ⟨e2, h2⟩ := part_step (by decide) (t3 a) (t3 b) h1
  obtain ⟨e3, h3⟩ := part_step (by decide) (t4 a) (t4 b) h2
  obtain ⟨e4, -⟩ := part_step (S := []) (by decide) (Or.inl rfl) (Or.inl rfl) h3
  exact ⟨e1, e2, e3, e4⟩
theorem okT_starts (r : RepIn) : ∃ R, okT r = [111, 107] ++ R ∧ Starts [105, 110, 115, 116] R := by
  refine ⟨_, rfl, ?_⟩
  have t4 : Starts [116] (part nmTi r.ti ++ []) := part_starts 116 _ r.ti (Or.inl rfl)
  rw [List.append_nil] at t4
  exact part_starts 105 _ r.id (part_starts 110 _ r.n (part_starts 115 _ r.st t4))
theorem word_no : ∀ k, k < 15 → ∀ c ∈ wdL.getD k [], c ≠ 32 := by decide +kernel
theorem word_ok : ∀ k, k < 15 → wdL.getD k [] = [111, 107] → k = 0 := by decide +kernel
theorem word_apart : ∀ j, j < 15 → ∀ k, k < 15 → wdL.getD j [] = wdL.getD k [] → j = k := by decide +kernel
theorem word_okT (r : RepIn) (k : Nat) (hk : k < 15) (h : okT r = wdL.getD k []) : k = 0 := by
  obtain ⟨R, e, hR⟩ := okT_starts r
  rw [e, ← List.append_nil (wdL.getD k [])] at h
  obtain ⟨h1, -⟩ := cut _ _ _ _ _ [] (by decide) (word_no k hk) hR (Or.inl rfl) h
  exact word_ok k hk h1.symm
/-- Unlike replies have unlike words. -/
theorem text_inj {a b : RepIn} (ha : May a) (hb : May b) (h : textV a = textV b) : a = b := by
  unfold textV at h
  rw [if_pos ha, if_pos hb] at h
  obtain ⟨a0, a1, a2⟩ := ha
  obtain ⟨b0, b1, b2⟩ := hb
  have ka : a.err.toNat < 15 := by omega
  have kb : b.err.toNat < 15 := by omega
  split at h
  · rename_i ea
    split at h
    · rename_i eb
      obtain ⟨h1, h2, h3, h4⟩ := okT_inj h
      cases a
      cases b
      dsimp only at ea eb h1 h2 h3 h4
      rw [ea, eb, h1, h2, h3, h4]
    · rename_i eb
      have := word_okT a b.err.toNat kb h
      omega
  · rename_i ea
    split at h
    · rename_i eb
      have := word_okT b a.err.toNat ka h.symm
      omega
    · rename_i eb
      have e := word_apart _ ka _ kb h
      rw [a2.resolve_left ea, b2.resolve_left eb, show a.err = b.err by omega]
end Rep
end Go.Proofs.YtmaddebfoefckaaDoor
