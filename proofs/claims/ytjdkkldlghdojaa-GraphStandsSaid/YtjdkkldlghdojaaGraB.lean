/- What is below a node: plain words; the visit's walk. -/
import Derived.Test.YtjdkkldlghdojaaGraD2
namespace Go.Proofs.Ytjdkkldlghdojaa
open Go.RowKit
namespace Gra
open In (Ints IsInts)
/-- Needs lead from a node to another one. -/
inductive Rch (E : List (Int × Int)) (x : Int) : Int → Prop
  | one {y : Int} : (x, y) ∈ E → Rch E x y
  | next {y z : Int} : Rch E x y → (y, z) ∈ E → Rch E x z
theorem Rch.trans {E : List (Int × Int)} {x y z : Int} (h : Rch E x y) (k : Rch E y z) : Rch E x z := by
  induction k with
  | one e => exact .next h e
  | next _ e ih => exact .next ih e
theorem nds_mem {E : List (Int × Int)} {x y : Int} : y ∈ ndsF E x ↔ (x, y) ∈ E := by
  unfold ndsF
  rw [List.mem_map]
  constructor
  · rintro ⟨e, he, rfl⟩
    rw [List.mem_filter] at he
    have h1 : e.1 = x := by simpa using he.2
    rw [← h1]; exact he.1
  · intro h
    exact ⟨(x, y), List.mem_filter.2 ⟨h, by simp⟩, rfl⟩
open Classical in
/-- The nodes below a node, from the first on. -/
noncomputable def belTo (E : List (Int × Int)) (nd : Int) : Nat → List Int
  | 0 => []
  | k + 1 => if Rch E nd ((k + 1 : Nat) : Int) then belTo E nd k ++ [((k + 1 : Nat) : Int)] else belTo E nd k
theorem belTo_yes {E : List (Int × Int)} {nd : Int} {k : Nat} (h : Rch E nd ((k + 1 : Nat) : Int)) : belTo E nd (k + 1) = belTo E nd k ++ [((k + 1 : Nat) : Int)] := by rw [belTo, if_pos h]
theorem belTo_no {E : List (Int × Int)} {nd : Int} {k : Nat} (h : ¬ Rch E nd ((k + 1 : Nat) : Int)) : belTo E nd (k + 1) = belTo E nd k := by rw [belTo, if_neg h]
theorem belTo_mem (E : List (Int × Int)) (nd : Int) (k : Nat) (x : Int) : x ∈ belTo E nd k ↔ 1 ≤ x ∧ x ≤ (k : Int) ∧ Rch E nd x := by
  induction k with
  | zero => simp [belTo]; omega
  | succ k ih =>
    rw [belTo]
    split
    · rw [List.mem_append, ih, List.mem_singleton]
      constructor
      · rintro (h | rfl)
        · exact ⟨h.1, by omega, h.2.2⟩
        · exact ⟨by omega, by omega, ‹_›⟩
      · rintro ⟨a, b, c⟩
        by_cases e : x = ((k + 1 : Nat) : Int)
        · exact .inr e
        · exact .inl ⟨a, by omega, c⟩
    · rw [ih]
      constructor
      · rintro ⟨a, b, c⟩; exact ⟨a, by omega, c⟩
      · rintro ⟨a, b, c⟩
        refine ⟨a, ?_, c⟩
        by_cases e : x = ((k + 1 : Nat) : Int)
        · subst e; exact absurd c ‹_›
        · omega
theorem belTo_len (E : List (Int × Int)) (nd : Int) (k : Nat) : (belTo E nd k).length ≤ k := by
  induction k with
  | zero => simp [belTo]
  | succ k ih =>
    rw [belTo]
    split
    · rw [List.length_append, List.length_singleton]; omega
    · omega
open Classical in
noncomputable def belRes (n : Int) (l : List (Int × Int)) (nd : Int) : List Int × Int :=
  if Good n l ∧ 1 ≤ nd ∧ nd ≤ n then (belTo l nd n.toNat, 0) else ([], 1)
/-- What a visit does to the nodes that are seen. -/
structure Vst (E : List (Int × Int)) (x : Int) (S S' : Nat → Bool) : Prop where
  mono : ∀ i, S i = true → S' i = true
  sound : ∀ y : Nat, S' y = true → S y = true ∨ Rch E x (y : Int)
  top : ∀ y ∈ ndsF E x, S' y.toNat = true
  clos : ∀ y : Nat, S' y = true → S y = true ∨ ∀ z ∈ ndsF E (y : Int), S' z.toNat = true
/-- In the middle of a visit. -/
structure Vmid (E : List (Int × Int)) (x : Int) (S : Nat → Bool) (i : Nat) (S' : Nat → Bool) : Prop where
  mono : ∀ i, S i = true → S' i = true
  sound : ∀ y : Nat, S' y = true → S y = true ∨ Rch E x (y : Int)
  top : ∀ j, j < i → S' ((ndsF E x).getD j 0).toNat = true
  clos : ∀ y : Nat, S' y = true → S y = true ∨ ∀ z ∈ ndsF E (y : Int), S' z.toNat = true
theorem Vmid.start (E : List (Int × Int)) (x : Int) (S : Nat → Bool) : Vmid E x S 0 S :=
  ⟨fun _ h => h, fun _ h => .inl h, fun j hj => by omega, fun _ h => .inl h⟩
theorem Vmid.done {E : List (Int × Int)} {x : Int} {S S' : Nat → Bool} (h : Vmid E x S (ndsF E x).length S') : Vst E x S S' := by
  refine ⟨h.mono, h.sound, fun y hy => ?_, h.clos⟩
  obtain ⟨i, hi, rfl⟩ := List.getElem_of_mem hy
  have := h.top i hi
  rwa [List.getD_eq_getElem?_getD, List.getElem?_eq_getElem hi, Option.getD_some] at this
theorem Vmid.seen {E : List (Int × Int)} {x : Int} {S S' : Nat → Bool} {i : Nat} {y : Nat} (h : Vmid E x S i S') (hy : (ndsF E x).getD i 0 = (y : Int)) (hs : S' y = true) : Vmid E x S (i + 1) S' := by
  refine ⟨h.mono, h.sound, fun j hj => ?_, h.clos⟩
  by_cases e : j = i
  · subst e; rw [hy, Int.toNat_natCast]; exact hs
  · exact h.top j (by omega)
theorem Vmid.visit {E : List (Int × Int)} {x : Int} {S S' S'' : Nat → Bool} {i : Nat} {y : Nat} (h : Vmid E x S i S') (hi : i < (ndsF E x).length) (hy : (ndsF E x).getD i 0 = (y : Int))
    (hv : Vst E (y : Int) (fun j => if j = y then true else S' j) S'') : Vmid E x S (i + 1) S'' := by
  have hxy : Rch E x (y : Int) := .one (nds_mem.1 (by rw [← hy, List.getD_eq_getElem?_getD, List.getElem?_eq_getElem hi, Option.getD_some]; exact List.getElem_mem _))
  have m : ∀ j, S' j = true → S'' j = true := fun j hj => hv.mono j (by simp [hj])
  refine ⟨fun j hj => m j (h.mono j hj), fun z hz => ?_, fun j hj => ?_, fun z hz => ?_⟩
  · rcases hv.sound z hz with h1 | h1
    · by_cases e : z = y
      · subst e; exact .inr hxy
      · simp [e] at h1; exact h.sound z h1
    · exact .inr (hxy.trans h1)
  · by_cases e : j = i
    · subst e
      rw [hy, Int.toNat_natCast]
      exact hv.mono y (by simp)
    · exact m _ (h.top j (by omega))
  · rcases hv.clos z hz with h1 | h1
    · by_cases e : z = y
      · subst e; exact .inr hv.top
      · simp [e] at h1
        rcases h.clos z h1 with h2 | h2
        · exact .inl h2
        · exact .inr fun q hq => m _ (h2 q hq)
    · exact .inr h1
/-- How many nodes are not seen. -/
def un (S : Nat → Bool) : Nat := ((List.range 65).filter fun i => !S i).length
theorem filter_len_le {α : Type} (p q : α → Bool) (l : List α) (h : ∀ x ∈ l, p x = true → q x = true) : (l.filter p).length ≤ (l.filter q).length := by
  induction l with
  | nil => simp
  | cons a l ih =>
    have h2 := ih fun x hx => h x (List.mem_cons_of_mem _ hx)
    simp only [List.filter_cons]
    by_cases hp : p a = true
    · have hq := h a List.mem_cons_self hp
      rw [if_pos hp, if_pos hq]; simpa using h2
    · rw [if_neg hp]
      split
      · simp only [List.length_cons]; omega
      · exact h2
theorem filter_len_lt {α : Type} (p q : α → Bool) (l : List α) (h : ∀ x ∈ l, p x = true → q x = true) (a : α) (ha : a ∈ l) (h1 : q a = true) (h2 : p a = false) : (l.filter p).length < (l.filter q).length := by
  induction l with
  | nil => cases ha
  | cons b l ih =>
    have h3 := filter_len_le p q l fun x hx => h x (List.mem_cons_of_mem _ hx)
    simp only [List.filter_cons]
    rcases List.mem_cons.1 ha with e | e
    · subst e
      rw [if_neg (by rw [h2]; decide), if_pos h1]; simp only [List.length_cons]; omega
    · have h4 := ih (fun x hx => h x (List.mem_cons_of_mem _ hx)) e
      by_cases hp : p b = true
      · rw [if_pos hp, if_pos (h b List.mem_cons_self hp)]; simp only [List.length_cons]; omega
      · rw [if_neg hp]
        split
        · simp only [List.length_cons]; omega
        · exact h4
theorem un_mono {S S' : Nat → Bool} (h : ∀ i, S i = true → S' i = true) : un S' ≤ un S := by
  refine filter_len_le _ _ _ fun x _ hx => ?_
  cases e : S x with
  | false => rfl
  | true => rw [h x e] at hx; exact hx
theorem un_set {S : Nat → Bool} {y : Nat} (hy : y < 65) (h : S y = false) : un (fun j => if j = y then true else S j) < un S := by
  refine filter_len_lt _ _ _ (fun x _ hx => ?_) y (List.mem_range.2 hy) (by simp [h]) (by simp)
  by_cases e : x = y
  · subst e; simp [h]
  · simpa [e] using hx
theorem Vst.all {E : List (Int × Int)} {x : Int} {S' : Nat → Bool} (h : Vst E x (fun _ => false) S') (hn : ∀ e ∈ E, 0 ≤ e.2) (y : Nat) : S' y = true ↔ Rch E x (y : Int) := by
  constructor
  · intro hs
    rcases h.sound y hs with h1 | h1
    · cases h1
    · exact h1
  · intro hr
    have : ∀ z : Int, Rch E x z → S' z.toNat = true := by
      intro z hz
      induction hz with
      | one e => exact h.top _ (nds_mem.2 e)
      | @next p q hp e ih =>
        have hp0 : 0 ≤ p := by
          cases hp with
          | one e => exact hn _ e
          | next _ e => exact hn _ e
        rcases h.clos p.toNat ih with h1 | h1
        · cases h1
        · exact h1 q (by rw [show ((p.toNat : Nat) : Int) = p by omega]; exact nds_mem.2 e)
    have := this _ hr
    rwa [Int.toNat_natCast] at this
/-- The seen nodes in memory. -/
structure SeenW (W : World) (b : Nat) (S : Nat → Bool) (wr : World) : Prop where
  row : wr.rowIs b 45 65 (fun i => .bool (S i))
  grow : W.grownBy wr (some b)
theorem SeenW.set {W wr : World} {b : Nat} {S : Nat → Bool} (h : SeenW W b S wr) (y : Nat) : SeenW W b (fun j => if j = y then true else S j) (wr.setCell ⟨b, y, none⟩ (.bool true)) := by
  refine ⟨(h.row.set _ _).congr fun i hi => ?_, grw_trans h.grow (grw_set _ _ _ _)⟩
  by_cases e : i = y <;> simp [e]
theorem SeenW.drew {W wr : World} {b : Nat} {S : Nat → Bool} (h : SeenW W b S wr) : SeenW W b S wr.drew := ⟨h.row.drew, ⟨h.grow.os, h.grow.tape, h.grow.output, h.grow.size, h.grow.block⟩⟩
theorem SeenW.trans {W wr wx : World} {b : Nat} {S S' : Nat → Bool} (h : SeenW W b S wr) (k : SeenW wr b S' wx) : SeenW W b S' wx := ⟨k.row, grw_trans h.grow k.grow⟩
/-- What the visit needs of the world: the web's rows, and the three captured variables. -/
structure VisC (W : World) (g b8 b9 b10 : Nat) (N : Nat) (E : List (Int × Int)) : Prop where
  row : ∀ x : Nat, x ≤ 64 → ∃ a cap, W.cell? ⟨g, 1 + x, none⟩ = some (.slice a (ndsF E (x : Int)).length cap) ∧ Ints .i64 W a (ndsF E (x : Int)) ∧ ∀ b off, a = some ⟨b, off, none⟩ → b ≠ b9
  pw : W.cell? ⟨b8, 0, none⟩ = some (.pointer (some ⟨g, 0, none⟩))
  pv : W.cell? ⟨b10, 0, none⟩ = some (.func (.func 23) #[] #[.pointer (some ⟨b8, 0, none⟩), .pointer (some ⟨b9, 0, none⟩), .pointer (some ⟨b10, 0, none⟩)])
  ne : g ≠ b9 ∧ b8 ≠ b9 ∧ b10 ≠ b9
theorem VisC.seen {W wr : World} {g b8 b9 b10 N : Nat} {E : List (Int × Int)} (h : VisC W g b8 b9 b10 N E) (hg : W.grownBy wr (some b9)) : VisC wr g b8 b9 b10 N E := by
  refine ⟨fun x hx => ?_, hg.cell h.pw (fun e => h.ne.2.1 (by cases e; rfl)), hg.cell h.pv (fun e => h.ne.2.2 (by cases e; rfl)), h.ne⟩
  obtain ⟨a, cap, h1, h2, h3⟩ := h.row x hx
  refine ⟨a, cap, hg.cell h1 (fun e => h.ne.1 (by cases e; rfl)), fun i hi => ?_, h3⟩
  obtain ⟨b, off, ha, hb, hc⟩ := h2 i hi
  exact ⟨b, off, ha, Nat.lt_of_lt_of_le hb hg.size, hg.cell hc (fun e => h3 b off ha (by cases e; rfl))⟩
set_option maxRecDepth 100000 in
set_option maxHeartbeats 4000000 in
theorem visit_any (g b8 b9 b10 N : Nat) (E : List (Int × Int)) (hN : N ≤ 64) (hE : E.length ≤ 256) (hr : ∀ e ∈ E, (1 ≤ e.1 ∧ e.1 ≤ (N : Int)) ∧ (1 ≤ e.2 ∧ e.2 ≤ (N : Int))) (m : Nat) :
    ∀ (x : Nat) (S : Nat → Bool) (W : World), x ≤ 64 → un S ≤ m → VisC W g b8 b9 b10 N E → W.rowIs b9 45 65 (fun i => .bool (S i)) →
    Calls Try.prog 23 #[.int .i64 (x : Int), .pointer (some ⟨b8, 0, none⟩), .pointer (some ⟨b9, 0, none⟩), .pointer (some ⟨b10, 0, none⟩)] W fun e w' => e = .returned (.tuple #[]) ∧ ∃ S', Hid (Vst E (x : Int) S S') ∧ Hid (SeenW W b9 S' w') := by
  induction m using Nat.strongRecOn with
  | _ m ih =>
    intro x S W hx hu hV hS
    have IH := Lib.hid ih
    have HR := Lib.hid hr
    have HV := Lib.hid hV
    have HU := Lib.hid hu
    have HS0 : Hid (SeenW W b9 S W) := ⟨hS, grw_refl _ _⟩
    have HYL : Hid ((ndsF E (x : Int)).length ≤ 256) := Nat.le_trans (ndsF_len _ _) hE
    have HYR : Hid (∀ i, i < (ndsF E (x : Int)).length → 1 ≤ (ndsF E (x : Int)).getD i 0 ∧ (ndsF E (x : Int)).getD i 0 ≤ (N : Int)) := fun i hi => nds_in hr hi
    obtain ⟨a, cap, hc1, _, _⟩ := hV.row x hx
    have hpw := hV.pw
    have hx1 : (0 : Int) ≤ (x : Int) := by omega
    have hx2 : (x : Int) < 65 := by omega
    have hyl : ((ndsF E (x : Int)).length : Int) < 257 := by have := HYL.out; omega
    clear ih hr hV hS hu
    go_enter Try.func23, Try.ntmps23
    go_wp2
    go_loopw [14] (fun v14 wr => ∃ (i : Nat) (S1 : Nat → Bool), i ≤ (ndsF E (x : Int)).length ∧ v14 = .int .i64 i ∧ Hid (Vmid E (x : Int) S i S1) ∧ Hid (SeenW W b9 S1 wr)) (fun v14 _ => (ndsF E (x : Int)).length - (intOf v14).toNat)
    case atStart => exact ⟨0, S, by omega, rfl, Vmid.start _ _ _, HS0⟩
    case round =>
      obtain ⟨i, S1, hi, rfl, HM, HS⟩ := hrel
      have HVr := Lib.hid (HV.out.seen HS.out.grow)
      by_cases hlt : i < (ndsF E (x : Int)).length
      · obtain ⟨a', cap', hc1', hints, _⟩ := HVr.out.row x hx
        have e1 : a' = a ∧ cap' = cap := by
          have h0 := HS.out.grow.cell hc1 (fun e => HV.out.ne.1 (by cases e; rfl))
          rw [h0] at hc1'
          simp at hc1'
          exact ⟨hc1'.1.symm, hc1'.2.symm⟩
        obtain ⟨rfl, rfl⟩ := e1
        obtain ⟨b, off, ea, hb, c0⟩ := hints i hlt
        rw [ea]
        replace ea := Lib.hid ea
        have hy := HYR.out i hlt
        obtain ⟨Y, hY⟩ : ∃ Y : Nat, Hid ((ndsF E (x : Int)).getD i 0 = (Y : Int)) := ⟨((ndsF E (x : Int)).getD i 0).toNat, by show _ = _; omega⟩
        rw [hY.out] at c0 hy
        have hlt1 : (i : Int) < ((ndsF E (x : Int)).length : Int) := by omega
        have hi0 : (0 : Int) ≤ (i : Int) := by omega
        have hY0 : (0 : Int) ≤ (Y : Int) := by omega
        have hY1 : (Y : Int) < 65 := by omega
        have hY2 : Y ≤ 64 := by omega
        have cs := HS.out.row.cell (i := Y) (by omega)
        have fs := HS.out.row.frozen Y
        have HMS : Hid (S1 Y = true → Vmid E (x : Int) S (i + 1) S1) := fun h => HM.out.seen hY.out h
        have HMV : Hid (∀ S2, Vst E (Y : Int) (fun j => if j = Y then true else S1 j) S2 → Vmid E (x : Int) S (i + 1) S2) := fun S2 h => HM.out.visit hlt hY.out h
        have HUN : Hid (S1 Y = false → un (fun j => if j = Y then true else S1 j) < m) := fun h => by
          have h1 := un_set (show Y < 65 by omega) h
          have h2 := un_mono HM.out.mono
          have h3 := HU.out
          show _ < _
          omega
        have hpv := HVr.out.pv
        clear hc1' hints hc1 hpw hy hx2
        cases hb1 : S1 Y with
        | true =>
          rw [hb1] at cs
          have HM2 := Lib.hid (HMS.out hb1)
          replace hb1 := Lib.hid hb1
          go_wp2
          go_roundw
          case rel => exact ⟨i + 1, S1, hlt, by go_num, HM2, HS⟩
          case measure => simp [intOf]; omega
        | false =>
          rw [hb1] at cs
          have HU2 := Lib.hid (HUN.out hb1)
          replace hb1 := Lib.hid hb1
          have HSs := Lib.hid (HS.out.set Y)
          have CV : Hid (∀ W', VisC W' g b8 b9 b10 N E → W'.rowIs b9 45 65 (fun i => .bool ((fun j => if j = Y then true else S1 j) i)) → _) := fun W' h1 h2 => IH.out _ HU2.out Y (fun j => if j = Y then true else S1 j) W' hY2 (Nat.le_refl _) h1 h2
          have hpv2 := (HV.out.seen HSs.out.grow).pv
          go_wp2_with (go_at_call 23; ((with_reducible refine (CV.out _ ?_ ?_).mono ?_); (exact HV.out.seen HSs.out.grow); (exact HSs.out.row); rintro e w1 ⟨rfl, S2, hvs, hsw⟩; have HM2 := Lib.hid (HMV.out S2 hvs.out); have HS2 := Lib.hid (HSs.out.trans hsw.out); clear hvs hsw))
          go_roundw
          case rel => exact ⟨i + 1, S2, hlt, by go_num, HM2, HS2⟩
          case measure => simp [intOf]; omega
      · have hie : i = (ndsF E (x : Int)).length := by omega
        have hge : ¬ (i : Int) < ((ndsF E (x : Int)).length : Int) := by omega
        rw [hie] at HM
        have HM2 := Lib.hid HM.out.done
        clear hlt hie
        go_wp2
        go_end0
        exact ⟨rfl, S1, HM2, HS⟩
end Gra
end Go.Proofs.Ytjdkkldlghdojaa
