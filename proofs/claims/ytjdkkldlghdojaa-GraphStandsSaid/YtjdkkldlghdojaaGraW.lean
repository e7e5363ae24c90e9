/- The web of nodes and needs in memory. -/
import Derived.Test.YtjdkkldlghdojaaGraA
import Derived.Deep.OwnRows
import Derived.Deep.RegionHeld3
import Derived.Deep.DeepCutAuto
import Derived.Deep.QuietTactic
namespace Go.Proofs.Ytjdkkldlghdojaa
open Go.RowKit
namespace Gra
/-- The pairs that stand from an address on. -/
def Prs (w : World) (a : Option Addr) (l : List (Int × Int)) : Prop :=
  ∀ i, i < l.length → ∃ b off, a = some ⟨b, off, none⟩ ∧ b < w.heap.size ∧ w.cell? ⟨b, off + i * 2, none⟩ = some (.int .i64 (l.getD i (0, 0)).1) ∧ w.cell? ⟨b, off + i * 2 + 1, none⟩ = some (.int .i64 (l.getD i (0, 0)).2)
theorem Prs.below {w w' : World} {a : Option Addr} {l : List (Int × Int)} (h : Prs w a l) (hb : Below w.heap.size w w') : Prs w' a l := fun i hi => by
  obtain ⟨b, off, ha, hlt, hc, hd⟩ := h i hi
  exact ⟨b, off, ha, Nat.lt_of_lt_of_le hlt hb.size, (hb.cell (p := ⟨b, off + i * 2, none⟩) hlt).trans hc, (hb.cell (p := ⟨b, off + i * 2 + 1, none⟩) hlt).trans hd⟩
theorem below2 {w a b : World} (h : Below w.heap.size w a) (h2 : Below a.heap.size a b) : Below w.heap.size w b := h.trans (h2.mono h.size)
theorem below_al {w x : World} (h : Below w.heap.size w x) (o : Obj) : Below w.heap.size w (x.alloc o) := h.alloc h.size o
theorem frz_al (w : World) (o : Obj) (a : Addr) (h : a.block < w.heap.size) : (w.alloc o).drew.frozen? a = w.frozen? a := ((Below.refl w.heap.size w).alloc (Nat.le_refl _) o).drew.frozen h
/-- What a cell holds, in whatever world. -/
def vl (a : Addr) (w : World) : Value := (w.cell? a).getD (.int .i64 0)
theorem vl_eq {a : Addr} {w : World} {v : Value} (h : w.cell? a = some v) : vl a w = v := by unfold vl; rw [h]; rfl
theorem vl_some {a : Addr} {w : World} {v : Value} (h : w.cell? a = some v) : w.cell? a = some (vl a w) := by unfold vl; rw [h]; rfl
theorem cell_ad {w : World} (o : Obj) (a : Addr) (h : a.block < w.heap.size) : (w.alloc o).drew.cell? a = w.cell? a := ((Below.refl w.heap.size w).alloc (Nat.le_refl _) o).drew.cell h
def inW (x n : Int) : Bool := decide (1 ≤ x) && decide (x ≤ n)
theorem inW_yes {x n : Int} (h : inW x n = true) : 1 ≤ x ∧ x ≤ n := by
  unfold inW at h
  rw [Bool.and_eq_true] at h
  exact ⟨of_decide_eq_true h.1, of_decide_eq_true h.2⟩
theorem inW_no {x n : Int} (h : inW x n = false) : ¬ (1 ≤ x ∧ x ≤ n) := fun ⟨h1, h2⟩ => by
  unfold inW at h
  rw [decide_eq_true h1, decide_eq_true h2] at h
  cases h
theorem is_any (g : Nat) (n x : Int) (w : World) (hc : w.cell? ⟨g, 0, none⟩ = some (.int .i64 n)) :
    Calls Try.prog 18 #[.pointer (some ⟨g, 0, none⟩), .int .i64 x] w fun e w' => e = .returned (.bool (inW x n)) ∧ w = w' := by
  have HS : Hid (inW x n = (decide (1 ≤ x) && decide (x ≤ n))) := rfl
  by_cases h1 : 1 ≤ x
  · have d1 : decide (1 ≤ x) = true := decide_eq_true h1
    by_cases h2 : x ≤ n
    · have d2 : decide (x ≤ n) = true := decide_eq_true h2
      have HV : Hid (inW x n = true) := by show _ = _; rw [HS.out, d1, d2]; rfl
      go_enter Try.func18, Try.ntmps18
      go_wp2
      go_ret
      exact ⟨by rw [HV.out]; rfl, rfl⟩
    · have d2 : decide (x ≤ n) = false := decide_eq_false h2
      have HV : Hid (inW x n = false) := by show _ = _; rw [HS.out, d1, d2]; rfl
      go_enter Try.func18, Try.ntmps18
      go_wp2
      go_ret
      exact ⟨by rw [HV.out]; rfl, rfl⟩
  · have d1 : decide (1 ≤ x) = false := decide_eq_false h1
    have HV : Hid (inW x n = false) := by show _ = _; rw [HS.out, d1]; rfl
    go_enter Try.func18, Try.ntmps18
    go_wp2
    go_ret
    exact ⟨by rw [HV.out]; rfl, rfl⟩
def isRow (i : Nat) : Prop := (1 ≤ i ∧ i ≤ 65) ∨ (131 ≤ i ∧ i ≤ 195)
/-- A web: its number of nodes, its rows (what each node needs from cell 1 on, by whom it is needed from cell 131 on), its open needs (from cell 66 on). -/
structure Web (w : World) (B g : Nat) (n : Int) (R : Nat → List Int) (O : Nat → Int) (C : Nat → Value) : Prop where
  row : w.rowIs g 48 196 C
  lo : B ≤ g
  c0 : C 0 = .int .i64 n
  cO : ∀ x, x ≤ 64 → C (66 + x) = .int .i64 (O x)
  own : ∀ i, isRow i → w.ownsRow B 3 1 (C i) (R i).length ((R i).map (Value.int .i64))
  ne : ∀ i, isRow i → (C i).ownBlock ≠ some g
  ap : ∀ i j, isRow i → isRow j → i ≠ j → Own.Apart (C i) (C j)
namespace Web
variable {w w' : World} {B g : Nat} {n : Int} {R : Nat → List Int} {O : Nat → Int} {C : Nat → Value}
theorem below (h : Web w B g n R O C) (hb : Below w.heap.size w w') : Web w' B g n R O C :=
  ⟨h.row.of_block (hb.block g h.row.lt), h.lo, h.c0, h.cO, fun i hi => Own.own_below (h.own i hi) hb, h.ne, h.ap⟩
theorem alloc (h : Web w B g n R O C) (o : Obj) : Web (w.alloc o) B g n R O C := h.below ((Below.refl _ _).alloc (Nat.le_refl _) o)
theorem drew (h : Web w B g n R O C) : Web w.drew B g n R O C := h.below (Below.refl _ _).drew
/-- A row that grew by one, put back into its cell. -/
theorem push (h : Web w B g n R O C) {w1 : World} {i : Nat} (hi : isRow i) {x : Int} {g' cap H : Nat} (hg : w.grownBy w1 (C i).ownBlock) (hH : w.heap.size = H)
    (ho : w1.ownsRow B 3 1 (.slice (some ⟨g', 0, none⟩) ((R i).length + 1) cap) ((R i).length + 1) ((R i).map (Value.int .i64) ++ [.int .i64 x])) (hat : (C i).ownBlock = some g' ∨ g' = H)
    {R' : Nat → List Int} (hR : R' i = R i ++ [x]) (hR2 : ∀ j, isRow j → j ≠ i → R' j = R j) :
    Web (w1.setCell ⟨g, i, none⟩ (.slice (some ⟨g', 0, none⟩) ((R i).length + 1) cap)) B g n R' O (fun j => if j = i then .slice (some ⟨g', 0, none⟩) ((R i).length + 1) cap else C j) := by
  have hgl := h.row.lt
  have hng : g' ≠ g := by
    rcases hat with e | e
    · intro e2; subst e2; exact h.ne i hi e
    · omega
  have hr1 : w1.rowIs g 48 196 C := h.row.of_block (hg.block g hgl (fun e => h.ne i hi e.symm))
  have hl : (R' i).length = (R i).length + 1 := by rw [hR, List.length_append]; rfl
  refine ⟨hr1.set i _, h.lo, ?_, fun x hx => ?_, fun j hj => ?_, fun j hj => ?_, fun j k hj hk hjk => ?_⟩
  · show (if 0 = i then _ else C 0) = _
    rw [if_neg (by unfold isRow at hi; omega)]; exact h.c0
  · show (if 66 + x = i then _ else C (66 + x)) = _
    rw [if_neg (by unfold isRow at hi; omega)]; exact h.cO x hx
  · show World.ownsRow _ _ _ _ (if j = i then _ else C j) _ _
    by_cases e : j = i
    · subst e
      rw [if_pos rfl, hl, hR, List.map_append]
      exact ownsRow_setCell_other ho (by show some g' ≠ some g; simpa using hng) _
    · rw [if_neg e, hR2 j hj e]
      have h1 := Own.Apart.kept (h.ap j i hj hi e) (h.own j hj) hg
      exact ownsRow_setCell_other h1 (h.ne j hj) _
  · show (if j = i then _ else C j).ownBlock ≠ _
    by_cases e : j = i
    · rw [if_pos e]; show some g' ≠ some g; simpa using hng
    · rw [if_neg e]; exact h.ne j hj
  · show Own.Apart (if j = i then _ else C j) (if k = i then _ else C k)
    have lt : ∀ j, isRow j → ∀ q, (C j).ownBlock = some q → q < H := fun j hj q hq => by rw [← hH]; exact ((h.own j hj).lt q hq).2
    by_cases e : j = i
    · subst e
      rw [if_pos rfl, if_neg (fun e => hjk e.symm)]
      exact (h.ap j k hj hk hjk).left hat (lt k hk)
    · rw [if_neg e]
      by_cases e2 : k = i
      · subst e2
        rw [if_pos rfl]
        exact (h.ap j k hj hk hjk).right hat (lt j hj)
      · rw [if_neg e2]; exact h.ap j k hj hk hjk
/-- Another number of open needs. -/
theorem setO (h : Web w B g n R O C) (x : Nat) (hx : x ≤ 64) (v : Int) : Web (w.setCell ⟨g, 66 + x, none⟩ (.int .i64 v)) B g n R (fun y => if y = x then v else O y) (fun j => if j = 66 + x then .int .i64 v else C j) := by
  have nr : ∀ j, isRow j → j ≠ 66 + x := fun j hj e => by unfold isRow at hj; omega
  refine ⟨h.row.set _ _, h.lo, ?_, fun y hy => ?_, fun j hj => ?_, fun j hj => ?_, fun j k hj hk hjk => ?_⟩
  · show (if 0 = 66 + x then _ else C 0) = _
    rw [if_neg (by omega)]; exact h.c0
  · show (if 66 + y = 66 + x then _ else C (66 + y)) = .int .i64 (if y = x then v else O y)
    by_cases e : y = x
    · rw [if_pos (by omega), if_pos e]
    · rw [if_neg (by omega), if_neg e]; exact h.cO y hy
  · show World.ownsRow _ _ _ _ (if j = 66 + x then _ else C j) _ _
    rw [if_neg (nr j hj)]
    exact ownsRow_setCell_other (h.own j hj) (h.ne j hj) _
  · show (if j = 66 + x then _ else C j).ownBlock ≠ _
    rw [if_neg (nr j hj)]; exact h.ne j hj
  · show Own.Apart (if j = 66 + x then _ else C j) (if k = 66 + x then _ else C k)
    rw [if_neg (nr j hj), if_neg (nr k hk)]; exact h.ap j k hj hk hjk
theorem cell (h : Web w B g n R O C) {i : Nat} (hi : i < 196) : w.cell? ⟨g, i, none⟩ = some (C i) := h.row.cell hi
theorem cell0 (h : Web w B g n R O C) : w.cell? ⟨g, 0, none⟩ = some (.int .i64 n) := by rw [h.cell (by decide), h.c0]
theorem congr (h : Web w B g n R O C) {R' : Nat → List Int} {O' : Nat → Int} (hR : ∀ i, isRow i → R' i = R i) (hO : ∀ x, x ≤ 64 → O' x = O x) : Web w B g n R' O' C :=
  ⟨h.row, h.lo, h.c0, fun x hx => by rw [hO x hx]; exact h.cO x hx, fun i hi => by rw [hR i hi]; exact h.own i hi, h.ne, h.ap⟩
end Web
theorem push_step {W1 w2 : World} {B g i gg cap : Nat} {n x : Int} {R : Nat → List Int} {O : Nat → Int} {C : Nat → Value} {o : Obj} {V : Value} (h : Web W1 B g n R O C) (hr : isRow i) (hV : C i = V) (hg : (W1.alloc o).drew.grownBy w2 V.ownBlock)
    (ho : w2.ownsRow B 3 1 (.slice (some ⟨gg, 0, none⟩) ((R i).length + 1) cap) ((R i).length + 1) ((R i).map (Value.int .i64) ++ [.int .i64 x])) (hat : V.ownBlock = some gg ∨ gg = W1.heap.size + 1) :
    ∃ C2, Web (w2.setCell ⟨g, i, none⟩ (.slice (some ⟨gg, 0, none⟩) ((R i).length + 1) cap)) B g n (fun j => if j = i then R j ++ [x] else R j) O C2 ∧ ∀ j, j ≠ i → C2 j = C j := by
  subst hV
  exact ⟨_, ((h.alloc o).drew).push hr (H := W1.heap.size + 1) hg (by simp) ho hat (by rw [if_pos rfl]) (fun j _ hj => by rw [if_neg hj]), fun j hj => by rw [if_neg hj]⟩
theorem push_below {w W1 w2 : World} {V : Value} {m : Nat} {xs : List Value} {o : Obj} (hB : Below w.heap.size w W1) (ho : W1.ownsRow w.heap.size 3 1 V m xs) (hg : (W1.alloc o).drew.grownBy w2 V.ownBlock) : Below w.heap.size w w2 :=
  ((below_al hB o).drew).grown hg (below_al hB o).size (Own.own_block ho (Nat.le_refl _))
theorem push_cell {W1 w2 : World} {V : Value} {G i : Nat} {v : Value} {o : Obj} (hG : G < W1.heap.size) (hc : W1.cell? ⟨G, i, none⟩ = some v) (hg : (W1.alloc o).drew.grownBy w2 V.ownBlock) (hne : V.ownBlock ≠ some G) : w2.cell? ⟨G, i, none⟩ = some v :=
  (hg.cell_far ⟨G, i, none⟩ (by simp; omega) (Ne.symm hne)).trans ((cell_ad _ ⟨G, i, none⟩ hG).trans hc)
theorem push_frozen {W1 w2 : World} {V : Value} {G i : Nat} {o : Obj} (hG : G < W1.heap.size) (hc : W1.frozen? ⟨G, i, none⟩ = false) (hg : (W1.alloc o).drew.grownBy w2 V.ownBlock) (hne : V.ownBlock ≠ some G) : w2.frozen? ⟨G, i, none⟩ = false :=
  (hg.frozen_far ⟨G, i, none⟩ (by simp; omega) (Ne.symm hne)).trans ((frz_al W1 _ ⟨G, i, none⟩ hG).trans hc)
/-- In the middle of a round of `made`. -/
def Mid (w : World) (n : Int) (R : Nat → List Int) (O : Nat → Int) (q G X Y : Nat) (wx : World) : Prop :=
  ∃ C, Web wx w.heap.size w.heap.size n R O C ∧ (isRow q → (C q).ownBlock ≠ some G) ∧ Below w.heap.size w wx ∧ G < wx.heap.size ∧ wx.cell? ⟨G, 0, none⟩ = some (.int .i64 (X : Int)) ∧ wx.cell? ⟨G, 1, none⟩ = some (.int .i64 (Y : Int))
theorem mid_step {w W1 w2 : World} {i gg cap q G X Y : Nat} {n x : Int} {R : Nat → List Int} {O : Nat → Int} {C : Nat → Value} {o : Obj} {V : Value} (h : Web W1 w.heap.size w.heap.size n R O C) (hr : isRow i) (hV : C i = V) (hq : q ≠ i) (hCq : isRow q → (C q).ownBlock ≠ some G) (hB : Below w.heap.size w W1)
    (ho1 : W1.ownsRow w.heap.size 3 1 V (R i).length ((R i).map (Value.int .i64)))
    (hg : (W1.alloc o).drew.grownBy w2 V.ownBlock)
    (ho : w2.ownsRow w.heap.size 3 1 (.slice (some ⟨gg, 0, none⟩) ((R i).length + 1) cap) ((R i).length + 1) ((R i).map (Value.int .i64) ++ [.int .i64 x])) (hat : V.ownBlock = some gg ∨ gg = W1.heap.size + 1)
    (hG : G < W1.heap.size) (hne : w.heap.size ≠ G) (k0 : w2.cell? ⟨G, 0, none⟩ = some (.int .i64 (X : Int))) (k1 : w2.cell? ⟨G, 1, none⟩ = some (.int .i64 (Y : Int))) :
    Mid w n (fun j => if j = i then R j ++ [x] else R j) O q G X Y (w2.setCell ⟨w.heap.size, i, none⟩ (.slice (some ⟨gg, 0, none⟩) ((R i).length + 1) cap)) := by
  obtain ⟨C2, h1, h2⟩ := push_step h hr hV hg ho hat
  refine ⟨C2, h1, fun hqr => by rw [h2 q hq]; exact hCq hqr, (push_below hB ho1 hg).setCell (Nat.le_refl _) _, ?_, ?_, ?_⟩
  · have := hg.size
    simp at this
    simp [World.setCell]
    omega
  · exact (World.cell?_setCell_other _ _ _ _ (by intro e; cases e; exact hne rfl)).trans k0
  · exact (World.cell?_setCell_other _ _ _ _ (by intro e; cases e; exact hne rfl)).trans k1
theorem wrapEq (x : Int) : IntKind.i64.wrap x = wrap64 x := by rw [IntKind.wrap_i64]; unfold wrap64; omega
/-- A web of no needs, as cells. -/
def zF (n : Int) (i : Nat) : Value := if i = 0 then .int .i64 n else if 66 ≤ i ∧ i ≤ 130 then .int .i64 0 else .slice none 0 0
def zW (n : Int) : Array Value := ((List.range 196).map (zF n)).toArray
theorem zero48 (w : World) : (zeroValue 48).run Try.prog w = .ok (.agg (zW 0)) w := by kernel_rfl
theorem zW_set (n : Int) : (zW 0).setIfInBounds 0 (.int .i64 n) = zW n := by kernel_rfl
theorem zW_size (n : Int) : (zW n).size = 196 := by simp [zW]
/-- What a node needs; by whom it is needed. -/
def ndsF (E : List (Int × Int)) (x : Int) : List Int := (E.filter fun e => e.1 == x).map (·.2)
def usrF (E : List (Int × Int)) (x : Int) : List Int := (E.filter fun e => e.2 == x).map (·.1)
def RF (E : List (Int × Int)) (i : Nat) : List Int := if i ≤ 65 then ndsF E ((i : Int) - 1) else usrF E ((i : Int) - 131)
def OF (E : List (Int × Int)) (x : Nat) : Int := ((ndsF E (x : Int)).length : Int)
theorem ndsF_snoc (E : List (Int × Int)) (p q x : Int) : ndsF (E ++ [(p, q)]) x = if p = x then ndsF E x ++ [q] else ndsF E x := by
  unfold ndsF
  rw [List.filter_append, List.map_append]
  by_cases h : p = x <;> simp [h]
theorem usrF_snoc (E : List (Int × Int)) (p q x : Int) : usrF (E ++ [(p, q)]) x = if q = x then usrF E x ++ [p] else usrF E x := by
  unfold usrF
  rw [List.filter_append, List.map_append]
  by_cases h : q = x <;> simp [h]
theorem ndsF_len (E : List (Int × Int)) (x : Int) : (ndsF E x).length ≤ E.length := by
  unfold ndsF; rw [List.length_map]; exact List.length_filter_le _ _
theorem usrF_len (E : List (Int × Int)) (x : Int) : (usrF E x).length ≤ E.length := by
  unfold usrF; rw [List.length_map]; exact List.length_filter_le _ _
theorem RF_len (E : List (Int × Int)) (i : Nat) : (RF E i).length ≤ E.length := by
  unfold RF; split
  · exact ndsF_len _ _
  · exact usrF_len _ _
theorem web_new (n : Int) (w : World) : Web (w.alloc (.cells (zW n) 48)) w.heap.size w.heap.size n (RF []) (OF []) (zF n) := by
  have hz : ∀ i, isRow i → zF n i = .slice none 0 0 := fun i hi => by
    unfold isRow at hi; unfold zF
    rw [if_neg (by omega), if_neg (by omega)]
  have hr : ∀ i, RF [] i = [] := fun i => by unfold RF; split <;> rfl
  refine ⟨⟨zW n, ?_, zW_size n, fun i hi => by simp [zW, hi]⟩, Nat.le_refl _, rfl, fun x hx => ?_, fun i hi => ?_, fun i hi => ?_, fun i j hi hj hij => ?_⟩
  · exact heap_alloc_new w _
  · unfold zF; rw [if_neg (by omega), if_pos (by omega)]; rfl
  · rw [hz i hi, hr i]; exact World.ownsRow_nil _ _ _ _
  · rw [hz i hi]; simp [Value.ownBlock]
  · rw [hz i hi]; exact .inl rfl
theorem RF_step (E : List (Int × Int)) (X Y : Nat) (hX : X ≤ 64) (hY : Y ≤ 64) (i : Nat) (_hi : isRow i) :
    RF (E ++ [((X : Int), (Y : Int))]) i = (if i = 131 + Y then (if i = 1 + X then RF E i ++ [(Y : Int)] else RF E i) ++ [(X : Int)] else (if i = 1 + X then RF E i ++ [(Y : Int)] else RF E i)) := by
  unfold RF
  by_cases h : i ≤ 65
  · rw [if_pos h, if_pos h, if_neg (show ¬ i = 131 + Y by omega), ndsF_snoc]
    by_cases e : i = 1 + X
    · rw [if_pos e, if_pos (by omega)]
    · rw [if_neg e, if_neg (by omega)]
  · rw [if_neg h, if_neg h, if_neg (show ¬ i = 1 + X by omega), usrF_snoc]
    by_cases e : i = 131 + Y
    · rw [if_pos e, if_pos (by omega)]
    · rw [if_neg e, if_neg (by omega)]
theorem OF_step (E : List (Int × Int)) (X Y : Nat) (x : Nat) : OF (E ++ [((X : Int), (Y : Int))]) x = if x = X then OF E X + 1 else OF E x := by
  unfold OF
  rw [ndsF_snoc]
  by_cases e : x = X
  · subst e
    rw [if_pos rfl, if_pos rfl, List.length_append]; simp
  · rw [if_neg (by omega), if_neg e]
/-- Whether nodes and needs may be. -/
def Good (n : Int) (l : List (Int × Int)) : Prop := 0 ≤ n ∧ n ≤ 64 ∧ l.length ≤ 256 ∧ ∀ j, j < l.length → inW (l.getD j (0, 0)).1 n = true ∧ inW (l.getD j (0, 0)).2 n = true
def MadeOut (n : Int) (l : List (Int × Int)) (w : World) (e : Ending) (w' : World) : Prop :=
  Below w.heap.size w w' ∧ ((Good n l ∧ e = .returned (.pointer (some ⟨w.heap.size, 0, none⟩)) ∧ ∃ C, Web w' w.heap.size w.heap.size n (RF l) (OF l) C) ∨ (¬ Good n l ∧ e = .returned (.pointer none)))
theorem take_snoc (l : List (Int × Int)) (k : Nat) (h : k < l.length) : l.take (k + 1) = l.take k ++ [((l.getD k (0, 0)).1, (l.getD k (0, 0)).2)] := by
  rw [List.take_succ_eq_append_getElem h, List.getD_eq_getElem?_getD, List.getElem?_eq_getElem h]; rfl
theorem info3 : (Try.prog.info? 3).map (fun i => (i.zero, i.size, i.bytes)) = some (some (.int .i64 0), 1, 8) := by kernel_rfl
theorem info_parts {P : Program} {e : TypeId} {z : Value} {n b : Nat} (h : (P.info? e).map (fun i => (i.zero, i.size, i.bytes)) = some (some z, n, b)) : ∃ i, P.info? e = some i ∧ i.zero = some z ∧ i.size = n ∧ i.bytes = b := by
  cases hi : P.info? e with
  | none => rw [hi] at h; cases h
  | some i => rw [hi] at h; simp at h; exact ⟨i, rfl, h.1, h.2.1, h.2.2⟩
end Gra
end Go.Proofs.Ytjdkkldlghdojaa
