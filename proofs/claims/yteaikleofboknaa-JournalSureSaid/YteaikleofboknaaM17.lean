/- Texts put together: JrWa. -/
import Derived.Test.YteaikleofboknaaM16
import Derived.Deep.Cut
import Derived.Deep.CutBlock
import Derived.Deep.DeepCutAuto
import Derived.Deep.RegionLaw
import Derived.Deep.AppendLies
import Derived.StillTailTactics
import Derived.Deep.RegionWith
set_option linter.all false
section
set_option maxRecDepth 100000
namespace Go.Proofs.Yteaikleofboknaa
open Go.RowKit Go.Great Go.Maps
namespace Jrn
open Frm (fits num put scan strs rows allS allE oks ok cats)
open In (strVals Strs)
open Dsk (below2 below_al below_dN DkIn PD Bx Dok FileIn newD namesV crashV fuseV)
/-- A region's operations, out of a function's body. -/
def rops (n : Nat) : Code → Option (Array Oper)
  | .region m ops _ => if m = n then some ops else none
  | .seq a b => (rops n a).or (rops n b)
  | .cond _ a b => (rops n a).or (rops n b)
  | .block _ a => rops n a
  | .loop a => rops n a
  | .scope a => rops n a
  | .rangeFunc _ _ a b => (rops n a).or (rops n b)
  | _ => none
theorem mk_ops (l : List Oper) : Array.mk l = l.toArray := rfl
def regOf (n : Nat) : Option Code → Array Oper
  | some c => (rops n c).getD #[]
  | none => #[]
theorem wp_ops {P : Program} {n : Nat} {o1 o2 : Array Oper} {b : Bool} {Q : Exit → Act → World → Prop} {a : Act} {w : World} (h : o1 = o2) (H : Code.wp P (.region n o1 b) Q a w) : Code.wp P (.region n o2 b) Q a w := h ▸ H
set_option maxHeartbeats 8000000 in
theorem reg21 {wr V : World} (S : SavedIn) (arg : List UInt8) (AR : ByteArray) (nb ab : Nat) (a : Option Addr) (cap : Nat) (hAR : Hid (ByteArray.mk arg.toArray = AR)) (hbV : Hid (Below wr.heap.size wr V)) (n0 : V.cell? ⟨nb, 0, none⟩ = some (.int .i64 (S.gen : Int))) (n1 : V.cell? ⟨nb, 1, none⟩ = some (.bool S.has)) (n2 : V.cell? ⟨nb, 2, none⟩ = some (.string ⟨S.base.toArray⟩)) (n3 : V.cell? ⟨nb, 3, none⟩ = some (.slice a S.recs.length cap)) (y2 : V.cell? ⟨ab, 2, none⟩ = some (.string AR)) (hnV : nb < V.heap.size) (haV : ab < V.heap.size) (hRC : Hid (Strs V a (rows S.recs))) (hrl : S.recs.length ≤ 1000) (hnil : a = none → cap = 0)
    (x0 x1 x2 x3 x4 x5 x7 x8 x9 x11 x12 x13 x14 x15 x16 x17 x18 x19 x20 x21 x22 x23 x24 x25 x26 x27 x28 x29 x30 x31 x32 x33 x34 x35 x36 x37 x38 x39 x40 x41 x42 x43 x44 x45 x46 x47 x48 x49 x50 x51 x52 x53 x54 x55 x56 x57 x58 x59 x60 x61 x62 x63 x64 x65 x66 x67 x68 x69 x70 x71 x72 x73 x74 x75 x76 x77 x78 x79 x80 x81 x82 x83 x84 x85 x86 x87 x88 x89 x90 x91 x92 x93 x94 x95 x96 x97 x98 x99 x100 x101 x102 x103 x104 x105 x106 x107 x108 x109 x110 x111 x112 x113 x114 x115 x116 x117 x118 x119 x120 x121 x122 x123 x124 x125 x126 x127 x128 x129 x130 x131 x132 x133 x134 x135 x136 x137 x138 x139 x140 x141 x142 x143 x144 x145 x146 x147 x148 x149 x150 x151 x152 x153 x154 x155 x156 x157 x158 x159 x160 x161 x162 : Value) (dd : List Deferred) (Q : Exit → Act → World → Prop) (hP : Hid (∀ c (b b' : Act) w, b.defers = b'.defers → Q (.panic c) b w → Q (.panic c) b' w))
    (hQ : Hid (∀ (xb : Nat) (a8 : Option Addr) (c8 : Nat) (u85 u86 u87 u88 u89 u90 u91 u92 u93 u94 u95 u96 u97 u98 u99 : Value) (W' : World), Nxt wr W' xb { S with recs := S.recs ++ [arg] } a8 c8 → Below V.heap.size V W' → Q .normal { tmps := List.toArray (x0 :: x1 :: x2 :: x3 :: x4 :: x5 :: (.pointer (some ⟨nb, 0, none⟩)) :: x7 :: x8 :: x9 :: (.pointer (some ⟨ab, 0, none⟩)) :: (.pointer (some ⟨xb, 0, none⟩)) :: x12 :: x13 :: x14 :: x15 :: x16 :: x17 :: x18 :: x19 :: x20 :: x21 :: x22 :: x23 :: x24 :: x25 :: x26 :: x27 :: x28 :: x29 :: x30 :: x31 :: x32 :: x33 :: x34 :: x35 :: x36 :: x37 :: x38 :: x39 :: x40 :: x41 :: x42 :: x43 :: x44 :: x45 :: x46 :: x47 :: x48 :: x49 :: x50 :: x51 :: x52 :: x53 :: x54 :: x55 :: x56 :: x57 :: x58 :: x59 :: x60 :: x61 :: x62 :: x63 :: x64 :: x65 :: x66 :: x67 :: x68 :: x69 :: x70 :: x71 :: x72 :: x73 :: x74 :: x75 :: x76 :: x77 :: x78 :: x79 :: x80 :: x81 :: x82 :: x83 :: x84 :: u85 :: u86 :: u87 :: u88 :: u89 :: u90 :: u91 :: u92 :: u93 :: u94 :: u95 :: u96 :: u97 :: u98 :: u99 :: x100 :: x101 :: x102 :: x103 :: x104 :: x105 :: x106 :: x107 :: x108 :: x109 :: x110 :: x111 :: x112 :: x113 :: x114 :: x115 :: x116 :: x117 :: x118 :: x119 :: x120 :: x121 :: x122 :: x123 :: x124 :: x125 :: x126 :: x127 :: x128 :: x129 :: x130 :: x131 :: x132 :: x133 :: x134 :: x135 :: x136 :: x137 :: x138 :: x139 :: x140 :: x141 :: x142 :: x143 :: x144 :: x145 :: x146 :: x147 :: x148 :: x149 :: x150 :: x151 :: x152 :: x153 :: x154 :: x155 :: x156 :: x157 :: x158 :: x159 :: x160 :: x161 :: x162 :: []), defers := dd } W')) :
    Code.wp Try.prog (.region 21 (regOf 21 Try.f5.body) true) Q { tmps := List.toArray (x0 :: x1 :: x2 :: x3 :: x4 :: x5 :: (.pointer (some ⟨nb, 0, none⟩)) :: x7 :: x8 :: x9 :: (.pointer (some ⟨ab, 0, none⟩)) :: x11 :: x12 :: x13 :: x14 :: x15 :: x16 :: x17 :: x18 :: x19 :: x20 :: x21 :: x22 :: x23 :: x24 :: x25 :: x26 :: x27 :: x28 :: x29 :: x30 :: x31 :: x32 :: x33 :: x34 :: x35 :: x36 :: x37 :: x38 :: x39 :: x40 :: x41 :: x42 :: x43 :: x44 :: x45 :: x46 :: x47 :: x48 :: x49 :: x50 :: x51 :: x52 :: x53 :: x54 :: x55 :: x56 :: x57 :: x58 :: x59 :: x60 :: x61 :: x62 :: x63 :: x64 :: x65 :: x66 :: x67 :: x68 :: x69 :: x70 :: x71 :: x72 :: x73 :: x74 :: x75 :: x76 :: x77 :: x78 :: x79 :: x80 :: x81 :: x82 :: x83 :: x84 :: x85 :: x86 :: x87 :: x88 :: x89 :: x90 :: x91 :: x92 :: x93 :: x94 :: x95 :: x96 :: x97 :: x98 :: x99 :: x100 :: x101 :: x102 :: x103 :: x104 :: x105 :: x106 :: x107 :: x108 :: x109 :: x110 :: x111 :: x112 :: x113 :: x114 :: x115 :: x116 :: x117 :: x118 :: x119 :: x120 :: x121 :: x122 :: x123 :: x124 :: x125 :: x126 :: x127 :: x128 :: x129 :: x130 :: x131 :: x132 :: x133 :: x134 :: x135 :: x136 :: x137 :: x138 :: x139 :: x140 :: x141 :: x142 :: x143 :: x144 :: x145 :: x146 :: x147 :: x148 :: x149 :: x150 :: x151 :: x152 :: x153 :: x154 :: x155 :: x156 :: x157 :: x158 :: x159 :: x160 :: x161 :: x162 :: []), defers := dd } V := by
  obtain ⟨i0, hi, hz0, hz1, hz2⟩ := info_parts Frm.sinfo
  conv in regOf _ _ => whnf
  rw [mk_ops]
  have hb6 : Hid (Below V.heap.size V V.drew) := (Below.refl _ _).drew
  have HSF : Hid (∀ W', Below V.heap.size V W' → (W'.cell? ⟨nb, 0, none⟩ = some (.int .i64 (S.gen : Int)) ∧ W'.cell? ⟨nb, 1, none⟩ = some (.bool S.has) ∧ W'.cell? ⟨nb, 2, none⟩ = some (.string ⟨S.base.toArray⟩) ∧ W'.cell? ⟨nb, 3, none⟩ = some (.slice a S.recs.length cap) ∧ W'.cell? ⟨ab, 2, none⟩ = some (.string AR))) := fun W' hb => ⟨(hb.cell (p := ⟨nb, 0, none⟩) hnV).trans n0, (hb.cell (p := ⟨nb, 1, none⟩) hnV).trans n1, (hb.cell (p := ⟨nb, 2, none⟩) hnV).trans n2, (hb.cell (p := ⟨nb, 3, none⟩) hnV).trans n3, (hb.cell (p := ⟨ab, 2, none⟩) haV).trans y2⟩
  have hHeld := HSF.out _ hb6.out
  refine Ord.wp_region_U (fun W' => W'.cell? ⟨nb, 0, none⟩ = some (.int .i64 (S.gen : Int)) ∧ W'.cell? ⟨nb, 1, none⟩ = some (.bool S.has) ∧ W'.cell? ⟨nb, 2, none⟩ = some (.string ⟨S.base.toArray⟩) ∧ W'.cell? ⟨nb, 3, none⟩ = some (.slice a S.recs.length cap) ∧ W'.cell? ⟨ab, 2, none⟩ = some (.string AR)) [14, 16] (by kernel_rfl) ?_
  clear n0 n1 n2 n3 y2
  generalize V.drew = W6 at *
  refine take_at (i := 0) (v := ?_) 85 rfl rfl (by as_aux_lemma => kernel_rfl) (by as_aux_lemma => kernel_rfl) (by as_aux_lemma => kernel_rfl) (by as_aux_lemma => kernel_rfl) (by as_aux_lemma => kernel_rfl) (by as_aux_lemma => kernel_rfl) (by as_aux_lemma => kernel_rfl) (fun c b w h => hP.out c _ b w (by rfl) h) (Or.inl ⟨(by as_aux_lemma => kernel_rfl), ?_⟩) hHeld ?_
  rotate_left
  · intro w hSw; (try dsimp only at hSw); (try obtain ⟨f0, f1, f2, f3, f4⟩ := hSw); go_simp; (try with_reducible rfl)
  try simp only [Act.put, List.setIfInBounds_toArray, List.set_cons_zero, List.set_cons_succ]
  refine take_at (i := 1) (v := ?_) 86 rfl rfl (by as_aux_lemma => kernel_rfl) (by as_aux_lemma => kernel_rfl) (by as_aux_lemma => kernel_rfl) (by as_aux_lemma => kernel_rfl) (by as_aux_lemma => kernel_rfl) (by as_aux_lemma => kernel_rfl) (by as_aux_lemma => kernel_rfl) (fun c b w h => hP.out c _ b w (by rfl) h) (Or.inl ⟨(by as_aux_lemma => kernel_rfl), ?_⟩) hHeld ?_
  rotate_left
  · intro w hSw; (try dsimp only at hSw); (try obtain ⟨f0, f1, f2, f3, f4⟩ := hSw); go_simp; (try with_reducible rfl)
  try simp only [Act.put, List.setIfInBounds_toArray, List.set_cons_zero, List.set_cons_succ]
  refine take_at (i := 2) (v := ?_) 87 rfl rfl (by as_aux_lemma => kernel_rfl) (by as_aux_lemma => kernel_rfl) (by as_aux_lemma => kernel_rfl) (by as_aux_lemma => kernel_rfl) (by as_aux_lemma => kernel_rfl) (by as_aux_lemma => kernel_rfl) (by as_aux_lemma => kernel_rfl) (fun c b w h => hP.out c _ b w (by rfl) h) (Or.inl ⟨(by as_aux_lemma => kernel_rfl), ?_⟩) hHeld ?_
  rotate_left
  · intro w hSw; (try dsimp only at hSw); (try obtain ⟨f0, f1, f2, f3, f4⟩ := hSw); go_simp; (try with_reducible rfl)
  try simp only [Act.put, List.setIfInBounds_toArray, List.set_cons_zero, List.set_cons_succ]
  refine take_at (i := 3) (v := ?_) 88 rfl rfl (by as_aux_lemma => kernel_rfl) (by as_aux_lemma => kernel_rfl) (by as_aux_lemma => kernel_rfl) (by as_aux_lemma => kernel_rfl) (by as_aux_lemma => kernel_rfl) (by as_aux_lemma => kernel_rfl) (by as_aux_lemma => kernel_rfl) (fun c b w h => hP.out c _ b w (by rfl) h) (Or.inl ⟨(by as_aux_lemma => kernel_rfl), ?_⟩) hHeld ?_
  rotate_left
  · intro w hSw; (try dsimp only at hSw); (try obtain ⟨f0, f1, f2, f3, f4⟩ := hSw); go_simp; (try with_reducible rfl)
  try simp only [Act.put, List.setIfInBounds_toArray, List.set_cons_zero, List.set_cons_succ]
  refine take_at (i := 4) (v := ?_) 89 rfl rfl (by as_aux_lemma => kernel_rfl) (by as_aux_lemma => kernel_rfl) (by as_aux_lemma => kernel_rfl) (by as_aux_lemma => kernel_rfl) (by as_aux_lemma => kernel_rfl) (by as_aux_lemma => kernel_rfl) (by as_aux_lemma => kernel_rfl) (fun c b w h => hP.out c _ b w (by rfl) h) (Or.inl ⟨(by as_aux_lemma => kernel_rfl), ?_⟩) hHeld ?_
  rotate_left
  · intro w hSw; (try dsimp only at hSw); (try obtain ⟨f0, f1, f2, f3, f4⟩ := hSw); go_simp; (try with_reducible rfl)
  try simp only [Act.put, List.setIfInBounds_toArray, List.set_cons_zero, List.set_cons_succ]
  refine take_at (i := 5) (v := ?_) 90 rfl rfl (by as_aux_lemma => kernel_rfl) (by as_aux_lemma => kernel_rfl) (by as_aux_lemma => kernel_rfl) (by as_aux_lemma => kernel_rfl) (by as_aux_lemma => kernel_rfl) (by as_aux_lemma => kernel_rfl) (by as_aux_lemma => kernel_rfl) (fun c b w h => hP.out c _ b w (by rfl) h) (Or.inl ⟨(by as_aux_lemma => kernel_rfl), ?_⟩) hHeld ?_
  rotate_left
  · intro w hSw; (try dsimp only at hSw); (try obtain ⟨f0, f1, f2, f3, f4⟩ := hSw); go_simp; (try with_reducible rfl)
  try simp only [Act.put, List.setIfInBounds_toArray, List.set_cons_zero, List.set_cons_succ]
  refine take_at (i := 7) (v := ?_) 92 rfl rfl (by as_aux_lemma => kernel_rfl) (by as_aux_lemma => kernel_rfl) (by as_aux_lemma => kernel_rfl) (by as_aux_lemma => kernel_rfl) (by as_aux_lemma => kernel_rfl) (by as_aux_lemma => kernel_rfl) (by as_aux_lemma => kernel_rfl) (fun c b w h => hP.out c _ b w (by rfl) h) (Or.inl ⟨(by as_aux_lemma => kernel_rfl), ?_⟩) hHeld ?_
  rotate_left
  · intro w hSw; (try dsimp only at hSw); (try obtain ⟨f0, f1, f2, f3, f4⟩ := hSw); go_simp; (try with_reducible rfl)
  try simp only [Act.put, List.setIfInBounds_toArray, List.set_cons_zero, List.set_cons_succ]
  refine take_at (i := 8) (v := ?_) 93 rfl rfl (by as_aux_lemma => kernel_rfl) (by as_aux_lemma => kernel_rfl) (by as_aux_lemma => kernel_rfl) (by as_aux_lemma => kernel_rfl) (by as_aux_lemma => kernel_rfl) (by as_aux_lemma => kernel_rfl) (by as_aux_lemma => kernel_rfl) (fun c b w h => hP.out c _ b w (by rfl) h) (Or.inl ⟨(by as_aux_lemma => kernel_rfl), ?_⟩) hHeld ?_
  rotate_left
  · intro w hSw; (try dsimp only at hSw); (try obtain ⟨f0, f1, f2, f3, f4⟩ := hSw); go_simp; (try with_reducible rfl)
  try simp only [Act.put, List.setIfInBounds_toArray, List.set_cons_zero, List.set_cons_succ]
  refine take_at (i := 10) (v := ?_) 95 rfl rfl (by as_aux_lemma => kernel_rfl) (by as_aux_lemma => kernel_rfl) (by as_aux_lemma => kernel_rfl) (by as_aux_lemma => kernel_rfl) (by as_aux_lemma => kernel_rfl) (by as_aux_lemma => kernel_rfl) (by as_aux_lemma => kernel_rfl) (fun c b w h => hP.out c _ b w (by rfl) h) (Or.inl ⟨(by as_aux_lemma => kernel_rfl), ?_⟩) hHeld ?_
  rotate_left
  · intro w hSw; (try dsimp only at hSw); (try obtain ⟨f0, f1, f2, f3, f4⟩ := hSw); go_simp; (try with_reducible rfl)
  try simp only [Act.put, List.setIfInBounds_toArray, List.set_cons_zero, List.set_cons_succ]
  refine take_at (i := 11) (v := ?_) 96 rfl rfl (by as_aux_lemma => kernel_rfl) (by as_aux_lemma => kernel_rfl) (by as_aux_lemma => kernel_rfl) (by as_aux_lemma => kernel_rfl) (by as_aux_lemma => kernel_rfl) (by as_aux_lemma => kernel_rfl) (by as_aux_lemma => kernel_rfl) (fun c b w h => hP.out c _ b w (by rfl) h) (Or.inl ⟨(by as_aux_lemma => kernel_rfl), ?_⟩) hHeld ?_
  rotate_left
  · intro w hSw; (try dsimp only at hSw); (try obtain ⟨f0, f1, f2, f3, f4⟩ := hSw); go_simp; (try with_reducible rfl)
  try simp only [Act.put, List.setIfInBounds_toArray, List.set_cons_zero, List.set_cons_succ]
  refine Ord.wpAnyU_three (i := 6) (j := 12) (k := 15) (by as_aux_lemma => kernel_rfl) rfl rfl rfl (fun K hK => ?_) (fun K hK => ?_) (fun K hK => ?_)
  · go_simp
    obtain ⟨U21, h21⟩ : ∃ U, U = W6.alloc (Obj.cells #[] 9) := ⟨_, rfl⟩
    rw [← h21]
    have B21 : Hid (Below V.heap.size V U21) := by rw [h21]; exact below_al hb6.out _
    have O21 := Lib.hid (own_new V.heap.size hb6.out.size h21)
    clear h21
    refine hK.out _ _ (fun _ => HSF.out _ B21.out) ?_
    clear hK K
    try simp only [Act.put, List.setIfInBounds_toArray, List.set_cons_zero, List.set_cons_succ]
    refine Ord.wpAnyU_three (i := 9) (j := 12) (k := 15) (by as_aux_lemma => kernel_rfl) rfl rfl rfl (fun K hK => ?_) (fun K hK => ?_) (fun K hK => ?_)
    · refine step_recs rfl (.tmp 91) (.tmp 93) 31 rfl V.heap.size 9 i0 _ Try.underlying31 hi hz0 hz1 hz2 rfl (.slice (some ⟨W6.heap.size, 0, none⟩) 0 0) 0 [] rfl ?ho a S.recs.length cap (rows S.recs) rfl (rows_length _) hnil ?hs ?hn ?hb ?_
      case ho => exact O21.out
      case hs => exact hRC.out.below B21.out
      case hn => omega
      case hb => exact B21.out.size
      intro v22 U22 o22 g22 b22
      have B22 := Lib.hid (b22 _ B21.out)
      have O22 := Lib.hid o22
      clear o22 g22 b22
      refine hK.out _ _ (fun _ => HSF.out _ B22.out) ?_
      clear hK K
      try simp only [Act.put, List.setIfInBounds_toArray, List.set_cons_zero, List.set_cons_succ]
      refine Ord.wpAnyU_two (i := 12) (j := 15) (by as_aux_lemma => kernel_rfl) rfl rfl (fun K hK => ?_) (fun K hK => ?_)
      · go_simp
        obtain ⟨U23, h23⟩ : ∃ U, U = U22.alloc (Obj.cells #[Value.string AR] 9) := ⟨_, rfl⟩
        rw [← h23]
        have B23 : Hid (Below V.heap.size V U23) := by rw [h23]; exact below_al B22.out _
        have O23 := Lib.hid (own_al O22.out h23)
        have A23 := Lib.hid (one_new h23)
        clear h23
        refine hK.out _ _ (fun _ => HSF.out _ B23.out) ?_
        clear hK K
        try simp only [Act.put, List.setIfInBounds_toArray, List.set_cons_zero, List.set_cons_succ]
        refine Ord.wpAnyU_two (i := 13) (j := 15) (by as_aux_lemma => kernel_rfl) rfl rfl (fun K hK => ?_) (fun K hK => ?_)
        · refine step_recs rfl (.tmp 94) (.tmp 97) 31 rfl V.heap.size 9 i0 _ Try.underlying31 hi hz0 hz1 hz2 rfl v22 (0 + S.recs.length) ([] ++ rows S.recs) rfl ?ho _ 1 _ [AR] rfl rfl (fun h => by cases h) ?hs ?hn ?hb ?_
          case ho => exact O23.out
          case hs => exact strs_one1 A23.out.2
          case hn => omega
          case hb => exact B23.out.size
          intro v24 U24 o24 g24 b24
          have B24 := Lib.hid (b24 _ B23.out)
          have O24 := Lib.hid o24
          clear o24 g24 b24
          obtain ⟨a8, c8, rfl, hs8, hw8, hq8⟩ := own_recs arg O24.out hAR.out
          have HS24 := Lib.hid hs8
          have HW24 := Lib.hid hw8
          clear hs8 hw8
          refine hK.out _ _ (fun _ => HSF.out _ B24.out) ?_
          clear hK K
          try simp only [Act.put, List.setIfInBounds_toArray, List.set_cons_zero, List.set_cons_succ]
          refine Ord.wpAnyU_two (i := 14) (j := 15) (by as_aux_lemma => kernel_rfl) rfl rfl (fun K hK => ?_) (fun K hK => ?_)
          · go_simp
            refine hK.out _ _ (fun h => by cases h) ?_
            clear hK K
            try simp only [Act.put, List.setIfInBounds_toArray, List.set_cons_zero, List.set_cons_succ]
            refine Ord.wpAnyU_one (i := 15) (by as_aux_lemma => kernel_rfl) rfl (fun K hK => ?_)
            go_simp
            obtain ⟨U25, h25⟩ : ∃ U, U = U24.alloc (Obj.cells #[Value.int .i64 0, Value.bool false, Value.string ⟨#[]⟩, Value.slice none 0 0] 33) := ⟨_, rfl⟩
            rw [← h25]
            have B25 : Hid (Below V.heap.size V U25) := by rw [h25]; exact below_al B24.out _
            have O25 := Lib.hid (own_al O24.out h25)
            have HS25 := Lib.hid (strs_al HS24.out h25)
            have HW25 := Lib.hid (lt_al HW24.out h25)
            have X25 := Lib.hid (box_new (B := V.heap.size) B24.out.size h25)
            clear h25
            refine hK.out _ _ (fun _ => HSF.out _ B25.out) ?_
            clear hK K
            try simp only [Act.put, List.setIfInBounds_toArray, List.set_cons_zero, List.set_cons_succ]
            refine Ord.wpAnyU_one (i := 16) (by as_aux_lemma => kernel_rfl) rfl (fun K hK => ?_)
            obtain ⟨⟨x0, x1, x2, x3⟩, ⟨y0, y1, y2, y3⟩, xl⟩ := box_cells X25.out
            go_simp
            refine hK.out _ _ (fun h => by cases h) ?_
            clear hK K
            try simp only [Act.put, List.setIfInBounds_toArray, List.set_cons_zero, List.set_cons_succ]
            refine Ord.wpAnyU_done (by as_aux_lemma => kernel_rfl) ?_ _
            obtain ⟨hN21, hG21⟩ := Nxt.made (wr := wr) (S := S) (r := arg) X25.out.1 (Nat.le_trans hbV.out.size X25.out.2) HS25.out (fun x hx => ⟨Nat.le_trans hbV.out.size (HW25.out x hx).1, (HW25.out x hx).2⟩) (own_xb O25.out X25.out.1 (by decide)) hq8 rfl
            have hB21 := B25.out.grown hG21 (B25.out.size) (fun x e => by have e1 := Option.some.inj e; rw [← e1]; exact X25.out.2)
            exact hQ.out _ a8 c8 _ _ _ _ _ _ _ _ _ _ _ _ _ _ _ _ hN21 hB21
          · go_simp
            obtain ⟨U27, h27⟩ : ∃ U, U = U24.alloc (Obj.cells #[Value.int .i64 0, Value.bool false, Value.string ⟨#[]⟩, Value.slice none 0 0] 33) := ⟨_, rfl⟩
            rw [← h27]
            have B27 : Hid (Below V.heap.size V U27) := by rw [h27]; exact below_al B24.out _
            have O27 := Lib.hid (own_al O24.out h27)
            have HS27 := Lib.hid (strs_al HS24.out h27)
            have HW27 := Lib.hid (lt_al HW24.out h27)
            have X27 := Lib.hid (box_new (B := V.heap.size) B24.out.size h27)
            clear h27
            refine hK.out _ _ (fun _ => HSF.out _ B27.out) ?_
            clear hK K
            try simp only [Act.put, List.setIfInBounds_toArray, List.set_cons_zero, List.set_cons_succ]
            refine Ord.wpAnyU_one (i := 14) (by as_aux_lemma => kernel_rfl) rfl (fun K hK => ?_)
            go_simp
            refine hK.out _ _ (fun h => by cases h) ?_
            clear hK K
            try simp only [Act.put, List.setIfInBounds_toArray, List.set_cons_zero, List.set_cons_succ]
            refine Ord.wpAnyU_one (i := 16) (by as_aux_lemma => kernel_rfl) rfl (fun K hK => ?_)
            obtain ⟨⟨x0, x1, x2, x3⟩, ⟨y0, y1, y2, y3⟩, xl⟩ := box_cells X27.out
            go_simp
            refine hK.out _ _ (fun h => by cases h) ?_
            clear hK K
            try simp only [Act.put, List.setIfInBounds_toArray, List.set_cons_zero, List.set_cons_succ]
            refine Ord.wpAnyU_done (by as_aux_lemma => kernel_rfl) ?_ _
            obtain ⟨hN21, hG21⟩ := Nxt.made (wr := wr) (S := S) (r := arg) X27.out.1 (Nat.le_trans hbV.out.size X27.out.2) HS27.out (fun x hx => ⟨Nat.le_trans hbV.out.size (HW27.out x hx).1, (HW27.out x hx).2⟩) (own_xb O27.out X27.out.1 (by decide)) hq8 rfl
            have hB21 := B27.out.grown hG21 (B27.out.size) (fun x e => by have e1 := Option.some.inj e; rw [← e1]; exact X27.out.2)
            exact hQ.out _ a8 c8 _ _ _ _ _ _ _ _ _ _ _ _ _ _ _ _ hN21 hB21
        · go_simp
          obtain ⟨U29, h29⟩ : ∃ U, U = U23.alloc (Obj.cells #[Value.int .i64 0, Value.bool false, Value.string ⟨#[]⟩, Value.slice none 0 0] 33) := ⟨_, rfl⟩
          rw [← h29]
          have B29 : Hid (Below V.heap.size V U29) := by rw [h29]; exact below_al B23.out _
          have O29 := Lib.hid (own_al O23.out h29)
          have A29 := Lib.hid (one_al A23.out h29)
          have X29 := Lib.hid (box_new (B := V.heap.size) B23.out.size h29)
          clear h29
          refine hK.out _ _ (fun _ => HSF.out _ B29.out) ?_
          clear hK K
          try simp only [Act.put, List.setIfInBounds_toArray, List.set_cons_zero, List.set_cons_succ]
          refine Ord.wpAnyU_one (i := 13) (by as_aux_lemma => kernel_rfl) rfl (fun K hK => ?_)
          refine step_recs rfl (.tmp 94) (.tmp 97) 31 rfl V.heap.size 9 i0 _ Try.underlying31 hi hz0 hz1 hz2 rfl v22 (0 + S.recs.length) ([] ++ rows S.recs) rfl ?ho _ 1 _ [AR] rfl rfl (fun h => by cases h) ?hs ?hn ?hb ?_
          case ho => exact O29.out
          case hs => exact strs_one1 A29.out.2
          case hn => omega
          case hb => exact B29.out.size
          intro v30 U30 o30 g30 b30
          have B30 := Lib.hid (b30 _ B29.out)
          have O30 := Lib.hid o30
          have X30 := Lib.hid (box_grow X29.out g30 (own_ne O29.out X29.out.1 (by decide)))
          clear o30 g30 b30
          obtain ⟨a8, c8, rfl, hs8, hw8, hq8⟩ := own_recs arg O30.out hAR.out
          have HS30 := Lib.hid hs8
          have HW30 := Lib.hid hw8
          clear hs8 hw8
          refine hK.out _ _ (fun _ => HSF.out _ B30.out) ?_
          clear hK K
          try simp only [Act.put, List.setIfInBounds_toArray, List.set_cons_zero, List.set_cons_succ]
          refine Ord.wpAnyU_one (i := 14) (by as_aux_lemma => kernel_rfl) rfl (fun K hK => ?_)
          go_simp
          refine hK.out _ _ (fun h => by cases h) ?_
          clear hK K
          try simp only [Act.put, List.setIfInBounds_toArray, List.set_cons_zero, List.set_cons_succ]
          refine Ord.wpAnyU_one (i := 16) (by as_aux_lemma => kernel_rfl) rfl (fun K hK => ?_)
          obtain ⟨⟨x0, x1, x2, x3⟩, ⟨y0, y1, y2, y3⟩, xl⟩ := box_cells X30.out
          go_simp
          refine hK.out _ _ (fun h => by cases h) ?_
          clear hK K
          try simp only [Act.put, List.setIfInBounds_toArray, List.set_cons_zero, List.set_cons_succ]
          refine Ord.wpAnyU_done (by as_aux_lemma => kernel_rfl) ?_ _
          obtain ⟨hN21, hG21⟩ := Nxt.made (wr := wr) (S := S) (r := arg) X30.out.1 (Nat.le_trans hbV.out.size X30.out.2) HS30.out (fun x hx => ⟨Nat.le_trans hbV.out.size (HW30.out x hx).1, (HW30.out x hx).2⟩) (own_xb O30.out X30.out.1 (by decide)) hq8 rfl
          have hB21 := B30.out.grown hG21 (B30.out.size) (fun x e => by have e1 := Option.some.inj e; rw [← e1]; exact X30.out.2)
          exact hQ.out _ a8 c8 _ _ _ _ _ _ _ _ _ _ _ _ _ _ _ _ hN21 hB21
      · go_simp
        obtain ⟨U32, h32⟩ : ∃ U, U = U22.alloc (Obj.cells #[Value.int .i64 0, Value.bool false, Value.string ⟨#[]⟩, Value.slice none 0 0] 33) := ⟨_, rfl⟩
        rw [← h32]
        have B32 : Hid (Below V.heap.size V U32) := by rw [h32]; exact below_al B22.out _
        have O32 := Lib.hid (own_al O22.out h32)
        have X32 := Lib.hid (box_new (B := V.heap.size) B22.out.size h32)
        clear h32
        refine hK.out _ _ (fun _ => HSF.out _ B32.out) ?_
        clear hK K
        try simp only [Act.put, List.setIfInBounds_toArray, List.set_cons_zero, List.set_cons_succ]
        refine Ord.wpAnyU_one (i := 12) (by as_aux_lemma => kernel_rfl) rfl (fun K hK => ?_)
        go_simp
        obtain ⟨U33, h33⟩ : ∃ U, U = U32.alloc (Obj.cells #[Value.string AR] 9) := ⟨_, rfl⟩
        rw [← h33]
        have B33 : Hid (Below V.heap.size V U33) := by rw [h33]; exact below_al B32.out _
        have O33 := Lib.hid (own_al O32.out h33)
        have X33 := Lib.hid (box_al X32.out h33)
        have A33 := Lib.hid (one_new h33)
        clear h33
        refine hK.out _ _ (fun _ => HSF.out _ B33.out) ?_
        clear hK K
        try simp only [Act.put, List.setIfInBounds_toArray, List.set_cons_zero, List.set_cons_succ]
        refine Ord.wpAnyU_one (i := 13) (by as_aux_lemma => kernel_rfl) rfl (fun K hK => ?_)
        refine step_recs rfl (.tmp 94) (.tmp 97) 31 rfl V.heap.size 9 i0 _ Try.underlying31 hi hz0 hz1 hz2 rfl v22 (0 + S.recs.length) ([] ++ rows S.recs) rfl ?ho _ 1 _ [AR] rfl rfl (fun h => by cases h) ?hs ?hn ?hb ?_
        case ho => exact O33.out
        case hs => exact strs_one1 A33.out.2
        case hn => omega
        case hb => exact B33.out.size
        intro v34 U34 o34 g34 b34
        have B34 := Lib.hid (b34 _ B33.out)
        have O34 := Lib.hid o34
        have X34 := Lib.hid (box_grow X33.out g34 (own_ne O33.out X33.out.1 (by decide)))
        clear o34 g34 b34
        obtain ⟨a8, c8, rfl, hs8, hw8, hq8⟩ := own_recs arg O34.out hAR.out
        have HS34 := Lib.hid hs8
        have HW34 := Lib.hid hw8
        clear hs8 hw8
        refine hK.out _ _ (fun _ => HSF.out _ B34.out) ?_
        clear hK K
        try simp only [Act.put, List.setIfInBounds_toArray, List.set_cons_zero, List.set_cons_succ]
        refine Ord.wpAnyU_one (i := 14) (by as_aux_lemma => kernel_rfl) rfl (fun K hK => ?_)
        go_simp
        refine hK.out _ _ (fun h => by cases h) ?_
        clear hK K
        try simp only [Act.put, List.setIfInBounds_toArray, List.set_cons_zero, List.set_cons_succ]
        refine Ord.wpAnyU_one (i := 16) (by as_aux_lemma => kernel_rfl) rfl (fun K hK => ?_)
        obtain ⟨⟨x0, x1, x2, x3⟩, ⟨y0, y1, y2, y3⟩, xl⟩ := box_cells X34.out
        go_simp
        refine hK.out _ _ (fun h => by cases h) ?_
        clear hK K
        try simp only [Act.put, List.setIfInBounds_toArray, List.set_cons_zero, List.set_cons_succ]
        refine Ord.wpAnyU_done (by as_aux_lemma => kernel_rfl) ?_ _
        obtain ⟨hN21, hG21⟩ := Nxt.made (wr := wr) (S := S) (r := arg) X34.out.1 (Nat.le_trans hbV.out.size X34.out.2) HS34.out (fun x hx => ⟨Nat.le_trans hbV.out.size (HW34.out x hx).1, (HW34.out x hx).2⟩) (own_xb O34.out X34.out.1 (by decide)) hq8 rfl
        have hB21 := B34.out.grown hG21 (B34.out.size) (fun x e => by have e1 := Option.some.inj e; rw [← e1]; exact X34.out.2)
        exact hQ.out _ a8 c8 _ _ _ _ _ _ _ _ _ _ _ _ _ _ _ _ hN21 hB21
    · go_simp
      obtain ⟨U36, h36⟩ : ∃ U, U = U21.alloc (Obj.cells #[Value.string AR] 9) := ⟨_, rfl⟩
      rw [← h36]
      have B36 : Hid (Below V.heap.size V U36) := by rw [h36]; exact below_al B21.out _
      have O36 := Lib.hid (own_al O21.out h36)
      have A36 := Lib.hid (one_new h36)
      have N36 := Lib.hid (own_not O21.out)
      clear h36
      refine hK.out _ _ (fun _ => HSF.out _ B36.out) ?_
      clear hK K
      try simp only [Act.put, List.setIfInBounds_toArray, List.set_cons_zero, List.set_cons_succ]
      refine Ord.wpAnyU_two (i := 9) (j := 15) (by as_aux_lemma => kernel_rfl) rfl rfl (fun K hK => ?_) (fun K hK => ?_)
      · refine step_recs rfl (.tmp 91) (.tmp 93) 31 rfl V.heap.size 9 i0 _ Try.underlying31 hi hz0 hz1 hz2 rfl (.slice (some ⟨W6.heap.size, 0, none⟩) 0 0) 0 [] rfl ?ho a S.recs.length cap (rows S.recs) rfl (rows_length _) hnil ?hs ?hn ?hb ?_
        case ho => exact O36.out
        case hs => exact hRC.out.below B36.out
        case hn => omega
        case hb => exact B36.out.size
        intro v37 U37 o37 g37 b37
        have B37 := Lib.hid (b37 _ B36.out)
        have O37 := Lib.hid o37
        have A37 := Lib.hid (one_grow A36.out g37 N36.out)
        clear o37 g37 b37
        refine hK.out _ _ (fun _ => HSF.out _ B37.out) ?_
        clear hK K
        try simp only [Act.put, List.setIfInBounds_toArray, List.set_cons_zero, List.set_cons_succ]
        refine Ord.wpAnyU_two (i := 13) (j := 15) (by as_aux_lemma => kernel_rfl) rfl rfl (fun K hK => ?_) (fun K hK => ?_)
        · refine step_recs rfl (.tmp 94) (.tmp 97) 31 rfl V.heap.size 9 i0 _ Try.underlying31 hi hz0 hz1 hz2 rfl v37 (0 + S.recs.length) ([] ++ rows S.recs) rfl ?ho _ 1 _ [AR] rfl rfl (fun h => by cases h) ?hs ?hn ?hb ?_
          case ho => exact O37.out
          case hs => exact strs_one1 A37.out.2
          case hn => omega
          case hb => exact B37.out.size
          intro v38 U38 o38 g38 b38
          have B38 := Lib.hid (b38 _ B37.out)
          have O38 := Lib.hid o38
          clear o38 g38 b38
          obtain ⟨a8, c8, rfl, hs8, hw8, hq8⟩ := own_recs arg O38.out hAR.out
          have HS38 := Lib.hid hs8
          have HW38 := Lib.hid hw8
          clear hs8 hw8
          refine hK.out _ _ (fun _ => HSF.out _ B38.out) ?_
          clear hK K
          try simp only [Act.put, List.setIfInBounds_toArray, List.set_cons_zero, List.set_cons_succ]
          refine Ord.wpAnyU_two (i := 14) (j := 15) (by as_aux_lemma => kernel_rfl) rfl rfl (fun K hK => ?_) (fun K hK => ?_)
          · go_simp
            refine hK.out _ _ (fun h => by cases h) ?_
            clear hK K
            try simp only [Act.put, List.setIfInBounds_toArray, List.set_cons_zero, List.set_cons_succ]
            refine Ord.wpAnyU_one (i := 15) (by as_aux_lemma => kernel_rfl) rfl (fun K hK => ?_)
            go_simp
            obtain ⟨U39, h39⟩ : ∃ U, U = U38.alloc (Obj.cells #[Value.int .i64 0, Value.bool false, Value.string ⟨#[]⟩, Value.slice none 0 0] 33) := ⟨_, rfl⟩
            rw [← h39]
            have B39 : Hid (Below V.heap.size V U39) := by rw [h39]; exact below_al B38.out _
            have O39 := Lib.hid (own_al O38.out h39)
            have HS39 := Lib.hid (strs_al HS38.out h39)
            have HW39 := Lib.hid (lt_al HW38.out h39)
            have X39 := Lib.hid (box_new (B := V.heap.size) B38.out.size h39)
            clear h39
            refine hK.out _ _ (fun _ => HSF.out _ B39.out) ?_
            clear hK K
            try simp only [Act.put, List.setIfInBounds_toArray, List.set_cons_zero, List.set_cons_succ]
            refine Ord.wpAnyU_one (i := 16) (by as_aux_lemma => kernel_rfl) rfl (fun K hK => ?_)
            obtain ⟨⟨x0, x1, x2, x3⟩, ⟨y0, y1, y2, y3⟩, xl⟩ := box_cells X39.out
            go_simp
            refine hK.out _ _ (fun h => by cases h) ?_
            clear hK K
            try simp only [Act.put, List.setIfInBounds_toArray, List.set_cons_zero, List.set_cons_succ]
            refine Ord.wpAnyU_done (by as_aux_lemma => kernel_rfl) ?_ _
            obtain ⟨hN21, hG21⟩ := Nxt.made (wr := wr) (S := S) (r := arg) X39.out.1 (Nat.le_trans hbV.out.size X39.out.2) HS39.out (fun x hx => ⟨Nat.le_trans hbV.out.size (HW39.out x hx).1, (HW39.out x hx).2⟩) (own_xb O39.out X39.out.1 (by decide)) hq8 rfl
            have hB21 := B39.out.grown hG21 (B39.out.size) (fun x e => by have e1 := Option.some.inj e; rw [← e1]; exact X39.out.2)
            exact hQ.out _ a8 c8 _ _ _ _ _ _ _ _ _ _ _ _ _ _ _ _ hN21 hB21
          · go_simp
            obtain ⟨U41, h41⟩ : ∃ U, U = U38.alloc (Obj.cells #[Value.int .i64 0, Value.bool false, Value.string ⟨#[]⟩, Value.slice none 0 0] 33) := ⟨_, rfl⟩
            rw [← h41]
            have B41 : Hid (Below V.heap.size V U41) := by rw [h41]; exact below_al B38.out _
            have O41 := Lib.hid (own_al O38.out h41)
            have HS41 := Lib.hid (strs_al HS38.out h41)
            have HW41 := Lib.hid (lt_al HW38.out h41)
            have X41 := Lib.hid (box_new (B := V.heap.size) B38.out.size h41)
            clear h41
            refine hK.out _ _ (fun _ => HSF.out _ B41.out) ?_
            clear hK K
            try simp only [Act.put, List.setIfInBounds_toArray, List.set_cons_zero, List.set_cons_succ]
            refine Ord.wpAnyU_one (i := 14) (by as_aux_lemma => kernel_rfl) rfl (fun K hK => ?_)
            go_simp
            refine hK.out _ _ (fun h => by cases h) ?_
            clear hK K
            try simp only [Act.put, List.setIfInBounds_toArray, List.set_cons_zero, List.set_cons_succ]
            refine Ord.wpAnyU_one (i := 16) (by as_aux_lemma => kernel_rfl) rfl (fun K hK => ?_)
            obtain ⟨⟨x0, x1, x2, x3⟩, ⟨y0, y1, y2, y3⟩, xl⟩ := box_cells X41.out
            go_simp
            refine hK.out _ _ (fun h => by cases h) ?_
            clear hK K
            try simp only [Act.put, List.setIfInBounds_toArray, List.set_cons_zero, List.set_cons_succ]
            refine Ord.wpAnyU_done (by as_aux_lemma => kernel_rfl) ?_ _
            obtain ⟨hN21, hG21⟩ := Nxt.made (wr := wr) (S := S) (r := arg) X41.out.1 (Nat.le_trans hbV.out.size X41.out.2) HS41.out (fun x hx => ⟨Nat.le_trans hbV.out.size (HW41.out x hx).1, (HW41.out x hx).2⟩) (own_xb O41.out X41.out.1 (by decide)) hq8 rfl
            have hB21 := B41.out.grown hG21 (B41.out.size) (fun x e => by have e1 := Option.some.inj e; rw [← e1]; exact X41.out.2)
            exact hQ.out _ a8 c8 _ _ _ _ _ _ _ _ _ _ _ _ _ _ _ _ hN21 hB21
        · go_simp
          obtain ⟨U43, h43⟩ : ∃ U, U = U37.alloc (Obj.cells #[Value.int .i64 0, Value.bool false, Value.string ⟨#[]⟩, Value.slice none 0 0] 33) := ⟨_, rfl⟩
          rw [← h43]
          have B43 : Hid (Below V.heap.size V U43) := by rw [h43]; exact below_al B37.out _
          have O43 := Lib.hid (own_al O37.out h43)
          have A43 := Lib.hid (one_al A37.out h43)
          have X43 := Lib.hid (box_new (B := V.heap.size) B37.out.size h43)
          clear h43
          refine hK.out _ _ (fun _ => HSF.out _ B43.out) ?_
          clear hK K
          try simp only [Act.put, List.setIfInBounds_toArray, List.set_cons_zero, List.set_cons_succ]
          refine Ord.wpAnyU_one (i := 13) (by as_aux_lemma => kernel_rfl) rfl (fun K hK => ?_)
          refine step_recs rfl (.tmp 94) (.tmp 97) 31 rfl V.heap.size 9 i0 _ Try.underlying31 hi hz0 hz1 hz2 rfl v37 (0 + S.recs.length) ([] ++ rows S.recs) rfl ?ho _ 1 _ [AR] rfl rfl (fun h => by cases h) ?hs ?hn ?hb ?_
          case ho => exact O43.out
          case hs => exact strs_one1 A43.out.2
          case hn => omega
          case hb => exact B43.out.size
          intro v44 U44 o44 g44 b44
          have B44 := Lib.hid (b44 _ B43.out)
          have O44 := Lib.hid o44
          have X44 := Lib.hid (box_grow X43.out g44 (own_ne O43.out X43.out.1 (by decide)))
          clear o44 g44 b44
          obtain ⟨a8, c8, rfl, hs8, hw8, hq8⟩ := own_recs arg O44.out hAR.out
          have HS44 := Lib.hid hs8
          have HW44 := Lib.hid hw8
          clear hs8 hw8
          refine hK.out _ _ (fun _ => HSF.out _ B44.out) ?_
          clear hK K
          try simp only [Act.put, List.setIfInBounds_toArray, List.set_cons_zero, List.set_cons_succ]
          refine Ord.wpAnyU_one (i := 14) (by as_aux_lemma => kernel_rfl) rfl (fun K hK => ?_)
          go_simp
          refine hK.out _ _ (fun h => by cases h) ?_
          clear hK K
          try simp only [Act.put, List.setIfInBounds_toArray, List.set_cons_zero, List.set_cons_succ]
          refine Ord.wpAnyU_one (i := 16) (by as_aux_lemma => kernel_rfl) rfl (fun K hK => ?_)
          obtain ⟨⟨x0, x1, x2, x3⟩, ⟨y0, y1, y2, y3⟩, xl⟩ := box_cells X44.out
          go_simp
          refine hK.out _ _ (fun h => by cases h) ?_
          clear hK K
          try simp only [Act.put, List.setIfInBounds_toArray, List.set_cons_zero, List.set_cons_succ]
          refine Ord.wpAnyU_done (by as_aux_lemma => kernel_rfl) ?_ _
          obtain ⟨hN21, hG21⟩ := Nxt.made (wr := wr) (S := S) (r := arg) X44.out.1 (Nat.le_trans hbV.out.size X44.out.2) HS44.out (fun x hx => ⟨Nat.le_trans hbV.out.size (HW44.out x hx).1, (HW44.out x hx).2⟩) (own_xb O44.out X44.out.1 (by decide)) hq8 rfl
          have hB21 := B44.out.grown hG21 (B44.out.size) (fun x e => by have e1 := Option.some.inj e; rw [← e1]; exact X44.out.2)
          exact hQ.out _ a8 c8 _ _ _ _ _ _ _ _ _ _ _ _ _ _ _ _ hN21 hB21
      · go_simp
        obtain ⟨U46, h46⟩ : ∃ U, U = U36.alloc (Obj.cells #[Value.int .i64 0, Value.bool false, Value.string ⟨#[]⟩, Value.slice none 0 0] 33) := ⟨_, rfl⟩
        rw [← h46]
        have B46 : Hid (Below V.heap.size V U46) := by rw [h46]; exact below_al B36.out _
        have O46 := Lib.hid (own_al O36.out h46)
        have A46 := Lib.hid (one_al A36.out h46)
        have X46 := Lib.hid (box_new (B := V.heap.size) B36.out.size h46)
        clear h46
        refine hK.out _ _ (fun _ => HSF.out _ B46.out) ?_
        clear hK K
        try simp only [Act.put, List.setIfInBounds_toArray, List.set_cons_zero, List.set_cons_succ]
        refine Ord.wpAnyU_one (i := 9) (by as_aux_lemma => kernel_rfl) rfl (fun K hK => ?_)
        refine step_recs rfl (.tmp 91) (.tmp 93) 31 rfl V.heap.size 9 i0 _ Try.underlying31 hi hz0 hz1 hz2 rfl (.slice (some ⟨W6.heap.size, 0, none⟩) 0 0) 0 [] rfl ?ho a S.recs.length cap (rows S.recs) rfl (rows_length _) hnil ?hs ?hn ?hb ?_
        case ho => exact O46.out
        case hs => exact hRC.out.below B46.out
        case hn => omega
        case hb => exact B46.out.size
        intro v47 U47 o47 g47 b47
        have B47 := Lib.hid (b47 _ B46.out)
        have O47 := Lib.hid o47
        have A47 := Lib.hid (one_grow A46.out g47 N36.out)
        have X47 := Lib.hid (box_grow X46.out g47 (own_ne O46.out X46.out.1 (by decide)))
        clear o47 g47 b47
        refine hK.out _ _ (fun _ => HSF.out _ B47.out) ?_
        clear hK K
        try simp only [Act.put, List.setIfInBounds_toArray, List.set_cons_zero, List.set_cons_succ]
        refine Ord.wpAnyU_one (i := 13) (by as_aux_lemma => kernel_rfl) rfl (fun K hK => ?_)
        refine step_recs rfl (.tmp 94) (.tmp 97) 31 rfl V.heap.size 9 i0 _ Try.underlying31 hi hz0 hz1 hz2 rfl v47 (0 + S.recs.length) ([] ++ rows S.recs) rfl ?ho _ 1 _ [AR] rfl rfl (fun h => by cases h) ?hs ?hn ?hb ?_
        case ho => exact O47.out
        case hs => exact strs_one1 A47.out.2
        case hn => omega
        case hb => exact B47.out.size
        intro v48 U48 o48 g48 b48
        have B48 := Lib.hid (b48 _ B47.out)
        have O48 := Lib.hid o48
        have X48 := Lib.hid (box_grow X47.out g48 (own_ne O47.out X47.out.1 (by decide)))
        clear o48 g48 b48
        obtain ⟨a8, c8, rfl, hs8, hw8, hq8⟩ := own_recs arg O48.out hAR.out
        have HS48 := Lib.hid hs8
        have HW48 := Lib.hid hw8
        clear hs8 hw8
        refine hK.out _ _ (fun _ => HSF.out _ B48.out) ?_
        clear hK K
        try simp only [Act.put, List.setIfInBounds_toArray, List.set_cons_zero, List.set_cons_succ]
        refine Ord.wpAnyU_one (i := 14) (by as_aux_lemma => kernel_rfl) rfl (fun K hK => ?_)
        go_simp
        refine hK.out _ _ (fun h => by cases h) ?_
        clear hK K
        try simp only [Act.put, List.setIfInBounds_toArray, List.set_cons_zero, List.set_cons_succ]
        refine Ord.wpAnyU_one (i := 16) (by as_aux_lemma => kernel_rfl) rfl (fun K hK => ?_)
        obtain ⟨⟨x0, x1, x2, x3⟩, ⟨y0, y1, y2, y3⟩, xl⟩ := box_cells X48.out
        go_simp
        refine hK.out _ _ (fun h => by cases h) ?_
        clear hK K
        try simp only [Act.put, List.setIfInBounds_toArray, List.set_cons_zero, List.set_cons_succ]
        refine Ord.wpAnyU_done (by as_aux_lemma => kernel_rfl) ?_ _
        obtain ⟨hN21, hG21⟩ := Nxt.made (wr := wr) (S := S) (r := arg) X48.out.1 (Nat.le_trans hbV.out.size X48.out.2) HS48.out (fun x hx => ⟨Nat.le_trans hbV.out.size (HW48.out x hx).1, (HW48.out x hx).2⟩) (own_xb O48.out X48.out.1 (by decide)) hq8 rfl
        have hB21 := B48.out.grown hG21 (B48.out.size) (fun x e => by have e1 := Option.some.inj e; rw [← e1]; exact X48.out.2)
        exact hQ.out _ a8 c8 _ _ _ _ _ _ _ _ _ _ _ _ _ _ _ _ hN21 hB21
    · go_simp
      obtain ⟨U50, h50⟩ : ∃ U, U = U21.alloc (Obj.cells #[Value.int .i64 0, Value.bool false, Value.string ⟨#[]⟩, Value.slice none 0 0] 33) := ⟨_, rfl⟩
      rw [← h50]
      have B50 : Hid (Below V.heap.size V U50) := by rw [h50]; exact below_al B21.out _
      have O50 := Lib.hid (own_al O21.out h50)
      have X50 := Lib.hid (box_new (B := V.heap.size) B21.out.size h50)
      clear h50
      refine hK.out _ _ (fun _ => HSF.out _ B50.out) ?_
      clear hK K
      try simp only [Act.put, List.setIfInBounds_toArray, List.set_cons_zero, List.set_cons_succ]
      refine Ord.wpAnyU_two (i := 9) (j := 12) (by as_aux_lemma => kernel_rfl) rfl rfl (fun K hK => ?_) (fun K hK => ?_)
      · refine step_recs rfl (.tmp 91) (.tmp 93) 31 rfl V.heap.size 9 i0 _ Try.underlying31 hi hz0 hz1 hz2 rfl (.slice (some ⟨W6.heap.size, 0, none⟩) 0 0) 0 [] rfl ?ho a S.recs.length cap (rows S.recs) rfl (rows_length _) hnil ?hs ?hn ?hb ?_
        case ho => exact O50.out
        case hs => exact hRC.out.below B50.out
        case hn => omega
        case hb => exact B50.out.size
        intro v51 U51 o51 g51 b51
        have B51 := Lib.hid (b51 _ B50.out)
        have O51 := Lib.hid o51
        have X51 := Lib.hid (box_grow X50.out g51 (own_ne O50.out X50.out.1 (by decide)))
        clear o51 g51 b51
        refine hK.out _ _ (fun _ => HSF.out _ B51.out) ?_
        clear hK K
        try simp only [Act.put, List.setIfInBounds_toArray, List.set_cons_zero, List.set_cons_succ]
        refine Ord.wpAnyU_one (i := 12) (by as_aux_lemma => kernel_rfl) rfl (fun K hK => ?_)
        go_simp
        obtain ⟨U52, h52⟩ : ∃ U, U = U51.alloc (Obj.cells #[Value.string AR] 9) := ⟨_, rfl⟩
        rw [← h52]
        have B52 : Hid (Below V.heap.size V U52) := by rw [h52]; exact below_al B51.out _
        have O52 := Lib.hid (own_al O51.out h52)
        have X52 := Lib.hid (box_al X51.out h52)
        have A52 := Lib.hid (one_new h52)
        clear h52
        refine hK.out _ _ (fun _ => HSF.out _ B52.out) ?_
        clear hK K
        try simp only [Act.put, List.setIfInBounds_toArray, List.set_cons_zero, List.set_cons_succ]
        refine Ord.wpAnyU_one (i := 13) (by as_aux_lemma => kernel_rfl) rfl (fun K hK => ?_)
        refine step_recs rfl (.tmp 94) (.tmp 97) 31 rfl V.heap.size 9 i0 _ Try.underlying31 hi hz0 hz1 hz2 rfl v51 (0 + S.recs.length) ([] ++ rows S.recs) rfl ?ho _ 1 _ [AR] rfl rfl (fun h => by cases h) ?hs ?hn ?hb ?_
        case ho => exact O52.out
        case hs => exact strs_one1 A52.out.2
        case hn => omega
        case hb => exact B52.out.size
        intro v53 U53 o53 g53 b53
        have B53 := Lib.hid (b53 _ B52.out)
        have O53 := Lib.hid o53
        have X53 := Lib.hid (box_grow X52.out g53 (own_ne O52.out X52.out.1 (by decide)))
        clear o53 g53 b53
        obtain ⟨a8, c8, rfl, hs8, hw8, hq8⟩ := own_recs arg O53.out hAR.out
        have HS53 := Lib.hid hs8
        have HW53 := Lib.hid hw8
        clear hs8 hw8
        refine hK.out _ _ (fun _ => HSF.out _ B53.out) ?_
        clear hK K
        try simp only [Act.put, List.setIfInBounds_toArray, List.set_cons_zero, List.set_cons_succ]
        refine Ord.wpAnyU_one (i := 14) (by as_aux_lemma => kernel_rfl) rfl (fun K hK => ?_)
        go_simp
        refine hK.out _ _ (fun h => by cases h) ?_
        clear hK K
        try simp only [Act.put, List.setIfInBounds_toArray, List.set_cons_zero, List.set_cons_succ]
        refine Ord.wpAnyU_one (i := 16) (by as_aux_lemma => kernel_rfl) rfl (fun K hK => ?_)
        obtain ⟨⟨x0, x1, x2, x3⟩, ⟨y0, y1, y2, y3⟩, xl⟩ := box_cells X53.out
        go_simp
        refine hK.out _ _ (fun h => by cases h) ?_
        clear hK K
        try simp only [Act.put, List.setIfInBounds_toArray, List.set_cons_zero, List.set_cons_succ]
        refine Ord.wpAnyU_done (by as_aux_lemma => kernel_rfl) ?_ _
        obtain ⟨hN21, hG21⟩ := Nxt.made (wr := wr) (S := S) (r := arg) X53.out.1 (Nat.le_trans hbV.out.size X53.out.2) HS53.out (fun x hx => ⟨Nat.le_trans hbV.out.size (HW53.out x hx).1, (HW53.out x hx).2⟩) (own_xb O53.out X53.out.1 (by decide)) hq8 rfl
        have hB21 := B53.out.grown hG21 (B53.out.size) (fun x e => by have e1 := Option.some.inj e; rw [← e1]; exact X53.out.2)
        exact hQ.out _ a8 c8 _ _ _ _ _ _ _ _ _ _ _ _ _ _ _ _ hN21 hB21
      · go_simp
        obtain ⟨U55, h55⟩ : ∃ U, U = U50.alloc (Obj.cells #[Value.string AR] 9) := ⟨_, rfl⟩
        rw [← h55]
        have B55 : Hid (Below V.heap.size V U55) := by rw [h55]; exact below_al B50.out _
        have O55 := Lib.hid (own_al O50.out h55)
        have X55 := Lib.hid (box_al X50.out h55)
        have A55 := Lib.hid (one_new h55)
        have N55 := Lib.hid (own_not O50.out)
        clear h55
        refine hK.out _ _ (fun _ => HSF.out _ B55.out) ?_
        clear hK K
        try simp only [Act.put, List.setIfInBounds_toArray, List.set_cons_zero, List.set_cons_succ]
        refine Ord.wpAnyU_one (i := 9) (by as_aux_lemma => kernel_rfl) rfl (fun K hK => ?_)
        refine step_recs rfl (.tmp 91) (.tmp 93) 31 rfl V.heap.size 9 i0 _ Try.underlying31 hi hz0 hz1 hz2 rfl (.slice (some ⟨W6.heap.size, 0, none⟩) 0 0) 0 [] rfl ?ho a S.recs.length cap (rows S.recs) rfl (rows_length _) hnil ?hs ?hn ?hb ?_
        case ho => exact O55.out
        case hs => exact hRC.out.below B55.out
        case hn => omega
        case hb => exact B55.out.size
        intro v56 U56 o56 g56 b56
        have B56 := Lib.hid (b56 _ B55.out)
        have O56 := Lib.hid o56
        have A56 := Lib.hid (one_grow A55.out g56 N55.out)
        have X56 := Lib.hid (box_grow X55.out g56 (own_ne O55.out X55.out.1 (by decide)))
        clear o56 g56 b56
        refine hK.out _ _ (fun _ => HSF.out _ B56.out) ?_
        clear hK K
        try simp only [Act.put, List.setIfInBounds_toArray, List.set_cons_zero, List.set_cons_succ]
        refine Ord.wpAnyU_one (i := 13) (by as_aux_lemma => kernel_rfl) rfl (fun K hK => ?_)
        refine step_recs rfl (.tmp 94) (.tmp 97) 31 rfl V.heap.size 9 i0 _ Try.underlying31 hi hz0 hz1 hz2 rfl v56 (0 + S.recs.length) ([] ++ rows S.recs) rfl ?ho _ 1 _ [AR] rfl rfl (fun h => by cases h) ?hs ?hn ?hb ?_
        case ho => exact O56.out
        case hs => exact strs_one1 A56.out.2
        case hn => omega
        case hb => exact B56.out.size
        intro v57 U57 o57 g57 b57
        have B57 := Lib.hid (b57 _ B56.out)
        have O57 := Lib.hid o57
        have X57 := Lib.hid (box_grow X56.out g57 (own_ne O56.out X56.out.1 (by decide)))
        clear o57 g57 b57
        obtain ⟨a8, c8, rfl, hs8, hw8, hq8⟩ := own_recs arg O57.out hAR.out
        have HS57 := Lib.hid hs8
        have HW57 := Lib.hid hw8
        clear hs8 hw8
        refine hK.out _ _ (fun _ => HSF.out _ B57.out) ?_
        clear hK K
        try simp only [Act.put, List.setIfInBounds_toArray, List.set_cons_zero, List.set_cons_succ]
        refine Ord.wpAnyU_one (i := 14) (by as_aux_lemma => kernel_rfl) rfl (fun K hK => ?_)
        go_simp
        refine hK.out _ _ (fun h => by cases h) ?_
        clear hK K
        try simp only [Act.put, List.setIfInBounds_toArray, List.set_cons_zero, List.set_cons_succ]
        refine Ord.wpAnyU_one (i := 16) (by as_aux_lemma => kernel_rfl) rfl (fun K hK => ?_)
        obtain ⟨⟨x0, x1, x2, x3⟩, ⟨y0, y1, y2, y3⟩, xl⟩ := box_cells X57.out
        go_simp
        refine hK.out _ _ (fun h => by cases h) ?_
        clear hK K
        try simp only [Act.put, List.setIfInBounds_toArray, List.set_cons_zero, List.set_cons_succ]
        refine Ord.wpAnyU_done (by as_aux_lemma => kernel_rfl) ?_ _
        obtain ⟨hN21, hG21⟩ := Nxt.made (wr := wr) (S := S) (r := arg) X57.out.1 (Nat.le_trans hbV.out.size X57.out.2) HS57.out (fun x hx => ⟨Nat.le_trans hbV.out.size (HW57.out x hx).1, (HW57.out x hx).2⟩) (own_xb O57.out X57.out.1 (by decide)) hq8 rfl
        have hB21 := B57.out.grown hG21 (B57.out.size) (fun x e => by have e1 := Option.some.inj e; rw [← e1]; exact X57.out.2)
        exact hQ.out _ a8 c8 _ _ _ _ _ _ _ _ _ _ _ _ _ _ _ _ hN21 hB21
  · go_simp
    obtain ⟨U59, h59⟩ : ∃ U, U = W6.alloc (Obj.cells #[Value.string AR] 9) := ⟨_, rfl⟩
    rw [← h59]
    have B59 : Hid (Below V.heap.size V U59) := by rw [h59]; exact below_al hb6.out _
    have A59 := Lib.hid (one_new h59)
    clear h59
    refine hK.out _ _ (fun _ => HSF.out _ B59.out) ?_
    clear hK K
    try simp only [Act.put, List.setIfInBounds_toArray, List.set_cons_zero, List.set_cons_succ]
    refine Ord.wpAnyU_two (i := 6) (j := 15) (by as_aux_lemma => kernel_rfl) rfl rfl (fun K hK => ?_) (fun K hK => ?_)
    · go_simp
      obtain ⟨U60, h60⟩ : ∃ U, U = U59.alloc (Obj.cells #[] 9) := ⟨_, rfl⟩
      rw [← h60]
      have B60 : Hid (Below V.heap.size V U60) := by rw [h60]; exact below_al B59.out _
      have A60 := Lib.hid (one_al A59.out h60)
      have O60 := Lib.hid (own_new V.heap.size B59.out.size h60)
      have N60 := Lib.hid (one_ne (n := 0) (c := 0) A59.out)
      clear h60
      refine hK.out _ _ (fun _ => HSF.out _ B60.out) ?_
      clear hK K
      try simp only [Act.put, List.setIfInBounds_toArray, List.set_cons_zero, List.set_cons_succ]
      refine Ord.wpAnyU_two (i := 9) (j := 15) (by as_aux_lemma => kernel_rfl) rfl rfl (fun K hK => ?_) (fun K hK => ?_)
      · refine step_recs rfl (.tmp 91) (.tmp 93) 31 rfl V.heap.size 9 i0 _ Try.underlying31 hi hz0 hz1 hz2 rfl (.slice (some ⟨U59.heap.size, 0, none⟩) 0 0) 0 [] rfl ?ho a S.recs.length cap (rows S.recs) rfl (rows_length _) hnil ?hs ?hn ?hb ?_
        case ho => exact O60.out
        case hs => exact hRC.out.below B60.out
        case hn => omega
        case hb => exact B60.out.size
        intro v61 U61 o61 g61 b61
        have B61 := Lib.hid (b61 _ B60.out)
        have O61 := Lib.hid o61
        have A61 := Lib.hid (one_grow A60.out g61 N60.out)
        clear o61 g61 b61
        refine hK.out _ _ (fun _ => HSF.out _ B61.out) ?_
        clear hK K
        try simp only [Act.put, List.setIfInBounds_toArray, List.set_cons_zero, List.set_cons_succ]
        refine Ord.wpAnyU_two (i := 13) (j := 15) (by as_aux_lemma => kernel_rfl) rfl rfl (fun K hK => ?_) (fun K hK => ?_)
        · refine step_recs rfl (.tmp 94) (.tmp 97) 31 rfl V.heap.size 9 i0 _ Try.underlying31 hi hz0 hz1 hz2 rfl v61 (0 + S.recs.length) ([] ++ rows S.recs) rfl ?ho _ 1 _ [AR] rfl rfl (fun h => by cases h) ?hs ?hn ?hb ?_
          case ho => exact O61.out
          case hs => exact strs_one1 A61.out.2
          case hn => omega
          case hb => exact B61.out.size
          intro v62 U62 o62 g62 b62
          have B62 := Lib.hid (b62 _ B61.out)
          have O62 := Lib.hid o62
          clear o62 g62 b62
          obtain ⟨a8, c8, rfl, hs8, hw8, hq8⟩ := own_recs arg O62.out hAR.out
          have HS62 := Lib.hid hs8
          have HW62 := Lib.hid hw8
          clear hs8 hw8
          refine hK.out _ _ (fun _ => HSF.out _ B62.out) ?_
          clear hK K
          try simp only [Act.put, List.setIfInBounds_toArray, List.set_cons_zero, List.set_cons_succ]
          refine Ord.wpAnyU_two (i := 14) (j := 15) (by as_aux_lemma => kernel_rfl) rfl rfl (fun K hK => ?_) (fun K hK => ?_)
          · go_simp
            refine hK.out _ _ (fun h => by cases h) ?_
            clear hK K
            try simp only [Act.put, List.setIfInBounds_toArray, List.set_cons_zero, List.set_cons_succ]
            refine Ord.wpAnyU_one (i := 15) (by as_aux_lemma => kernel_rfl) rfl (fun K hK => ?_)
            go_simp
            obtain ⟨U63, h63⟩ : ∃ U, U = U62.alloc (Obj.cells #[Value.int .i64 0, Value.bool false, Value.string ⟨#[]⟩, Value.slice none 0 0] 33) := ⟨_, rfl⟩
            rw [← h63]
            have B63 : Hid (Below V.heap.size V U63) := by rw [h63]; exact below_al B62.out _
            have O63 := Lib.hid (own_al O62.out h63)
            have HS63 := Lib.hid (strs_al HS62.out h63)
            have HW63 := Lib.hid (lt_al HW62.out h63)
            have X63 := Lib.hid (box_new (B := V.heap.size) B62.out.size h63)
            clear h63
            refine hK.out _ _ (fun _ => HSF.out _ B63.out) ?_
            clear hK K
            try simp only [Act.put, List.setIfInBounds_toArray, List.set_cons_zero, List.set_cons_succ]
            refine Ord.wpAnyU_one (i := 16) (by as_aux_lemma => kernel_rfl) rfl (fun K hK => ?_)
            obtain ⟨⟨x0, x1, x2, x3⟩, ⟨y0, y1, y2, y3⟩, xl⟩ := box_cells X63.out
            go_simp
            refine hK.out _ _ (fun h => by cases h) ?_
            clear hK K
            try simp only [Act.put, List.setIfInBounds_toArray, List.set_cons_zero, List.set_cons_succ]
            refine Ord.wpAnyU_done (by as_aux_lemma => kernel_rfl) ?_ _
            obtain ⟨hN21, hG21⟩ := Nxt.made (wr := wr) (S := S) (r := arg) X63.out.1 (Nat.le_trans hbV.out.size X63.out.2) HS63.out (fun x hx => ⟨Nat.le_trans hbV.out.size (HW63.out x hx).1, (HW63.out x hx).2⟩) (own_xb O63.out X63.out.1 (by decide)) hq8 rfl
            have hB21 := B63.out.grown hG21 (B63.out.size) (fun x e => by have e1 := Option.some.inj e; rw [← e1]; exact X63.out.2)
            exact hQ.out _ a8 c8 _ _ _ _ _ _ _ _ _ _ _ _ _ _ _ _ hN21 hB21
          · go_simp
            obtain ⟨U65, h65⟩ : ∃ U, U = U62.alloc (Obj.cells #[Value.int .i64 0, Value.bool false, Value.string ⟨#[]⟩, Value.slice none 0 0] 33) := ⟨_, rfl⟩
            rw [← h65]
            have B65 : Hid (Below V.heap.size V U65) := by rw [h65]; exact below_al B62.out _
            have O65 := Lib.hid (own_al O62.out h65)
            have HS65 := Lib.hid (strs_al HS62.out h65)
            have HW65 := Lib.hid (lt_al HW62.out h65)
            have X65 := Lib.hid (box_new (B := V.heap.size) B62.out.size h65)
            clear h65
            refine hK.out _ _ (fun _ => HSF.out _ B65.out) ?_
            clear hK K
            try simp only [Act.put, List.setIfInBounds_toArray, List.set_cons_zero, List.set_cons_succ]
            refine Ord.wpAnyU_one (i := 14) (by as_aux_lemma => kernel_rfl) rfl (fun K hK => ?_)
            go_simp
            refine hK.out _ _ (fun h => by cases h) ?_
            clear hK K
            try simp only [Act.put, List.setIfInBounds_toArray, List.set_cons_zero, List.set_cons_succ]
            refine Ord.wpAnyU_one (i := 16) (by as_aux_lemma => kernel_rfl) rfl (fun K hK => ?_)
            obtain ⟨⟨x0, x1, x2, x3⟩, ⟨y0, y1, y2, y3⟩, xl⟩ := box_cells X65.out
            go_simp
            refine hK.out _ _ (fun h => by cases h) ?_
            clear hK K
            try simp only [Act.put, List.setIfInBounds_toArray, List.set_cons_zero, List.set_cons_succ]
            refine Ord.wpAnyU_done (by as_aux_lemma => kernel_rfl) ?_ _
            obtain ⟨hN21, hG21⟩ := Nxt.made (wr := wr) (S := S) (r := arg) X65.out.1 (Nat.le_trans hbV.out.size X65.out.2) HS65.out (fun x hx => ⟨Nat.le_trans hbV.out.size (HW65.out x hx).1, (HW65.out x hx).2⟩) (own_xb O65.out X65.out.1 (by decide)) hq8 rfl
            have hB21 := B65.out.grown hG21 (B65.out.size) (fun x e => by have e1 := Option.some.inj e; rw [← e1]; exact X65.out.2)
            exact hQ.out _ a8 c8 _ _ _ _ _ _ _ _ _ _ _ _ _ _ _ _ hN21 hB21
        · go_simp
          obtain ⟨U67, h67⟩ : ∃ U, U = U61.alloc (Obj.cells #[Value.int .i64 0, Value.bool false, Value.string ⟨#[]⟩, Value.slice none 0 0] 33) := ⟨_, rfl⟩
          rw [← h67]
          have B67 : Hid (Below V.heap.size V U67) := by rw [h67]; exact below_al B61.out _
          have O67 := Lib.hid (own_al O61.out h67)
          have A67 := Lib.hid (one_al A61.out h67)
          have X67 := Lib.hid (box_new (B := V.heap.size) B61.out.size h67)
          clear h67
          refine hK.out _ _ (fun _ => HSF.out _ B67.out) ?_
          clear hK K
          try simp only [Act.put, List.setIfInBounds_toArray, List.set_cons_zero, List.set_cons_succ]
          refine Ord.wpAnyU_one (i := 13) (by as_aux_lemma => kernel_rfl) rfl (fun K hK => ?_)
          refine step_recs rfl (.tmp 94) (.tmp 97) 31 rfl V.heap.size 9 i0 _ Try.underlying31 hi hz0 hz1 hz2 rfl v61 (0 + S.recs.length) ([] ++ rows S.recs) rfl ?ho _ 1 _ [AR] rfl rfl (fun h => by cases h) ?hs ?hn ?hb ?_
          case ho => exact O67.out
          case hs => exact strs_one1 A67.out.2
          case hn => omega
          case hb => exact B67.out.size
          intro v68 U68 o68 g68 b68
          have B68 := Lib.hid (b68 _ B67.out)
          have O68 := Lib.hid o68
          have X68 := Lib.hid (box_grow X67.out g68 (own_ne O67.out X67.out.1 (by decide)))
          clear o68 g68 b68
          obtain ⟨a8, c8, rfl, hs8, hw8, hq8⟩ := own_recs arg O68.out hAR.out
          have HS68 := Lib.hid hs8
          have HW68 := Lib.hid hw8
          clear hs8 hw8
          refine hK.out _ _ (fun _ => HSF.out _ B68.out) ?_
          clear hK K
          try simp only [Act.put, List.setIfInBounds_toArray, List.set_cons_zero, List.set_cons_succ]
          refine Ord.wpAnyU_one (i := 14) (by as_aux_lemma => kernel_rfl) rfl (fun K hK => ?_)
          go_simp
          refine hK.out _ _ (fun h => by cases h) ?_
          clear hK K
          try simp only [Act.put, List.setIfInBounds_toArray, List.set_cons_zero, List.set_cons_succ]
          refine Ord.wpAnyU_one (i := 16) (by as_aux_lemma => kernel_rfl) rfl (fun K hK => ?_)
          obtain ⟨⟨x0, x1, x2, x3⟩, ⟨y0, y1, y2, y3⟩, xl⟩ := box_cells X68.out
          go_simp
          refine hK.out _ _ (fun h => by cases h) ?_
          clear hK K
          try simp only [Act.put, List.setIfInBounds_toArray, List.set_cons_zero, List.set_cons_succ]
          refine Ord.wpAnyU_done (by as_aux_lemma => kernel_rfl) ?_ _
          obtain ⟨hN21, hG21⟩ := Nxt.made (wr := wr) (S := S) (r := arg) X68.out.1 (Nat.le_trans hbV.out.size X68.out.2) HS68.out (fun x hx => ⟨Nat.le_trans hbV.out.size (HW68.out x hx).1, (HW68.out x hx).2⟩) (own_xb O68.out X68.out.1 (by decide)) hq8 rfl
          have hB21 := B68.out.grown hG21 (B68.out.size) (fun x e => by have e1 := Option.some.inj e; rw [← e1]; exact X68.out.2)
          exact hQ.out _ a8 c8 _ _ _ _ _ _ _ _ _ _ _ _ _ _ _ _ hN21 hB21
      · go_simp
        obtain ⟨U70, h70⟩ : ∃ U, U = U60.alloc (Obj.cells #[Value.int .i64 0, Value.bool false, Value.string ⟨#[]⟩, Value.slice none 0 0] 33) := ⟨_, rfl⟩
        rw [← h70]
        have B70 : Hid (Below V.heap.size V U70) := by rw [h70]; exact below_al B60.out _
        have O70 := Lib.hid (own_al O60.out h70)
        have A70 := Lib.hid (one_al A60.out h70)
        have X70 := Lib.hid (box_new (B := V.heap.size) B60.out.size h70)
        clear h70
        refine hK.out _ _ (fun _ => HSF.out _ B70.out) ?_
        clear hK K
        try simp only [Act.put, List.setIfInBounds_toArray, List.set_cons_zero, List.set_cons_succ]
        refine Ord.wpAnyU_one (i := 9) (by as_aux_lemma => kernel_rfl) rfl (fun K hK => ?_)
        refine step_recs rfl (.tmp 91) (.tmp 93) 31 rfl V.heap.size 9 i0 _ Try.underlying31 hi hz0 hz1 hz2 rfl (.slice (some ⟨U59.heap.size, 0, none⟩) 0 0) 0 [] rfl ?ho a S.recs.length cap (rows S.recs) rfl (rows_length _) hnil ?hs ?hn ?hb ?_
        case ho => exact O70.out
        case hs => exact hRC.out.below B70.out
        case hn => omega
        case hb => exact B70.out.size
        intro v71 U71 o71 g71 b71
        have B71 := Lib.hid (b71 _ B70.out)
        have O71 := Lib.hid o71
        have A71 := Lib.hid (one_grow A70.out g71 N60.out)
        have X71 := Lib.hid (box_grow X70.out g71 (own_ne O70.out X70.out.1 (by decide)))
        clear o71 g71 b71
        refine hK.out _ _ (fun _ => HSF.out _ B71.out) ?_
        clear hK K
        try simp only [Act.put, List.setIfInBounds_toArray, List.set_cons_zero, List.set_cons_succ]
        refine Ord.wpAnyU_one (i := 13) (by as_aux_lemma => kernel_rfl) rfl (fun K hK => ?_)
        refine step_recs rfl (.tmp 94) (.tmp 97) 31 rfl V.heap.size 9 i0 _ Try.underlying31 hi hz0 hz1 hz2 rfl v71 (0 + S.recs.length) ([] ++ rows S.recs) rfl ?ho _ 1 _ [AR] rfl rfl (fun h => by cases h) ?hs ?hn ?hb ?_
        case ho => exact O71.out
        case hs => exact strs_one1 A71.out.2
        case hn => omega
        case hb => exact B71.out.size
        intro v72 U72 o72 g72 b72
        have B72 := Lib.hid (b72 _ B71.out)
        have O72 := Lib.hid o72
        have X72 := Lib.hid (box_grow X71.out g72 (own_ne O71.out X71.out.1 (by decide)))
        clear o72 g72 b72
        obtain ⟨a8, c8, rfl, hs8, hw8, hq8⟩ := own_recs arg O72.out hAR.out
        have HS72 := Lib.hid hs8
        have HW72 := Lib.hid hw8
        clear hs8 hw8
        refine hK.out _ _ (fun _ => HSF.out _ B72.out) ?_
        clear hK K
        try simp only [Act.put, List.setIfInBounds_toArray, List.set_cons_zero, List.set_cons_succ]
        refine Ord.wpAnyU_one (i := 14) (by as_aux_lemma => kernel_rfl) rfl (fun K hK => ?_)
        go_simp
        refine hK.out _ _ (fun h => by cases h) ?_
        clear hK K
        try simp only [Act.put, List.setIfInBounds_toArray, List.set_cons_zero, List.set_cons_succ]
        refine Ord.wpAnyU_one (i := 16) (by as_aux_lemma => kernel_rfl) rfl (fun K hK => ?_)
        obtain ⟨⟨x0, x1, x2, x3⟩, ⟨y0, y1, y2, y3⟩, xl⟩ := box_cells X72.out
        go_simp
        refine hK.out _ _ (fun h => by cases h) ?_
        clear hK K
        try simp only [Act.put, List.setIfInBounds_toArray, List.set_cons_zero, List.set_cons_succ]
        refine Ord.wpAnyU_done (by as_aux_lemma => kernel_rfl) ?_ _
        obtain ⟨hN21, hG21⟩ := Nxt.made (wr := wr) (S := S) (r := arg) X72.out.1 (Nat.le_trans hbV.out.size X72.out.2) HS72.out (fun x hx => ⟨Nat.le_trans hbV.out.size (HW72.out x hx).1, (HW72.out x hx).2⟩) (own_xb O72.out X72.out.1 (by decide)) hq8 rfl
        have hB21 := B72.out.grown hG21 (B72.out.size) (fun x e => by have e1 := Option.some.inj e; rw [← e1]; exact X72.out.2)
        exact hQ.out _ a8 c8 _ _ _ _ _ _ _ _ _ _ _ _ _ _ _ _ hN21 hB21
    · go_simp
      obtain ⟨U74, h74⟩ : ∃ U, U = U59.alloc (Obj.cells #[Value.int .i64 0, Value.bool false, Value.string ⟨#[]⟩, Value.slice none 0 0] 33) := ⟨_, rfl⟩
      rw [← h74]
      have B74 : Hid (Below V.heap.size V U74) := by rw [h74]; exact below_al B59.out _
      have A74 := Lib.hid (one_al A59.out h74)
      have X74 := Lib.hid (box_new (B := V.heap.size) B59.out.size h74)
      clear h74
      refine hK.out _ _ (fun _ => HSF.out _ B74.out) ?_
      clear hK K
      try simp only [Act.put, List.setIfInBounds_toArray, List.set_cons_zero, List.set_cons_succ]
      refine Ord.wpAnyU_one (i := 6) (by as_aux_lemma => kernel_rfl) rfl (fun K hK => ?_)
      go_simp
      obtain ⟨U75, h75⟩ : ∃ U, U = U74.alloc (Obj.cells #[] 9) := ⟨_, rfl⟩
      rw [← h75]
      have B75 : Hid (Below V.heap.size V U75) := by rw [h75]; exact below_al B74.out _
      have A75 := Lib.hid (one_al A74.out h75)
      have X75 := Lib.hid (box_al X74.out h75)
      have O75 := Lib.hid (own_new V.heap.size B74.out.size h75)
      have N75 := Lib.hid (one_ne (n := 0) (c := 0) A74.out)
      clear h75
      refine hK.out _ _ (fun _ => HSF.out _ B75.out) ?_
      clear hK K
      try simp only [Act.put, List.setIfInBounds_toArray, List.set_cons_zero, List.set_cons_succ]
      refine Ord.wpAnyU_one (i := 9) (by as_aux_lemma => kernel_rfl) rfl (fun K hK => ?_)
      refine step_recs rfl (.tmp 91) (.tmp 93) 31 rfl V.heap.size 9 i0 _ Try.underlying31 hi hz0 hz1 hz2 rfl (.slice (some ⟨U74.heap.size, 0, none⟩) 0 0) 0 [] rfl ?ho a S.recs.length cap (rows S.recs) rfl (rows_length _) hnil ?hs ?hn ?hb ?_
      case ho => exact O75.out
      case hs => exact hRC.out.below B75.out
      case hn => omega
      case hb => exact B75.out.size
      intro v76 U76 o76 g76 b76
      have B76 := Lib.hid (b76 _ B75.out)
      have O76 := Lib.hid o76
      have A76 := Lib.hid (one_grow A75.out g76 N75.out)
      have X76 := Lib.hid (box_grow X75.out g76 (own_ne O75.out X75.out.1 (by decide)))
      clear o76 g76 b76
      refine hK.out _ _ (fun _ => HSF.out _ B76.out) ?_
      clear hK K
      try simp only [Act.put, List.setIfInBounds_toArray, List.set_cons_zero, List.set_cons_succ]
      refine Ord.wpAnyU_one (i := 13) (by as_aux_lemma => kernel_rfl) rfl (fun K hK => ?_)
      refine step_recs rfl (.tmp 94) (.tmp 97) 31 rfl V.heap.size 9 i0 _ Try.underlying31 hi hz0 hz1 hz2 rfl v76 (0 + S.recs.length) ([] ++ rows S.recs) rfl ?ho _ 1 _ [AR] rfl rfl (fun h => by cases h) ?hs ?hn ?hb ?_
      case ho => exact O76.out
      case hs => exact strs_one1 A76.out.2
      case hn => omega
      case hb => exact B76.out.size
      intro v77 U77 o77 g77 b77
      have B77 := Lib.hid (b77 _ B76.out)
      have O77 := Lib.hid o77
      have X77 := Lib.hid (box_grow X76.out g77 (own_ne O76.out X76.out.1 (by decide)))
      clear o77 g77 b77
      obtain ⟨a8, c8, rfl, hs8, hw8, hq8⟩ := own_recs arg O77.out hAR.out
      have HS77 := Lib.hid hs8
      have HW77 := Lib.hid hw8
      clear hs8 hw8
      refine hK.out _ _ (fun _ => HSF.out _ B77.out) ?_
      clear hK K
      try simp only [Act.put, List.setIfInBounds_toArray, List.set_cons_zero, List.set_cons_succ]
      refine Ord.wpAnyU_one (i := 14) (by as_aux_lemma => kernel_rfl) rfl (fun K hK => ?_)
      go_simp
      refine hK.out _ _ (fun h => by cases h) ?_
      clear hK K
      try simp only [Act.put, List.setIfInBounds_toArray, List.set_cons_zero, List.set_cons_succ]
      refine Ord.wpAnyU_one (i := 16) (by as_aux_lemma => kernel_rfl) rfl (fun K hK => ?_)
      obtain ⟨⟨x0, x1, x2, x3⟩, ⟨y0, y1, y2, y3⟩, xl⟩ := box_cells X77.out
      go_simp
      refine hK.out _ _ (fun h => by cases h) ?_
      clear hK K
      try simp only [Act.put, List.setIfInBounds_toArray, List.set_cons_zero, List.set_cons_succ]
      refine Ord.wpAnyU_done (by as_aux_lemma => kernel_rfl) ?_ _
      obtain ⟨hN21, hG21⟩ := Nxt.made (wr := wr) (S := S) (r := arg) X77.out.1 (Nat.le_trans hbV.out.size X77.out.2) HS77.out (fun x hx => ⟨Nat.le_trans hbV.out.size (HW77.out x hx).1, (HW77.out x hx).2⟩) (own_xb O77.out X77.out.1 (by decide)) hq8 rfl
      have hB21 := B77.out.grown hG21 (B77.out.size) (fun x e => by have e1 := Option.some.inj e; rw [← e1]; exact X77.out.2)
      exact hQ.out _ a8 c8 _ _ _ _ _ _ _ _ _ _ _ _ _ _ _ _ hN21 hB21
  · go_simp
    obtain ⟨U79, h79⟩ : ∃ U, U = W6.alloc (Obj.cells #[Value.int .i64 0, Value.bool false, Value.string ⟨#[]⟩, Value.slice none 0 0] 33) := ⟨_, rfl⟩
    rw [← h79]
    have B79 : Hid (Below V.heap.size V U79) := by rw [h79]; exact below_al hb6.out _
    have X79 := Lib.hid (box_new (B := V.heap.size) hb6.out.size h79)
    clear h79
    refine hK.out _ _ (fun _ => HSF.out _ B79.out) ?_
    clear hK K
    try simp only [Act.put, List.setIfInBounds_toArray, List.set_cons_zero, List.set_cons_succ]
    refine Ord.wpAnyU_two (i := 6) (j := 12) (by as_aux_lemma => kernel_rfl) rfl rfl (fun K hK => ?_) (fun K hK => ?_)
    · go_simp
      obtain ⟨U80, h80⟩ : ∃ U, U = U79.alloc (Obj.cells #[] 9) := ⟨_, rfl⟩
      rw [← h80]
      have B80 : Hid (Below V.heap.size V U80) := by rw [h80]; exact below_al B79.out _
      have X80 := Lib.hid (box_al X79.out h80)
      have O80 := Lib.hid (own_new V.heap.size B79.out.size h80)
      clear h80
      refine hK.out _ _ (fun _ => HSF.out _ B80.out) ?_
      clear hK K
      try simp only [Act.put, List.setIfInBounds_toArray, List.set_cons_zero, List.set_cons_succ]
      refine Ord.wpAnyU_two (i := 9) (j := 12) (by as_aux_lemma => kernel_rfl) rfl rfl (fun K hK => ?_) (fun K hK => ?_)
      · refine step_recs rfl (.tmp 91) (.tmp 93) 31 rfl V.heap.size 9 i0 _ Try.underlying31 hi hz0 hz1 hz2 rfl (.slice (some ⟨U79.heap.size, 0, none⟩) 0 0) 0 [] rfl ?ho a S.recs.length cap (rows S.recs) rfl (rows_length _) hnil ?hs ?hn ?hb ?_
        case ho => exact O80.out
        case hs => exact hRC.out.below B80.out
        case hn => omega
        case hb => exact B80.out.size
        intro v81 U81 o81 g81 b81
        have B81 := Lib.hid (b81 _ B80.out)
        have O81 := Lib.hid o81
        have X81 := Lib.hid (box_grow X80.out g81 (own_ne O80.out X80.out.1 (by decide)))
        clear o81 g81 b81
        refine hK.out _ _ (fun _ => HSF.out _ B81.out) ?_
        clear hK K
        try simp only [Act.put, List.setIfInBounds_toArray, List.set_cons_zero, List.set_cons_succ]
        refine Ord.wpAnyU_one (i := 12) (by as_aux_lemma => kernel_rfl) rfl (fun K hK => ?_)
        go_simp
        obtain ⟨U82, h82⟩ : ∃ U, U = U81.alloc (Obj.cells #[Value.string AR] 9) := ⟨_, rfl⟩
        rw [← h82]
        have B82 : Hid (Below V.heap.size V U82) := by rw [h82]; exact below_al B81.out _
        have O82 := Lib.hid (own_al O81.out h82)
        have X82 := Lib.hid (box_al X81.out h82)
        have A82 := Lib.hid (one_new h82)
        clear h82
        refine hK.out _ _ (fun _ => HSF.out _ B82.out) ?_
        clear hK K
        try simp only [Act.put, List.setIfInBounds_toArray, List.set_cons_zero, List.set_cons_succ]
        refine Ord.wpAnyU_one (i := 13) (by as_aux_lemma => kernel_rfl) rfl (fun K hK => ?_)
        refine step_recs rfl (.tmp 94) (.tmp 97) 31 rfl V.heap.size 9 i0 _ Try.underlying31 hi hz0 hz1 hz2 rfl v81 (0 + S.recs.length) ([] ++ rows S.recs) rfl ?ho _ 1 _ [AR] rfl rfl (fun h => by cases h) ?hs ?hn ?hb ?_
        case ho => exact O82.out
        case hs => exact strs_one1 A82.out.2
        case hn => omega
        case hb => exact B82.out.size
        intro v83 U83 o83 g83 b83
        have B83 := Lib.hid (b83 _ B82.out)
        have O83 := Lib.hid o83
        have X83 := Lib.hid (box_grow X82.out g83 (own_ne O82.out X82.out.1 (by decide)))
        clear o83 g83 b83
        obtain ⟨a8, c8, rfl, hs8, hw8, hq8⟩ := own_recs arg O83.out hAR.out
        have HS83 := Lib.hid hs8
        have HW83 := Lib.hid hw8
        clear hs8 hw8
        refine hK.out _ _ (fun _ => HSF.out _ B83.out) ?_
        clear hK K
        try simp only [Act.put, List.setIfInBounds_toArray, List.set_cons_zero, List.set_cons_succ]
        refine Ord.wpAnyU_one (i := 14) (by as_aux_lemma => kernel_rfl) rfl (fun K hK => ?_)
        go_simp
        refine hK.out _ _ (fun h => by cases h) ?_
        clear hK K
        try simp only [Act.put, List.setIfInBounds_toArray, List.set_cons_zero, List.set_cons_succ]
        refine Ord.wpAnyU_one (i := 16) (by as_aux_lemma => kernel_rfl) rfl (fun K hK => ?_)
        obtain ⟨⟨x0, x1, x2, x3⟩, ⟨y0, y1, y2, y3⟩, xl⟩ := box_cells X83.out
        go_simp
        refine hK.out _ _ (fun h => by cases h) ?_
        clear hK K
        try simp only [Act.put, List.setIfInBounds_toArray, List.set_cons_zero, List.set_cons_succ]
        refine Ord.wpAnyU_done (by as_aux_lemma => kernel_rfl) ?_ _
        obtain ⟨hN21, hG21⟩ := Nxt.made (wr := wr) (S := S) (r := arg) X83.out.1 (Nat.le_trans hbV.out.size X83.out.2) HS83.out (fun x hx => ⟨Nat.le_trans hbV.out.size (HW83.out x hx).1, (HW83.out x hx).2⟩) (own_xb O83.out X83.out.1 (by decide)) hq8 rfl
        have hB21 := B83.out.grown hG21 (B83.out.size) (fun x e => by have e1 := Option.some.inj e; rw [← e1]; exact X83.out.2)
        exact hQ.out _ a8 c8 _ _ _ _ _ _ _ _ _ _ _ _ _ _ _ _ hN21 hB21
      · go_simp
        obtain ⟨U85, h85⟩ : ∃ U, U = U80.alloc (Obj.cells #[Value.string AR] 9) := ⟨_, rfl⟩
        rw [← h85]
        have B85 : Hid (Below V.heap.size V U85) := by rw [h85]; exact below_al B80.out _
        have O85 := Lib.hid (own_al O80.out h85)
        have X85 := Lib.hid (box_al X80.out h85)
        have A85 := Lib.hid (one_new h85)
        have N85 := Lib.hid (own_not O80.out)
        clear h85
        refine hK.out _ _ (fun _ => HSF.out _ B85.out) ?_
        clear hK K
        try simp only [Act.put, List.setIfInBounds_toArray, List.set_cons_zero, List.set_cons_succ]
        refine Ord.wpAnyU_one (i := 9) (by as_aux_lemma => kernel_rfl) rfl (fun K hK => ?_)
        refine step_recs rfl (.tmp 91) (.tmp 93) 31 rfl V.heap.size 9 i0 _ Try.underlying31 hi hz0 hz1 hz2 rfl (.slice (some ⟨U79.heap.size, 0, none⟩) 0 0) 0 [] rfl ?ho a S.recs.length cap (rows S.recs) rfl (rows_length _) hnil ?hs ?hn ?hb ?_
        case ho => exact O85.out
        case hs => exact hRC.out.below B85.out
        case hn => omega
        case hb => exact B85.out.size
        intro v86 U86 o86 g86 b86
        have B86 := Lib.hid (b86 _ B85.out)
        have O86 := Lib.hid o86
        have A86 := Lib.hid (one_grow A85.out g86 N85.out)
        have X86 := Lib.hid (box_grow X85.out g86 (own_ne O85.out X85.out.1 (by decide)))
        clear o86 g86 b86
        refine hK.out _ _ (fun _ => HSF.out _ B86.out) ?_
        clear hK K
        try simp only [Act.put, List.setIfInBounds_toArray, List.set_cons_zero, List.set_cons_succ]
        refine Ord.wpAnyU_one (i := 13) (by as_aux_lemma => kernel_rfl) rfl (fun K hK => ?_)
        refine step_recs rfl (.tmp 94) (.tmp 97) 31 rfl V.heap.size 9 i0 _ Try.underlying31 hi hz0 hz1 hz2 rfl v86 (0 + S.recs.length) ([] ++ rows S.recs) rfl ?ho _ 1 _ [AR] rfl rfl (fun h => by cases h) ?hs ?hn ?hb ?_
        case ho => exact O86.out
        case hs => exact strs_one1 A86.out.2
        case hn => omega
        case hb => exact B86.out.size
        intro v87 U87 o87 g87 b87
        have B87 := Lib.hid (b87 _ B86.out)
        have O87 := Lib.hid o87
        have X87 := Lib.hid (box_grow X86.out g87 (own_ne O86.out X86.out.1 (by decide)))
        clear o87 g87 b87
        obtain ⟨a8, c8, rfl, hs8, hw8, hq8⟩ := own_recs arg O87.out hAR.out
        have HS87 := Lib.hid hs8
        have HW87 := Lib.hid hw8
        clear hs8 hw8
        refine hK.out _ _ (fun _ => HSF.out _ B87.out) ?_
        clear hK K
        try simp only [Act.put, List.setIfInBounds_toArray, List.set_cons_zero, List.set_cons_succ]
        refine Ord.wpAnyU_one (i := 14) (by as_aux_lemma => kernel_rfl) rfl (fun K hK => ?_)
        go_simp
        refine hK.out _ _ (fun h => by cases h) ?_
        clear hK K
        try simp only [Act.put, List.setIfInBounds_toArray, List.set_cons_zero, List.set_cons_succ]
        refine Ord.wpAnyU_one (i := 16) (by as_aux_lemma => kernel_rfl) rfl (fun K hK => ?_)
        obtain ⟨⟨x0, x1, x2, x3⟩, ⟨y0, y1, y2, y3⟩, xl⟩ := box_cells X87.out
        go_simp
        refine hK.out _ _ (fun h => by cases h) ?_
        clear hK K
        try simp only [Act.put, List.setIfInBounds_toArray, List.set_cons_zero, List.set_cons_succ]
        refine Ord.wpAnyU_done (by as_aux_lemma => kernel_rfl) ?_ _
        obtain ⟨hN21, hG21⟩ := Nxt.made (wr := wr) (S := S) (r := arg) X87.out.1 (Nat.le_trans hbV.out.size X87.out.2) HS87.out (fun x hx => ⟨Nat.le_trans hbV.out.size (HW87.out x hx).1, (HW87.out x hx).2⟩) (own_xb O87.out X87.out.1 (by decide)) hq8 rfl
        have hB21 := B87.out.grown hG21 (B87.out.size) (fun x e => by have e1 := Option.some.inj e; rw [← e1]; exact X87.out.2)
        exact hQ.out _ a8 c8 _ _ _ _ _ _ _ _ _ _ _ _ _ _ _ _ hN21 hB21
    · go_simp
      obtain ⟨U89, h89⟩ : ∃ U, U = U79.alloc (Obj.cells #[Value.string AR] 9) := ⟨_, rfl⟩
      rw [← h89]
      have B89 : Hid (Below V.heap.size V U89) := by rw [h89]; exact below_al B79.out _
      have X89 := Lib.hid (box_al X79.out h89)
      have A89 := Lib.hid (one_new h89)
      clear h89
      refine hK.out _ _ (fun _ => HSF.out _ B89.out) ?_
      clear hK K
      try simp only [Act.put, List.setIfInBounds_toArray, List.set_cons_zero, List.set_cons_succ]
      refine Ord.wpAnyU_one (i := 6) (by as_aux_lemma => kernel_rfl) rfl (fun K hK => ?_)
      go_simp
      obtain ⟨U90, h90⟩ : ∃ U, U = U89.alloc (Obj.cells #[] 9) := ⟨_, rfl⟩
      rw [← h90]
      have B90 : Hid (Below V.heap.size V U90) := by rw [h90]; exact below_al B89.out _
      have A90 := Lib.hid (one_al A89.out h90)
      have X90 := Lib.hid (box_al X89.out h90)
      have O90 := Lib.hid (own_new V.heap.size B89.out.size h90)
      have N90 := Lib.hid (one_ne (n := 0) (c := 0) A89.out)
      clear h90
      refine hK.out _ _ (fun _ => HSF.out _ B90.out) ?_
      clear hK K
      try simp only [Act.put, List.setIfInBounds_toArray, List.set_cons_zero, List.set_cons_succ]
      refine Ord.wpAnyU_one (i := 9) (by as_aux_lemma => kernel_rfl) rfl (fun K hK => ?_)
      refine step_recs rfl (.tmp 91) (.tmp 93) 31 rfl V.heap.size 9 i0 _ Try.underlying31 hi hz0 hz1 hz2 rfl (.slice (some ⟨U89.heap.size, 0, none⟩) 0 0) 0 [] rfl ?ho a S.recs.length cap (rows S.recs) rfl (rows_length _) hnil ?hs ?hn ?hb ?_
      case ho => exact O90.out
      case hs => exact hRC.out.below B90.out
      case hn => omega
      case hb => exact B90.out.size
      intro v91 U91 o91 g91 b91
      have B91 := Lib.hid (b91 _ B90.out)
      have O91 := Lib.hid o91
      have A91 := Lib.hid (one_grow A90.out g91 N90.out)
      have X91 := Lib.hid (box_grow X90.out g91 (own_ne O90.out X90.out.1 (by decide)))
      clear o91 g91 b91
      refine hK.out _ _ (fun _ => HSF.out _ B91.out) ?_
      clear hK K
      try simp only [Act.put, List.setIfInBounds_toArray, List.set_cons_zero, List.set_cons_succ]
      refine Ord.wpAnyU_one (i := 13) (by as_aux_lemma => kernel_rfl) rfl (fun K hK => ?_)
      refine step_recs rfl (.tmp 94) (.tmp 97) 31 rfl V.heap.size 9 i0 _ Try.underlying31 hi hz0 hz1 hz2 rfl v91 (0 + S.recs.length) ([] ++ rows S.recs) rfl ?ho _ 1 _ [AR] rfl rfl (fun h => by cases h) ?hs ?hn ?hb ?_
      case ho => exact O91.out
      case hs => exact strs_one1 A91.out.2
      case hn => omega
      case hb => exact B91.out.size
      intro v92 U92 o92 g92 b92
      have B92 := Lib.hid (b92 _ B91.out)
      have O92 := Lib.hid o92
      have X92 := Lib.hid (box_grow X91.out g92 (own_ne O91.out X91.out.1 (by decide)))
      clear o92 g92 b92
      obtain ⟨a8, c8, rfl, hs8, hw8, hq8⟩ := own_recs arg O92.out hAR.out
      have HS92 := Lib.hid hs8
      have HW92 := Lib.hid hw8
      clear hs8 hw8
      refine hK.out _ _ (fun _ => HSF.out _ B92.out) ?_
      clear hK K
      try simp only [Act.put, List.setIfInBounds_toArray, List.set_cons_zero, List.set_cons_succ]
      refine Ord.wpAnyU_one (i := 14) (by as_aux_lemma => kernel_rfl) rfl (fun K hK => ?_)
      go_simp
      refine hK.out _ _ (fun h => by cases h) ?_
      clear hK K
      try simp only [Act.put, List.setIfInBounds_toArray, List.set_cons_zero, List.set_cons_succ]
      refine Ord.wpAnyU_one (i := 16) (by as_aux_lemma => kernel_rfl) rfl (fun K hK => ?_)
      obtain ⟨⟨x0, x1, x2, x3⟩, ⟨y0, y1, y2, y3⟩, xl⟩ := box_cells X92.out
      go_simp
      refine hK.out _ _ (fun h => by cases h) ?_
      clear hK K
      try simp only [Act.put, List.setIfInBounds_toArray, List.set_cons_zero, List.set_cons_succ]
      refine Ord.wpAnyU_done (by as_aux_lemma => kernel_rfl) ?_ _
      obtain ⟨hN21, hG21⟩ := Nxt.made (wr := wr) (S := S) (r := arg) X92.out.1 (Nat.le_trans hbV.out.size X92.out.2) HS92.out (fun x hx => ⟨Nat.le_trans hbV.out.size (HW92.out x hx).1, (HW92.out x hx).2⟩) (own_xb O92.out X92.out.1 (by decide)) hq8 rfl
      have hB21 := B92.out.grown hG21 (B92.out.size) (fun x e => by have e1 := Option.some.inj e; rw [← e1]; exact X92.out.2)
      exact hQ.out _ a8 c8 _ _ _ _ _ _ _ _ _ _ _ _ _ _ _ _ hN21 hB21
end Jrn
end Go.Proofs.Yteaikleofboknaa
end
