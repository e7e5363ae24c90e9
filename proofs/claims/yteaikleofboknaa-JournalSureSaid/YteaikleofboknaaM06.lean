/- Texts put together: JrU, CrcW, CrcS, FrmW, FrmW2. -/
import Derived.Test.YteaikleofboknaaM05
import Derived.Test.YteaikleofboknaaChecked
import Derived.Test.YteaikleofboknaaM04
import Derived.Lib.Hide
import Derived.Laws.CopyOwn
import Derived.Lib.ConvBytes
import Derived.Deep.WholeRow
import Derived.Test.YteaikleofboknaaM00
import Derived.RegionTactic
import Derived.BigRegion
import Derived.Laws.IdiomStrings
import Derived.Deep.RegionHeld3
import Derived.Deep.MidRow
import Derived.Stop.BytesEq
import Derived.Lib.BufferWrite
set_option linter.all false
section
namespace Go.Proofs.Yteaikleofboknaa
open Go.RowKit
namespace Jrn
open Frm (put first scan fits num)
open Dsk
/-- A file beside is cut to none. -/
theorem clears_new {d : DkIn} {S : SavedIn} (hf : Fok d.files) (hd : d.dead = false) (h : Live d S) :
    (clearsV d newN).2.room = d.room ∧ Fok (clearsV d newN).2.files ∧ Live (clearsV d newN).2 S ∧
    (((clearsV d newN).1 = 0 ∧ (clearsV d newN).2.dead = false ∧ (d.last = 0 → (clearsV d newN).2.last = 0) ∧ (find newN (clearsV d newN).2.files = none ∨ find newN (clearsV d newN).2.files = some ⟨newN, [], 0⟩) ∧ (bytesOf (clearsV d newN).2.files : Int) ≤ bytesOf d.files) ∨
     ((clearsV d newN).1 = 14 ∧ (clearsV d newN).2.dead = true ∧ d.last ≠ 0)) := by
  rcases clears_did hf hd newN with ⟨e, hq⟩ | ⟨f, hq, hD, hF, f2, h2⟩
  · rw [e]
    exact ⟨rfl, hf, h, Or.inl ⟨rfl, hd, id, Or.inl hq, Int.le_refl _⟩⟩
  · have hcut : clearsV d newN = cutV d newN 0 := by
      unfold clearsV
      rw [read_live hd, hq]
      rfl
    have hby := fun h0 => cut_bytes newN f hq hd (by rw [← hcut]; exact h0)
    rw [← hcut] at hby
    refine ⟨hD.room, f2, h.congr (h2 snapN ne_sn) (h2 logN ne_ln), ?_⟩
    rcases hD.ends with ⟨e1, e2, e3⟩ | ⟨e1, e2, e3⟩
    · refine Or.inl ⟨e1, e2, e3, ?_, by have := hby e1; omega⟩
      rcases hF with hF | ⟨hF, _⟩
      · exact Or.inr hF
      · rw [e1] at hF; cases hF
    · exact Or.inr ⟨e1, e2, e3⟩
/-- Bytes are laid beside. -/
theorem lays_end {d : DkIn} {S : SavedIn} (hf : Fok d.files) (hd : d.dead = false) (h : Live d S) (s : List UInt8) :
    (laysV d s).2.room = d.room ∧ Fok (laysV d s).2.files ∧ Live (laysV d s).2 S ∧
    (((laysV d s).1 = 0 ∧ (laysV d s).2.dead = false ∧ (d.last = 0 → (laysV d s).2.last = 0) ∧ ∃ q, find newN (laysV d s).2.files = some ⟨newN, s, q⟩) ∨
     ((laysV d s).1 = 4 ∧ (laysV d s).2.dead = false ∧ (d.last = 0 → (laysV d s).2.last = 0) ∧ d.room < bytesOf d.files + s.length) ∨
     ((laysV d s).1 = 14 ∧ (laysV d s).2.dead = true ∧ d.last ≠ 0)) := by
  obtain ⟨a1, a2, a3, a4⟩ := clears_new hf hd h
  unfold laysV
  generalize clearsV d newN = R at *
  unfold thenV
  rcases a4 with ⟨b1, b2, b3, b4, b5⟩ | ⟨b1, b2, b3⟩
  · rw [if_pos b1]
    dsimp only
    have hg : (find newN R.2.files).getD ⟨newN, [], 0⟩ = ⟨newN, [], 0⟩ := by rcases b4 with g1 | g1 <;> rw [g1] <;> rfl
    rcases append_did a2 b2 newN s isNew with ⟨e, hx⟩ | ⟨hx, hD, hF⟩
    · rw [e, if_pos rfl]
      dsimp only
      obtain ⟨c1, c2, c3, c4⟩ := clears_new a2 b2 a3
      rcases c4 with ⟨k1, k2, k3, k4, k5⟩ | ⟨k1, k2, k3⟩
      · rw [if_pos k1]
        exact ⟨c1.trans a1, c2, c3, Or.inr (Or.inl ⟨rfl, k2, fun h => k3 (b3 h), by rw [a1] at hx; omega⟩)⟩
      · rw [if_neg (by rw [k1]; decide)]
        exact ⟨c1.trans a1, c2, c3, Or.inr (Or.inr ⟨k1, k2, fun h => k3 (b3 h)⟩)⟩
    · rw [hg] at hF
      have hF : find newN (appendV R.2 newN s).2.files = some ⟨newN, s, 0⟩ := hF
      have hne : (appendV R.2 newN s).1 ≠ 4 := by
        rcases hD.ends with ⟨e1, _⟩ | ⟨e1, _⟩ <;> rw [e1] <;> decide
      rw [if_neg hne]
      refine ⟨hD.room.trans a1, append_fok a2 _ _, a3.congr (append_find a2 newN s ne_sn) (append_find a2 newN s ne_ln), ?_⟩
      rcases hD.ends with ⟨e1, e2, e3⟩ | ⟨e1, e2, e3⟩
      · exact Or.inl ⟨e1, e2, fun h => e3 (b3 h), 0, hF⟩
      · exact Or.inr (Or.inr ⟨e1, e2, fun h => e3 (b3 h)⟩)
  · rw [if_neg (by rw [b1]; decide)]
    exact ⟨a1, a2, a3, Or.inr (Or.inr ⟨b1, b2, b3⟩)⟩
theorem thenV_ok {r : Int × DkIn} {f : DkIn → Int × DkIn} (h : r.1 = 0) : thenV r f = f r.2 := if_pos h
theorem thenV_no {r : Int × DkIn} {f : DkIn → Int × DkIn} (h : r.1 ≠ 0) : thenV r f = r := if_neg h
/-- A snapshot. -/
theorem snap_end {d : DkIn} {S : SavedIn} {k B : Nat} (hG : Gr d k B) (hk : k ≤ 1000000) (hd : d.dead = false) (h : Live d S) (base : List UInt8) :
    (snapV d S.gen base).2.room = d.room ∧
    (((snapV d S.gen base).1 = 0 ∧ (snapV d S.gen base).2.dead = false ∧ (d.last = 0 → (snapV d S.gen base).2.last = 0) ∧ Live (snapV d S.gen base).2 ⟨S.gen + 1, true, base, []⟩) ∨
     ((snapV d S.gen base).1 = 4 ∧ (snapV d S.gen base).2.dead = false ∧ (d.last = 0 → (snapV d S.gen base).2.last = 0) ∧ Live (snapV d S.gen base).2 S ∧ d.room < bytesOf d.files + (fileB (S.gen + 1) base).length) ∨
     ((snapV d S.gen base).1 = 14 ∧ (snapV d S.gen base).2.dead = true ∧ d.last ≠ 0 ∧ Cr (snapV d S.gen base).2 fun T => T = S ∨ T = ⟨S.gen + 1, true, base, []⟩)) := by
  have hf := hG.ok.fok
  obtain ⟨a1, a2, a3, a4⟩ := lays_end hf hd h (fileB (S.gen + 1) base)
  have G1 := gr_lays hG (by omega) (fileB (S.gen + 1) base)
  unfold snapV
  generalize laysV d (fileB (S.gen + 1) base) = R at *
  generalize hF0 : fileB (S.gen + 1) base = F at *
  rcases a4 with ⟨b1, b2, b3, q, b4⟩ | ⟨b1, b2, b3, b4⟩ | ⟨b1, b2, b3⟩
  · rw [thenV_ok b1]
    try dsimp only
    obtain ⟨c1, c2⟩ := sync_did a2 b2 newN _ b4
    have L2 := a3.congr (sync_keeps a2 newN ne_sn).2 (sync_keeps a2 newN ne_ln).2
    have G2 := gr_sync G1 (by omega) newN
    generalize syncV R.2 newN = R2 at *
    rcases c1.ends with ⟨e1, e2, e3⟩ | ⟨e1, e2, e3⟩
    · rw [thenV_ok e1]
      try dsimp only
      have c3 : find newN R2.2.files = some ⟨newN, F, F.length⟩ := by
        rcases c2 with c2 | ⟨c2, _⟩
        · exact c2
        · rw [e1] at c2; cases c2
      obtain ⟨d1, d2⟩ := rename_did G2.ok.fok e2 newN snapN isSnap _ c3
      have k2 := (rename_keeps G2.ok.fok newN snapN (m := logN) ne_ln ne_ls)
      have G3 := gr_rename G2 (by omega) newN snapN
      have hlog := k2.2.trans L2.log
      have LA : LogAt (renameV R2.2 newN snapN).2.files (LK (S.gen + 1) []) := by
        unfold LogAt
        rw [hlog]
        dsimp only
        intro n h1 h2
        rw [List.take_of_length_le h1]
        exact (LK.whole _ L2.fit).elder (by omega)
      have LB : 17 ≤ (logB (renameV R2.2 newN snapN).2).length := by
        unfold logB
        rw [hlog]
        dsimp only
        rw [catsL_cons, List.length_append, headP_length]
        omega
      have SN : find snapN (renameV R2.2 newN snapN).2.files = some ⟨snapN, F, F.length⟩ → SnapOk (renameV R2.2 newN snapN).2.files true (S.gen + 1) base := fun e => ⟨by rw [e, ← hF0]; rfl, fun h => (by cases h), fun _ => Nat.le_add_left _ _⟩
      have SO : find snapN (renameV R2.2 newN snapN).2.files = find snapN R2.2.files → SnapOk (renameV R2.2 newN snapN).2.files S.has S.gen S.base := fun e => L2.snap.congr e
      have L3 : find snapN (renameV R2.2 newN snapN).2.files = find snapN R2.2.files → Live (renameV R2.2 newN snapN).2 S := fun e => L2.congr e k2.2
      generalize renameV R2.2 newN snapN = R3 at *
      have hroom : R3.2.room = d.room := (d1.room.trans c1.room).trans a1
      rcases d1.ends with ⟨i1, i2, i3⟩ | ⟨i1, i2, i3⟩
      · rw [thenV_ok i1]
        try dsimp only
        have d3 := SN (by
          rcases d2 with d2 | ⟨d2, _⟩
          · exact d2
          · rw [i1] at d2; cases d2)
        obtain ⟨j1, j2⟩ := begins_end G3.ok.fok i2 d3 LA (by have := G3.fits; omega)
        unfold beginsD
        rcases j2 with ⟨k1, k2, k3, T, rfl, k5⟩ | ⟨k1, k2, k3, k4⟩
        · rw [if_pos k1]
          exact ⟨j1.trans hroom, Or.inl ⟨rfl, k2, fun h => k3 (i3 (e3 (b3 h))), k5⟩⟩
        · rw [if_neg (by rw [k1]; decide)]
          exact ⟨j1.trans hroom, Or.inr (Or.inr ⟨rfl, k2, fun h => k3 (i3 (e3 (b3 h))), k4.mono fun T hT => Or.inr hT⟩)⟩
      · rw [thenV_no (by rw [i1]; decide)]
        refine ⟨hroom, Or.inr (Or.inr ⟨i1, i2, fun h => i3 (e3 (b3 h)), ?_⟩)⟩
        rcases d2 with d2 | ⟨_, d2⟩
        · refine ⟨true, S.gen + 1, base, SN d2, ?_⟩
          unfold LogAt at LA ⊢
          split at LA
          · rename_i hq
            rw [hq] at hlog
            cases hlog
          · exact fun n h1 h2 => ⟨[], LA n h1 h2, Or.inr rfl⟩
        · exact (L3 d2).cr.mono fun T hT => Or.inl hT
    · rw [thenV_no (r := R2) (by rw [e1]; decide), thenV_no (r := R2) (by rw [e1]; decide)]
      exact ⟨c1.room.trans a1, Or.inr (Or.inr ⟨e1, e2, fun h => e3 (b3 h), L2.cr.mono fun T hT => Or.inl hT⟩)⟩
  · rw [thenV_no (r := R) (by rw [b1]; decide), thenV_no (r := R) (by rw [b1]; decide), thenV_no (r := R) (by rw [b1]; decide)]
    exact ⟨a1, Or.inr (Or.inl ⟨b1, b2, b3, a3, b4⟩)⟩
  · rw [thenV_no (r := R) (by rw [b1]; decide), thenV_no (r := R) (by rw [b1]; decide), thenV_no (r := R) (by rw [b1]; decide)]
    exact ⟨a1, Or.inr (Or.inr ⟨b1, b2, b3, a3.cr.mono fun T hT => Or.inl hT⟩)⟩
/-- A journal is opened. -/
def openV (d : DkIn) (g : Nat) : Int × DkIn := match (scan (logB d)).1 with
  | [] => beginsV d g
  | h :: _ => if num (h.drop 1) < g then beginsV d g else if (scan (logB d)).2 < (logB d).length then cutV d logN (scan (logB d)).2 else (0, d)
theorem Rest.log {d : DkIn} {S : SavedIn} (h : Rest d S) : SnapOk d.files S.has S.gen S.base ∧ LK S.gen S.recs (logB d) ∧ LogAt d.files (fun b => LK S.gen S.recs b) := by
  obtain ⟨has, gen, base, h1, h2⟩ := h.cr
  unfold LogAt logB at *
  split at h2
  · rename_i hq
    obtain ⟨r, h3, h4⟩ := h2
    subst h4
    exact ⟨h1, h3, h3⟩
  · rename_i f hq
    dsimp only
    obtain ⟨r, h3, h4⟩ := h2 f.by'.length (by rw [h.sure f hq]; exact Nat.le_refl _) (Nat.le_refl _)
    subst h4
    rw [List.take_length] at h3
    refine ⟨h1, h3, fun n a b => ?_⟩
    obtain ⟨r2, h5, h6⟩ := h2 n a b
    have e : r2 = r := congrArg SavedIn.recs h6
    rw [e] at h5
    exact h5
theorem open_end {d : DkIn} {S : SavedIn} {k B : Nat} (hG : Gr d k B) (h : Rest d S) (hg : S.gen < 18446744073709551616)
    (hr : (bytesOf d.files : Int) + 17 ≤ d.room + (logB d).length) : End d (openV d S.gen) (fun T => T = S) (fun T => T = S) := by
  obtain ⟨h1, h2, h3⟩ := h.log
  have hf := hG.ok.fok
  have hb := fun (e : S.recs = []) => begins_end (has := S.has) (base := S.base) hf h.live h1 (by rw [e] at h3; exact h3) hr
  have eS : S.recs = [] → (⟨S.gen, S.has, S.base, []⟩ : SavedIn) = S := fun e => by cases S; dsimp only at e; rw [e]
  unfold openV
  rcases h2.told with ⟨e, g', l, u, e1, e2⟩ | ⟨e, e2⟩ | ⟨e1, u, e2, e3, e4, e5⟩
  · rw [e2]
    dsimp only
    rw [headL_gen, num_num8 g' (by omega), if_pos e1]
    have := hb e
    rw [eS e] at this
    exact this
  · rw [e2]
    have := hb e
    rw [eS e] at this
    exact this
  · rw [e2]
    dsimp only
    rw [headL_gen, num_num8 S.gen hg, if_neg (by omega)]
    have hq : ∃ f, find logN d.files = some f ∧ f.by' = logB d := by
      unfold logB
      cases hq : find logN d.files with
      | none =>
        have : logB d = [] := by unfold logB; rw [hq]
        rw [this] at e2
        cases e2
      | some f => exact ⟨f, rfl, rfl⟩
    obtain ⟨f, hq, hfb⟩ := hq
    have hs := h.sure f hq
    obtain ⟨n1, n2, n3⟩ := find_fok hf hq
    rw [← hfb] at e3 e4
    rw [← hfb]
    by_cases hu : u < f.by'.length
    · rw [if_pos hu]
      obtain ⟨c1, c2⟩ := cut_did hf h.live logN f hq u (by omega)
      have ks := (cut_keeps hf logN (u : Int) ne_sl).2
      rw [e4, hs, show min f.by'.length u = u by omega] at c2
      subst e5
      refine ⟨c1.room, ?_⟩
      rcases c1.ends with ⟨i1, i2, i3⟩ | ⟨i1, i2, i3⟩
      · rcases c2 with c2 | ⟨c2, _⟩
        · refine Or.inl ⟨i1, i2, i3, S, rfl, h1.congr ks, ?_, e1⟩
          exact c2
        · rw [i1] at c2; cases c2
      · refine Or.inr ⟨i1, i2, i3, S.has, S.gen, S.base, h1.congr ks, ?_⟩
        rcases c2 with c2 | ⟨_, c2⟩
        · unfold LogAt
          rw [c2]
          dsimp only
          intro n a b
          rw [List.take_of_length_le (by omega)]
          exact ⟨S.recs, LK.whole _ e1, rfl⟩
        · refine LogAt.congr ?_ (c2.trans hq.symm)
          unfold LogAt at h3 ⊢
          rw [hq] at h3 ⊢
          dsimp only at h3 ⊢
          exact fun n a b => ⟨S.recs, h3 n a b, rfl⟩
    · rw [if_neg hu]
      have hul : u = f.by'.length := by omega
      refine ⟨rfl, Or.inl ⟨rfl, h.live, id, S, rfl, h1, ?_, e1⟩⟩
      rw [hul, List.take_length] at e4
      rw [← e4, hq, ← hs, ← n1]
theorem gr_open {d : DkIn} {k B : Nat} (h : Gr d k B) (hk : k ≤ 10000000) (g : Nat) : Gr (openV d g).2 (k + 3) (B + 17) := by
  unfold openV
  split
  · exact gr_begins h hk g
  · split
    · exact gr_begins h hk g
    · split
      · exact (gr_cut h (by omega) _ _).mono (by omega) (by omega)
      · exact h.mono (by omega) (by omega)
end Jrn
end Go.Proofs.Yteaikleofboknaa
end
section
namespace Go.Proofs.Yteaikleofboknaa
open Go.RowKit
namespace Crc
set_option maxHeartbeats 400000 in
theorem eight_any (x : BitVec 32) (w : World) :
    Calls Try.prog 95 #[.int .u32 (U x)] w fun e w' => e = .returned (.int .u32 (U (stps 8 x))) ∧ w = w' := by
  go_enter Try.func95, Try.ntmps95
  go_wp2
  go_loop [0, 3, 4] (fun n _ i => ∃ k : Nat, k ≤ 8 ∧ i = .int .i64 k ∧ n = .int .u32 (U (stps k x))) (fun _ _ i => 8 - (intOf i).toNat)
  case atStart => exact ⟨0, by omega, rfl, rfl⟩
  case round =>
    obtain ⟨k, hk, rfl, rfl⟩ := hrel
    have hs : Hid (stps (k + 1) x = _) := Lib.hid (stps_snoc k x)
    go_wp2
    · go_round
      case rel => exact ⟨k + 1, by omega, by go_num, by rw [hs.out]; rfl⟩
      case measure => simp [intOf]; omega
    · have : k = 8 := by omega
      subst this
      go_ret
      exact ⟨rfl, rfl⟩
def nibArr (k : Nat) : Array Value := arrU 16 (upTo nib k)
set_option maxHeartbeats 400000 in
theorem nibbles_any (w : World) :
    Calls Try.prog 96 #[] w fun e w' => e = .returned (.agg (arrU 16 nib)) ∧ Below w.heap.size w w' := by
  go_enter Try.func96, Try.ntmps96
  go_wp2
  go_loopw [4] (fun i wr => ∃ k : Nat, k ≤ 16 ∧ i = .int .u32 k ∧ wr = (w.alloc (.cells (nibArr 0) 139)).alloc (.cells (nibArr k) 139)) (fun i _ => 16 - (intOf i).toNat)
  case atStart => exact ⟨0, by omega, rfl, rfl⟩
  case round =>
    obtain ⟨k, hk, rfl, rfl⟩ := hrel
    have hn := Lib.hid (U_of k (by omega))
    by_cases hlt : k < 16
    · have hg : (nibArr k)[k]? = some (.int .u32 0) := arrU_todo 16 nib k hlt
      have hset := Lib.hid (arrU_fill 16 nib k)
      go_wp2
      go_loop [3, 8] (fun n i => ∃ j : Nat, j ≤ 4 ∧ i = .int .i64 j ∧ n = .int .u32 (U (stps j (BitVec.ofNat 32 k)))) (fun _ i => 4 - (intOf i).toNat)
      case atStart => exact ⟨0, by omega, rfl, by rw [hn.out]; rfl⟩
      case round =>
        obtain ⟨j, hj, rfl, rfl⟩ := hrel
        have hs : Hid (stps (j + 1) (BitVec.ofNat 32 k) = _) := Lib.hid (stps_snoc j _)
        go_wp2
        · go_round
          case rel => exact ⟨j + 1, by omega, by go_num, by rw [hs.out]; rfl⟩
          case measure => simp [intOf]; omega
        · have : j = 4 := by omega
          subst this
          go_roundw
          case rel => exact ⟨k + 1, by omega, by go_num, by rw [show nibArr (k + 1) = _ from hset.out.symm]; rfl⟩
          case measure => simp [intOf]; omega
    · have : k = 16 := by omega
      subst this
      have hsz : ∀ k, (Try.prog.info? 139).map (·.size) = some (nibArr k).size := fun k => by rw [nibArr, arrU_size]; kernel_rfl
      go_wp2_with (first | (refine wpList_load_row rfl 139 (.tmp 1) rfl _ rfl 139 (nibArr 16) (0, 0) _ (heap_alloc2_new w _ _) Try.underlying139 rfl (hsz 16) ?_) | (refine wpList_store_row rfl 139 (.tmp 0) (.tmp 22) rfl _ _ rfl rfl 139 (nibArr 0) (heap_alloc2_old w _ _) (hsz 16) (by simp [nibArr, arrU_size]) (arrU_one _ _) ?_))
      refine bodyPost_ret (v := .agg (nibArr 16)) (results_cell_row rfl _ _ w.heap.size 139 (nibArr 16) (0, 0) _ rfl (setRow_heap _ _ _ _ _ _ (heap_alloc2_old w _ _)) Try.underlying139 rfl (hsz 16)) rfl ⟨by rw [nibArr, arrU_full], ?_⟩
      exact below_setRow ((((Below.refl _ _).alloc (Nat.le_refl _) _).alloc (by simp) _)) (Nat.le_refl _) _
theorem bytesWorld_below (w : World) (e : TypeId) (s : ByteArray) : Below w.heap.size w (Lib.bytesWorld w e s) :=
  ⟨rfl, rfl, rfl, by rw [Lib.bytesWorld_size]; omega, fun k hk => Lib.bytesWorld_at_old w e s k hk⟩
set_option maxHeartbeats 400000 in
set_option maxRecDepth 100000 in
theorem more_any (n : BitVec 32) (s : ByteArray) (hs : s.size ≤ maxLen) (w : World) :
    Calls Try.prog 88 #[.int .u32 (U n), .string s] w fun e w' => e = .returned (.int .u32 (U (more n s.data.toList))) ∧ Below w.heap.size w w' := by
  unfold maxLen at hs
  have hconv := fun w => Lib.run_convert_string_bytes (P := Try.prog) w 9 97 5 s Try.underlying9 Try.underlying97 Try.underlying5
  by_cases h16 : s.size < 16
  · go_enter Try.func88, Try.ntmps88
    go_wp2
    go_loop [5, 19] (fun v i => ∃ k : Nat, k ≤ s.size ∧ i = .int .i64 k ∧ v = .int .u32 (U (run (~~~ n) (s.data.toList.take k)))) (fun _ i => s.size - (intOf i).toNat)
    case atStart => exact ⟨0, by omega, rfl, rfl⟩
    case round =>
      obtain ⟨k, hk, rfl, rfl⟩ := hrel
      by_cases hlt : k < s.size
      · have hcell := Lib.bytesWorld_cell w 5 s k hlt
        have hd : s.data.toList.getD k 0 = s[k] := getD_byte s k hlt
        rw [hd, U_byte s[k]] at hcell
        have hrun := Lib.hid (run_take (~~~ n) s k hlt)
        clear hd
        go_wp2_with (go_at_call 95; ((with_reducible refine (eight_any _ _).mono ?_); rintro e w1 ⟨rfl, rfl⟩))
        go_round
        case rel => exact ⟨k + 1, by omega, by go_num, by rw [hrun.out]; rfl⟩
        case measure => simp [intOf]; omega
      · have hrun : Hid (s.data.toList.take k = _) := Lib.hid (List.take_of_length_le (by simp; omega))
        go_wp2
        go_ret
        refine ⟨?_, bytesWorld_below _ _ _⟩
        rw [hrun.out]; rfl
  · have hsz : (Try.prog.info? 139).map (·.size) = some (arrU 16 nib).size := by rw [arrU_size]; kernel_rfl
    have hz0 : (arrU 16 (fun _ => 0#32)).size = (arrU 16 nib).size := by rw [arrU_size, arrU_size]
    have hone := arrU_one 16 nib
    go_enter Try.func88, Try.ntmps88
    go_wp2_with (first | (go_at_call 96; ((with_reducible refine (nibbles_any _).mono ?_); rintro e w1 ⟨rfl, hb⟩)) | (refine wpList_store_row rfl 139 (.tmp 8) (.tmp 31) rfl _ (arrU 16 nib) rfl rfl 139 _ (heap_alloc_last _ _) hsz ?hh hone ?_; (case hh => simp [arrU_size]); rw [World.setRow_alloc_new]))
    have hcB : ∀ k, k < s.size → (Lib.bytesWorld (w1.alloc (.cells (arrU 16 nib) 139)) 5 s).cell? ⟨w1.heap.size + 1, k, none⟩ = some (.int .u8 (s.data.toList.getD k 0).toNat) := by
      intro k hk
      have := Lib.bytesWorld_cell (w1.alloc (.cells (arrU 16 nib) 139)) 5 s k hk
      simpa using this
    have hcT : ∀ y : BitVec 32, (Lib.bytesWorld (w1.alloc (.cells (arrU 16 nib) 139)) 5 s).cell? ⟨w1.heap.size, (U (y &&& 15#32)).toNat, none⟩ = some (.int .u32 (U (nibOf y))) := by
      intro y
      rw [Lib.bytesWorld_old _ _ _ _ (by simp), cell_of_row _ _ _ _ _ _ (heap_alloc_last _ _)]
      exact arrU_get 16 nib _ (and15_lt y)
    have hbw : Below w.heap.size w (Lib.bytesWorld (w1.alloc (.cells (arrU 16 nib) 139)) 5 s) := (hb.alloc hb.size _).trans ((bytesWorld_below _ _ _).mono (by simp; have := hb.size; omega))
    generalize Lib.bytesWorld (w1.alloc (.cells (arrU 16 nib) 139)) 5 s = W at hcB hcT hbw ⊢
    clear hsz hz0 hone
    go_loop [5, 35] (fun v i => ∃ k : Nat, k ≤ s.size ∧ i = .int .i64 k ∧ v = .int .u32 (U (run (~~~ n) (s.data.toList.take k)))) (fun _ i => s.size - (intOf i).toNat)
    case atStart => exact ⟨0, by omega, rfl, rfl⟩
    case round =>
      obtain ⟨k, hk, rfl, rfl⟩ := hrel
      have HB := Lib.hid hbw
      clear hbw
      by_cases hlt : k < s.size
      · have hcell := hcB k hlt
        rw [getD_byte s k hlt, U_byte s[k]] at hcell
        clear hcB
        have hrun := Lib.hid (run_take (~~~ n) s k hlt)
        have hnib := Lib.hid (stps_nib2 (run (~~~ n) (s.data.toList.take k) ^^^ BitVec.ofNat 32 s[k].toNat))
        have b1 := U_and15 (run (~~~ n) (s.data.toList.take k) ^^^ BitVec.ofNat 32 s[k].toNat)
        have b2 := U_and15 (nibOf (run (~~~ n) (s.data.toList.take k) ^^^ BitVec.ofNat 32 s[k].toNat) ^^^ ((run (~~~ n) (s.data.toList.take k) ^^^ BitVec.ofNat 32 s[k].toNat) >>> 4))
        go_wp2
        go_round
        case rel => exact ⟨k + 1, by omega, by go_num, by rw [hrun.out, byt, hnib.out]⟩
        case measure => simp [intOf]; omega
      · have hrun : Hid (s.data.toList.take k = _) := Lib.hid (List.take_of_length_le (by simp; omega))
        clear hcB hcT
        go_wp2
        go_ret
        refine ⟨?_, HB.out⟩
        rw [hrun.out]; rfl
end Crc

end Go.Proofs.Yteaikleofboknaa
end
section
namespace Go.Proofs.Yteaikleofboknaa
open Go.RowKit
namespace Crc
set_option maxHeartbeats 400000 in
theorem sum_any (s : ByteArray) (hs : s.size ≤ maxLen) (w : World) :
    Calls Try.prog 74 #[.string s] w fun e w' => e = .returned (.int .u32 (U (sum s.data.toList))) ∧ Below w.heap.size w w' := by
  have h0 : Hid ((.int .u32 0 : Value) = .int .u32 (U 0#32)) := rfl
  go_enter Try.func74, Try.ntmps74
  go_wp2_with (go_at_call 88; rw [h0.out]; ((with_reducible refine (more_any _ _ hs _).mono ?_); rintro e w1 ⟨rfl, hb⟩))
  go_ret
  exact ⟨rfl, hb⟩
end Crc
end Go.Proofs.Yteaikleofboknaa
end
section
set_option maxRecDepth 100000
namespace Go.Proofs.Yteaikleofboknaa
open Go.RowKit
namespace Frm
open Crc (sum sum_any)
theorem below2 {w a b : World} (h : Below w.heap.size w a) (h2 : Below a.heap.size a b) : Below w.heap.size w b := h.trans (h2.mono h.size)
theorem U_byte24 (x : BitVec 32) : U x / 16777216 % 256 = ((UInt8.ofNat (x.toNat / 16777216)).toNat : Int) := by
  unfold U; simp
theorem fits_yes (n : Nat) (h : fits n = true) (w : World) :
    Calls Try.prog 67 #[.int .i64 (n : Int)] w fun e w' => e = .returned (.bool true) ∧ w = w' := by
  obtain ⟨h1, h2⟩ := of_decide_eq_true h
  have h1 : (1 : Int) ≤ (n : Int) := by omega
  have h2 : (n : Int) ≤ 4096 := by omega
  go_enter Try.func67, Try.ntmps67
  go_wp2
  go_ret
  exact ⟨rfl, rfl⟩
theorem fits_no (n : Nat) (h : fits n = false) (w : World) :
    Calls Try.prog 67 #[.int .i64 (n : Int)] w fun e w' => e = .returned (.bool false) ∧ w = w' := by
  have h0 := of_decide_eq_false h
  clear h
  by_cases h1 : (1 : Int) ≤ (n : Int)
  · have h2 : ¬ (n : Int) ≤ 4096 := by omega
    clear h0
    go_enter Try.func67, Try.ntmps67
    go_wp2
    go_ret
    exact ⟨rfl, rfl⟩
  · have h2 : decide ((1 : Int) ≤ (n : Int)) = false := decide_eq_false h1
    clear h0
    go_enter Try.func67, Try.ntmps67
    go_wp2
    go_ret
    exact ⟨rfl, rfl⟩
theorem b24 (n : Nat) (_h : n < 4294967296) : (n : Int) / 16777216 % 256 = ((UInt8.ofNat (n / 16777216)).toNat : Int) := by simp
theorem and255 (n : Int) (h1 : 0 ≤ n) (h2 : n < 4294967296) : bits .and .u32 n 255 = n % 256 := by
  rw [u32_and n 255 h1 h2 (by omega) (by omega)]
  obtain ⟨k, rfl⟩ := Int.eq_ofNat_of_zero_le h1
  simp
  have : k &&& 255 = k % 2 ^ 8 := Nat.and_two_pow_sub_one_eq_mod k 8
  omega
theorem size_sum (l : List UInt8) : (U (sum l)) = ((sum l).toNat : Int) := rfl
/-- The head's eight cells, filled as far as k of each half. -/
def hcell (n m : Nat) (k i : Nat) : Int :=
  if i < 4 then (if i < k then (((b4 n).getD i 0).toNat : Int) else 0) else (if i < 4 + k then (((b4 m).getD (i - 4) 0).toNat : Int) else 0)
def harr (n m k : Nat) : Array Value := #[.int .u8 (hcell n m k 0), .int .u8 (hcell n m k 1), .int .u8 (hcell n m k 2), .int .u8 (hcell n m k 3), .int .u8 (hcell n m k 4), .int .u8 (hcell n m k 5), .int .u8 (hcell n m k 6), .int .u8 (hcell n m k 7)]
theorem harr_one (n m k : Nat) : (harr n m k).all (·.oneCell') = true := by simp [harr, Value.oneCell']
theorem harr_4 (n m : Nat) : harr n m 4 = (Own.byteVals (b4 n ++ b4 m)).toArray := rfl
theorem head_step (n m k : Nat) (hk : k < 4) (wr w : World) (B0 B1 : Nat) (T T0 : TypeId) (u v : Int) (hne : B0 ≠ B1) (hle : w.heap.size ≤ B1) (C0 : Array Value)
    (h0 : wr.heap[B0]? = some (.cells C0 T0)) (h1 : wr.heap[B1]? = some (.cells (harr n m k) T)) (hb : Below w.heap.size w wr) (hu : u = hcell n m (k + 1) k) (hv : v = hcell n m (k + 1) (4 + k)) :
    Hid ((((wr.setCell ⟨B1, k, none⟩ (.int .u8 u)).setCell ⟨B1, 4 + k, none⟩ (.int .u8 v)).drew).heap[B0]? = some (.cells C0 T0)) ∧
    Hid ((((wr.setCell ⟨B1, k, none⟩ (.int .u8 u)).setCell ⟨B1, 4 + k, none⟩ (.int .u8 v)).drew).heap[B1]? = some (.cells (harr n m (k + 1)) T)) ∧
    Hid (Below w.heap.size w (((wr.setCell ⟨B1, k, none⟩ (.int .u8 u)).setCell ⟨B1, 4 + k, none⟩ (.int .u8 v)).drew)) := by
  refine ⟨?_, ?_, ((hb.setCell hle _).setCell hle _).drew⟩
  · have e := heap_setCell_other (wr.setCell ⟨B1, k, none⟩ (.int .u8 u)) ⟨B1, 4 + k, none⟩ B0 (.int .u8 v) hne
    have e2 := heap_setCell_other wr ⟨B1, k, none⟩ B0 (.int .u8 u) hne
    exact e.trans (e2.trans h0)
  · have e := heap_setCell_same _ B1 (4 + k) _ T (.int .u8 v) (heap_setCell_same wr B1 k _ T (.int .u8 u) h1)
    have ea : ((harr n m k).setIfInBounds k (.int .u8 u)).setIfInBounds (4 + k) (.int .u8 v) = harr n m (k + 1) := by
      subst hu
      subst hv
      match k, hk with
      | 0, _ => simp [harr, hcell]
      | 1, _ => simp [harr, hcell]
      | 2, _ => simp [harr, hcell]
      | 3, _ => simp [harr, hcell]
    rw [ea] at e
    exact e
set_option maxHeartbeats 1000000 in
theorem headOf_any (s : ByteArray) (hm : s.size ≤ 4096) (w : World) :
    Calls Try.prog 68 #[.string s] w fun e w' => e = .returned (.agg (Own.byteVals (hd s.data.toList)).toArray) ∧ Below w.heap.size w w' := by
  have hm' : s.size ≤ maxLen := by unfold maxLen; omega
  obtain ⟨m, hmm⟩ : ∃ m : Nat, Hid ((sum s.data.toList).toNat = m) := ⟨_, rfl⟩
  have hU : Hid (U (sum s.data.toList) = (m : Int)) := by show U _ = _; unfold U; rw [hmm.out]
  have hml : m < 4294967296 := by have := (sum s.data.toList).isLt; have := hmm.out; omega
  have hd' : Hid (hd s.data.toList = b4 s.size ++ b4 m) := by show hd _ = _; rw [hd, hmm.out]; simp
  clear hmm
  go_enter Try.func68, Try.ntmps68
  go_wp2_with (go_at_call 74; ((with_reducible refine (sum_any s hm' _).mono ?_); rintro e w1 ⟨rfl, hb1⟩); rw [hU.out])
  have hz : w1.heap[w.heap.size]? = some (.cells (harr s.size m 0) 108) := by
    rw [hb1.block _ (by simp; omega)]
    rw [Below.heap_alloc _ _ _ (by simp), Own.heap_new]; rfl
  have hz2 : w1.heap[w.heap.size + 1]? = some (.cells (harr s.size m 0) 108) := by
    rw [hb1.block _ (by simp)]
    exact heap_alloc2_new w _ _
  have hb : Below w.heap.size w w1 := ((((Below.refl _ _).alloc (Nat.le_refl _) _).alloc (by simp) _).trans (hb1.mono (by simp; omega)))
  clear hb1
  have HZ := Lib.hid hz
  have HZ2 := Lib.hid hz2
  have HB := Lib.hid hb
  clear hz hz2 hb
  generalize hB1 : w.heap.size + 1 = B1 at *
  have HB1 := Lib.hid hB1
  clear hB1
  go_loopw [13] (fun i wr => ∃ k : Nat, k ≤ 4 ∧ i = .int .i64 k ∧ Hid (wr.heap[w.heap.size]? = some (.cells (harr s.size m 0) 108)) ∧ Hid (wr.heap[B1]? = some (.cells (harr s.size m k) 108)) ∧ Hid (Below w.heap.size w wr)) (fun i _ => 4 - (intOf i).toNat)
  case atStart => exact ⟨0, by omega, rfl, HZ, HZ2, HB⟩
  case round =>
    obtain ⟨k, hk, rfl, HZ, HZ2, HB⟩ := hrel
    have hc := fun j => cell_of_row wr B1 j _ _ _ HZ2.out
    have hf := fun j => frozen_of_row wr B1 j _ _ HZ2.out
    by_cases hlt : k < 4
    · match k, hlt with
      | 0, _ =>
        have c0 := hc 0
        have c4 := hc 4
        have f0 := hf 0
        have f4 := hf 4
        simp [harr] at c0 c4
        clear hc hf
        go_wp2
        go_region
        go_wp2
        go_roundw
        case rel => exact ⟨1, by omega, rfl, head_step s.size m 0 (by omega) wr w w.heap.size B1 _ _ _ _ (by have := HB1.out; omega) (by have := HB1.out; omega) _ HZ.out HZ2.out HB.out (by simp [hcell, b4]; try omega) (by simp [hcell, b4]; try omega)⟩
        case measure => simp [intOf]
      | 1, _ =>
        have c0 := hc 1
        have c4 := hc 5
        have f0 := hf 1
        have f4 := hf 5
        simp [harr] at c0 c4
        clear hc hf
        go_wp2
        go_region
        go_wp2
        go_roundw
        case rel => exact ⟨2, by omega, rfl, head_step s.size m 1 (by omega) wr w w.heap.size B1 _ _ _ _ (by have := HB1.out; omega) (by have := HB1.out; omega) _ HZ.out HZ2.out HB.out (by simp [hcell, b4]; try omega) (by simp [hcell, b4]; try omega)⟩
        case measure => simp [intOf]
      | 2, _ =>
        have c0 := hc 2
        have c4 := hc 6
        have f0 := hf 2
        have f4 := hf 6
        simp [harr] at c0 c4
        clear hc hf
        go_wp2
        go_region
        go_wp2
        go_roundw
        case rel => exact ⟨3, by omega, rfl, head_step s.size m 2 (by omega) wr w w.heap.size B1 _ _ _ _ (by have := HB1.out; omega) (by have := HB1.out; omega) _ HZ.out HZ2.out HB.out (by simp [hcell, b4]; try omega) (by simp [hcell, b4]; try omega)⟩
        case measure => simp [intOf]
      | 3, _ =>
        have c0 := hc 3
        have c4 := hc 7
        have f0 := hf 3
        have f4 := hf 7
        simp [harr] at c0 c4
        clear hc hf
        go_wp2
        go_region
        go_wp2
        go_roundw
        case rel => exact ⟨4, by omega, rfl, head_step s.size m 3 (by omega) wr w w.heap.size B1 _ _ _ _ (by have := HB1.out; omega) (by have := HB1.out; omega) _ HZ.out HZ2.out HB.out (by simp [hcell, b4]; try omega) (by simp [hcell, b4]; try omega)⟩
        case measure => simp [intOf]
    · have : k = 4 := by omega
      subst this
      have hsz : ∀ k, (Try.prog.info? 108).map (·.size) = some (harr s.size m k).size := fun k => by rw [show (harr s.size m k).size = 8 from rfl]; kernel_rfl
      clear hc hf
      go_wp2_with (first | ((refine wpList_load_row rfl 108 (.tmp 3) rfl _ rfl 108 (harr s.size m 4) (0, 0) _ HZ2.out Try.underlying108 rfl (hsz 4) ?_)) | ((refine wpList_store_row rfl 108 (.tmp 2) (.tmp 33) rfl _ _ rfl rfl 108 (harr s.size m 0) HZ.out (hsz 4) rfl (harr_one _ _ _) ?_)))
      refine bodyPost_ret (v := .agg (harr s.size m 4)) (results_cell_row rfl _ _ w.heap.size 108 (harr s.size m 4) (0, 0) _ rfl (setRow_heap _ _ _ _ _ _ HZ.out) Try.underlying108 rfl (hsz 4)) rfl ⟨by rw [harr_4, hd'.out], ?_⟩
      exact below_setRow HB.out (Nat.le_refl _) _
end Frm
end Go.Proofs.Yteaikleofboknaa
end
section
set_option maxRecDepth 100000
namespace Go.Proofs.Yteaikleofboknaa
open Go.RowKit
namespace Frm
open Crc (sum sum_any)
theorem or_join (n : Nat) (b : UInt8) (h : n < 1099511627776) : bits .or .i64 ((n : Int) * 256) (b.toNat : Int) = ((n * 256 + b.toNat : Nat) : Int) := by
  have hb := b.toNat_lt
  show IntKind.i64.wrap ((BitVec.ofInt 64 ((n : Int) * 256) ||| BitVec.ofInt 64 (b.toNat : Int)).toNat : Int) = _
  have e1 : (BitVec.ofInt 64 ((n : Int) * 256)).toNat = n * 256 := by rw [BitVec.toNat_ofInt]; omega
  have e2 : (BitVec.ofInt 64 (b.toNat : Int)).toNat = b.toNat := by rw [BitVec.toNat_ofInt]; omega
  rw [BitVec.toNat_or, e1, e2, nat_join 8 _ _ (by omega) (by omega), IntKind.wrap_i64]
  omega
/-- The first eight bytes as cells. -/
def zero8 : Array Value := (Own.byteVals (List.replicate 8 0)).toArray
theorem run_copy8 {P : Program} (w : World) (dT sT ty elem : TypeId) (g : Nat) (s : ByteArray) (cur : Array Value) (t : TypeId)
    (hu : P.underlying dT = some (.slice elem)) (hs : (P.info? elem).map (·.size) = some 1) (hg : w.heap[g]? = some (.cells cur t (0, 0))) (hle : 8 ≤ s.size) (hfit : cur.size = 8) :
    (Builtin.copy_ #[dT, sT] ty #[.slice (some ⟨g, 0, none⟩) 8 8, .string s]).run P w =
      .ok (goInt 8) (w.setRow g (Own.byteVals (s.data.toList.take 8)).toArray) := by
  have hlen : (Lib.byteCells (s.data.toList.take 8)).length = 8 := by rw [Lib.byteCells_length, List.length_take]; simp; omega
  have hst := run_storeCells_at P g 0 t (Lib.byteCells (s.data.toList.take 8)) 0 cur w hg (by rw [hlen]; omega) (Lib.byteCells_one _)
  have hmin : Nat.min s.size 8 = 8 := Nat.min_eq_right hle
  have htk : List.take 8 (List.map (fun b : UInt8 => Value.int IntKind.u8 (b.toNat : Int)) s.data.toList) = Lib.byteCells (s.data.toList.take 8) := by
    rw [← List.map_take]
    rfl
  rw [hlen] at hst
  simp only [Nat.add_zero] at hst
  cases hq : P.info? elem with
  | none => simp [hq] at hs
  | some i =>
    simp [Builtin.copy_, run_underlying hu, Builtin.lenOf, Builtin.firstCells, sizeOf, typeInfo, hq, hmin]
    rw [htk, hst]
    have e : cur.toList.drop 8 = [] := List.drop_eq_nil_of_le (by simpa using Nat.le_of_eq hfit)
    simp [Result.andThen, e]
    rfl
set_option maxHeartbeats 1000000 in
theorem first_short_walk (s : ByteArray) (h : s.size < 8) (w : World) :
    Calls Try.prog 51 #[.string s] w fun e w' => e = .returned (.tuple #[.string ⟨#[]⟩, .bool false]) ∧ w = w' := by
  go_enter Try.func51, Try.ntmps51
  go_wp2
  go_ret2
  exact ⟨rfl, rfl⟩
theorem eight (l : List UInt8) (h : 8 ≤ l.length) : ∃ b0 b1 b2 b3 b4 b5 b6 b7 t, l = b0 :: b1 :: b2 :: b3 :: b4 :: b5 :: b6 :: b7 :: t := by
  match l, h with
  | b0 :: b1 :: b2 :: b3 :: b4 :: b5 :: b6 :: b7 :: t, _ => exact ⟨b0, b1, b2, b3, b4, b5, b6, b7, t, rfl⟩
/-- Eight cells. -/
def C8 (w : World) (g : Nat) (v0 v1 v2 v3 v4 v5 v6 v7 : Value) : Prop :=
  w.cell? ⟨g, 0, none⟩ = some v0 ∧ w.cell? ⟨g, 1, none⟩ = some v1 ∧ w.cell? ⟨g, 2, none⟩ = some v2 ∧ w.cell? ⟨g, 3, none⟩ = some v3 ∧ w.cell? ⟨g, 4, none⟩ = some v4 ∧ w.cell? ⟨g, 5, none⟩ = some v5 ∧ w.cell? ⟨g, 6, none⟩ = some v6 ∧ w.cell? ⟨g, 7, none⟩ = some v7
theorem C8.below {w w' : World} {g : Nat} {v0 v1 v2 v3 v4 v5 v6 v7 : Value} (h : C8 w g v0 v1 v2 v3 v4 v5 v6 v7) (hb : Below w.heap.size w w') : C8 w' g v0 v1 v2 v3 v4 v5 v6 v7 := by
  have hg : g < w.heap.size := block_lt_of_cell h.1
  have e : ∀ j, w'.cell? ⟨g, j, none⟩ = w.cell? ⟨g, j, none⟩ := fun j => hb.cell (p := ⟨g, j, none⟩) hg
  unfold C8
  rw [e, e, e, e, e, e, e, e]
  exact h
/-- What is told of the record with which bytes begin. -/
def firstOf (l : List UInt8) (e : Ending) : Prop :=
  match first l with
  | some r => e = .returned (.tuple #[.string ⟨r.toArray⟩, .bool true])
  | none => ∃ t, e = .returned (.tuple #[.string t, .bool false])
set_option maxHeartbeats 1000000 in
theorem first_long (s : ByteArray) (h8 : 8 ≤ s.size) (hm : s.size ≤ maxLen) (w : World) :
    Calls Try.prog 51 #[.string s] w fun e w' => firstOf s.data.toList e ∧ Below w.heap.size w w' := by
  have hm' := hm
  unfold maxLen at hm'
  obtain ⟨b0, b1, b2, b3, b4, b5, b6, b7, t, hs⟩ := eight s.data.toList (by simpa using h8)
  have hcp := run_copy8 (P := Try.prog) (w.alloc (.cells zero8 108)) 97 9 3 5 w.heap.size s zero8 108 Try.underlying97 (by kernel_rfl) (Own.heap_new _ _) h8 rfl
  rw [World.setRow_alloc_new, hs] at hcp
  have hcp2 : Sem.run Try.prog (Builtin.copy_ #[97, 9] 3 #[.slice (some ⟨w.heap.size, 0, none⟩) 8 8, .string s]) (w.alloc (.cells #[.int .u8 0, .int .u8 0, .int .u8 0, .int .u8 0, .int .u8 0, .int .u8 0, .int .u8 0, .int .u8 0] 108)) = .ok (.int .i64 8) (w.alloc (.cells #[.int .u8 b0.toNat, .int .u8 b1.toNat, .int .u8 b2.toNat, .int .u8 b3.toNat, .int .u8 b4.toNat, .int .u8 b5.toNat, .int .u8 b6.toNat, .int .u8 b7.toNat] 108)) := hcp
  have hlt : ¬ s.size < 8 := by omega
  clear hcp
  go_enter Try.func51, Try.ntmps51
  go_wp2
  have h80 : b0.toNat < 256 := b0.toNat_lt
  have h81 : b1.toNat < 256 := b1.toNat_lt
  have h82 : b2.toNat < 256 := b2.toNat_lt
  have h83 : b3.toNat < 256 := b3.toNat_lt
  go_loop [5, 17] (fun n i => ∃ k : Nat, k ≤ 4 ∧ i = .int .i64 k ∧ n = .int .i64 ((num ([b0, b1, b2, b3].take k) : Nat) : Int)) (fun _ i => 4 - (intOf i).toNat)
  case atStart => exact ⟨0, by omega, rfl, rfl⟩
  case round =>
    obtain ⟨k, hk, rfl, rfl⟩ := hrel
    by_cases hlt4 : k < 4
    · match k, hlt4 with
      | 0, _ =>
        have hj := or_join (num ([b0, b1, b2, b3].take 0)) b0 (by simp [num]; try omega)
        have hn : Hid ((num ([b0, b1, b2, b3].take 1) : Nat) = num ([b0, b1, b2, b3].take 0) * 256 + b0.toNat) := rfl
        have hlo : ((num ([b0, b1, b2, b3].take 0) : Nat) : Int) ≤ 0 := by simp [num]; try omega
        generalize num ([b0, b1, b2, b3].take 0) = n at hj hn hlo ⊢
        go_wp2
        go_round
        case rel => exact ⟨1, by omega, rfl, congrArg (Value.int .i64) (by rw [hn.out]; omega)⟩
        case measure => simp [intOf]
      | 1, _ =>
        have hj := or_join (num ([b0, b1, b2, b3].take 1)) b1 (by simp [num]; try omega)
        have hn : Hid ((num ([b0, b1, b2, b3].take 2) : Nat) = num ([b0, b1, b2, b3].take 1) * 256 + b1.toNat) := rfl
        have hlo : ((num ([b0, b1, b2, b3].take 1) : Nat) : Int) ≤ 255 := by simp [num]; try omega
        generalize num ([b0, b1, b2, b3].take 1) = n at hj hn hlo ⊢
        go_wp2
        go_round
        case rel => exact ⟨2, by omega, rfl, congrArg (Value.int .i64) (by rw [hn.out]; omega)⟩
        case measure => simp [intOf]
      | 2, _ =>
        have hj := or_join (num ([b0, b1, b2, b3].take 2)) b2 (by simp [num]; try omega)
        have hn : Hid ((num ([b0, b1, b2, b3].take 3) : Nat) = num ([b0, b1, b2, b3].take 2) * 256 + b2.toNat) := rfl
        have hlo : ((num ([b0, b1, b2, b3].take 2) : Nat) : Int) ≤ 65535 := by simp [num]; try omega
        generalize num ([b0, b1, b2, b3].take 2) = n at hj hn hlo ⊢
        go_wp2
        go_round
        case rel => exact ⟨3, by omega, rfl, congrArg (Value.int .i64) (by rw [hn.out]; omega)⟩
        case measure => simp [intOf]
      | 3, _ =>
        have hj := or_join (num ([b0, b1, b2, b3].take 3)) b3 (by simp [num]; try omega)
        have hn : Hid ((num ([b0, b1, b2, b3].take 4) : Nat) = num ([b0, b1, b2, b3].take 3) * 256 + b3.toNat) := rfl
        have hlo : ((num ([b0, b1, b2, b3].take 3) : Nat) : Int) ≤ 16777215 := by simp [num]; try omega
        generalize num ([b0, b1, b2, b3].take 3) = n at hj hn hlo ⊢
        go_wp2
        go_round
        case rel => exact ⟨4, by omega, rfl, congrArg (Value.int .i64) (by rw [hn.out]; omega)⟩
        case measure => simp [intOf]
    · have : k = 4 := by omega
      subst this
      have h4 : Hid (num ([b0, b1, b2, b3].take 4) = num (s.data.toList.take 4)) := by show num _ = _; rw [hs]; rfl
      have hlo : ((num ([b0, b1, b2, b3].take 4) : Nat) : Int) ≤ 4294967295 := by simp [num]; omega
      generalize num ([b0, b1, b2, b3].take 4) = n at h4 hlo ⊢
      have hlen : s.data.toList.length = s.size := by simp
      have h8n : ¬ s.data.toList.length < 8 := by omega
      cases hf : fits n
      · have hfo : ∀ e, e = .returned (.tuple #[.string ⟨#[]⟩, .bool false]) → firstOf s.data.toList e := by
          intro e he
          unfold firstOf first
          rw [if_neg h8n, ← h4.out, hf]
          exact ⟨_, he⟩
        have HF := Lib.hid hfo
        have FN := Lib.hid (fits_no n hf)
        clear hfo hf hs hlen h8n hcp2
        go_wp2_with (go_at_call 67; ((with_reducible refine (FN.out _).mono ?_); rintro e w1 ⟨rfl, rfl⟩))
        go_ret2
        exact ⟨HF.out _ rfl, (Below.refl _ _).alloc (Nat.le_refl _) _⟩
      · have FY := Lib.hid (fits_yes n hf)
        by_cases hgt : (s.size : Int) - 8 < (n : Int)
        · have hfo : ∀ e, e = .returned (.tuple #[.string ⟨#[]⟩, .bool false]) → firstOf s.data.toList e := by
            intro e he
            unfold firstOf first
            rw [if_neg h8n, ← h4.out, hf, if_neg (by simp; omega)]
            exact ⟨_, he⟩
          have HF := Lib.hid hfo
          clear hfo hf hs hlen h8n hcp2
          go_wp2_with (go_at_call 67; ((with_reducible refine (FY.out _).mono ?_); rintro e w1 ⟨rfl, rfl⟩))
          go_ret2
          exact ⟨HF.out _ rfl, (Below.refl _ _).alloc (Nat.le_refl _) _⟩
        · obtain ⟨hf1, hf2⟩ := of_decide_eq_true hf
          have hr : (s.extract 8 (8 + n)).data.toList = (s.data.toList.drop 8).take n := by
            rw [ByteArray.data_extract]; simp
          have hrs : (s.extract 8 (8 + n)).size = n := by simp; omega
          have h8' : s.data.toList.take 8 = [b0, b1, b2, b3, b4, b5, b6, b7] := by rw [hs]; rfl
          have hfo : ∀ e, (hd (s.extract 8 (8 + n)).data.toList = [b0, b1, b2, b3, b4, b5, b6, b7] → e = .returned (.tuple #[.string (s.extract 8 (8 + n)), .bool true]) → firstOf s.data.toList e) ∧ (hd (s.extract 8 (8 + n)).data.toList ≠ [b0, b1, b2, b3, b4, b5, b6, b7] → e = .returned (.tuple #[.string (s.extract 8 (8 + n)), .bool false]) → firstOf s.data.toList e) := by
            intro e
            rw [hr, ← h8']
            have hc : (fits (num (s.data.toList.take 4)) && decide (num (s.data.toList.take 4) ≤ s.data.toList.length - 8)) = true := by rw [← h4.out, hf]; simp; omega
            constructor
            · intro hh he
              unfold firstOf first
              rw [if_neg h8n, if_pos hc, ← h4.out, if_pos hh, ← hr]
              exact he
            · intro hh he
              unfold firstOf first
              rw [if_neg h8n, if_pos hc, ← h4.out, if_neg hh]
              exact ⟨_, he⟩
          have HF := Lib.hid hfo
          have hsl := Own.slice_str (P := Try.prog) Try.underlying9 s 8 (8 + n) 8 (8 + (n : Int)) rfl (by omega) (by omega) (by omega)
          clear hfo hf hs hlen h8n hcp2 hr h8' hf1
          go_wp2_with (go_at_call 67; ((with_reducible refine (FY.out _).mono ?_); rintro e w1 ⟨rfl, rfl⟩))
          generalize s.extract 8 (8 + n) = R at hrs HF ⊢
          have hR : R.size ≤ 4096 := by omega
          have HO := Lib.hid (headOf_any R hR)
          have heql : ∀ w', Sem.run Try.prog (binOp .eql 108 (.agg (Own.byteVals (hd R.data.toList)).toArray) (.agg #[.int .u8 b0.toNat, .int .u8 b1.toNat, .int .u8 b2.toNat, .int .u8 b3.toNat, .int .u8 b4.toNat, .int .u8 b5.toNat, .int .u8 b6.toNat, .int .u8 b7.toNat])) w' = .ok (.bool (hd R.data.toList == [b0, b1, b2, b3, b4, b5, b6, b7])) w' :=
            fun w' => run_eql_bytes w' 108 5 8 Try.underlying108 Try.underlying5 (fun w => by kernel_rfl) _ [b0, b1, b2, b3, b4, b5, b6, b7] rfl rfl
          have hu := Try.underlying108
          have hi : (Try.prog.info? 108).map (·.size) = some ([.int .u8 b0.toNat, .int .u8 b1.toNat, .int .u8 b2.toNat, .int .u8 b3.toNat, .int .u8 b4.toNat, .int .u8 b5.toNat, .int .u8 b6.toNat, .int .u8 b7.toNat] : List Value).length := by kernel_rfl
          have hrow := Own.heap_new w (.cells #[.int .u8 b0.toNat, .int .u8 b1.toNat, .int .u8 b2.toNat, .int .u8 b3.toNat, .int .u8 b4.toNat, .int .u8 b5.toNat, .int .u8 b6.toNat, .int .u8 b7.toNat] 108)
          have HBW : Hid (Below w.heap.size w (w.alloc (.cells #[.int .u8 b0.toNat, .int .u8 b1.toNat, .int .u8 b2.toNat, .int .u8 b3.toNat, .int .u8 b4.toNat, .int .u8 b5.toNat, .int .u8 b6.toNat, .int .u8 b7.toNat] 108))) := (Below.refl _ _).alloc (Nat.le_refl _) _
          generalize w.alloc (.cells #[.int .u8 b0.toNat, .int .u8 b1.toNat, .int .u8 b2.toNat, .int .u8 b3.toNat, .int .u8 b4.toNat, .int .u8 b5.toNat, .int .u8 b6.toNat, .int .u8 b7.toNat] 108) = W at hrow HBW ⊢
          have hC : C8 W w.heap.size (.int .u8 b0.toNat) (.int .u8 b1.toNat) (.int .u8 b2.toNat) (.int .u8 b3.toNat) (.int .u8 b4.toNat) (.int .u8 b5.toNat) (.int .u8 b6.toNat) (.int .u8 b7.toNat) := by
            unfold C8
            simp only [cell_of_row _ _ _ _ _ _ hrow]
            exact ⟨rfl, rfl, rfl, rfl, rfl, rfl, rfl, rfl⟩
          have HC := Lib.hid hC
          clear hrow hi hC
          go_region_held3 (fun w' => w'.cell? ⟨w.heap.size, 0, none⟩ = some (.int .u8 b0.toNat) ∧ w'.cell? ⟨w.heap.size, 1, none⟩ = some (.int .u8 b1.toNat) ∧ w'.cell? ⟨w.heap.size, 2, none⟩ = some (.int .u8 b2.toNat) ∧ w'.cell? ⟨w.heap.size, 3, none⟩ = some (.int .u8 b3.toNat) ∧ w'.cell? ⟨w.heap.size, 4, none⟩ = some (.int .u8 b4.toNat) ∧ w'.cell? ⟨w.heap.size, 5, none⟩ = some (.int .u8 b5.toNat) ∧ w'.cell? ⟨w.heap.size, 6, none⟩ = some (.int .u8 b6.toNat) ∧ w'.cell? ⟨w.heap.size, 7, none⟩ = some (.int .u8 b7.toNat)) (first | exact HC.out | exact HC1.out) (first | (go_at_call 68; ((with_reducible refine (HO.out _).mono ?_); rintro e w1 ⟨rfl, hb1⟩); have HC1 : Hid (C8 w1 _ _ _ _ _ _ _ _ _) := C8.below (w := W.drew) HC.out hb1))
          have HBF : Hid (Below w.heap.size w w1) := below2 HBW.out.drew hb1
          clear heql hu
          cases hq : (hd R.data.toList == [b0, b1, b2, b3, b4, b5, b6, b7])
          · have hne := Lib.hid (beq_eq_false_iff_ne.1 hq)
            clear hq
            go_wp2
            go_ret2
            exact ⟨(HF.out _).2 hne.out rfl, HBF.out⟩
          · have heq := Lib.hid (eq_of_beq hq)
            clear hq
            go_wp2
            go_ret2
            exact ⟨(HF.out _).1 heq.out rfl, HBF.out⟩
end Frm
end Go.Proofs.Yteaikleofboknaa
end
