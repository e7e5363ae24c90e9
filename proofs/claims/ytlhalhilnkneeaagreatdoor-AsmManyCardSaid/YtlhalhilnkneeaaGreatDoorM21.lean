/- Texts put together: AsmV, AsmW, AsmQ, AsmY, AsmZ. -/
import Derived.Test.YtlhalhilnkneeaaGreatDoorM20
import Derived.Maps.OwnOps
import Derived.Maps.Views
import Derived.Deep.MidRow
import Derived.Test.YtlhalhilnkneeaaGreatDoorM11
import Derived.Great.BuildSlice
set_option linter.all false
section
set_option maxRecDepth 100000
namespace Go.Proofs.YtlhalhilnkneeaaGreatDoor
open Go.RowKit Go.Great Go.Sort
namespace Asm
open Go.Lib (decDigits itoa)
open Pen (bs)
open In (strVals Strs)
open Frm (rows)
open Rec (below2 below_al below_dN Stk Stks stkVals)
open Cmd (Gives Snum CmdIn fi fn nm place chkV Cok Lies Stand Eqv zeroC kindOf load_cmd store_cmd ret_cmd setRow_cmd GivesC setV stand_new)
theorem FS.put {w W : World} {cb rb : Nat} {c c0 c9 d : CmdIn} {o : Option CmdIn} (h : FS w W cb rb c) (ho : o = some d) (he : Eqv c9 d) (hl : Lies W c9) (hf : ∀ x, At c9 x → x.block ≠ rb) (hp : (∀ x, c9.ga = some x → c0.ga = some x ∨ w.heap.size ≤ x.block) ∧ ∀ x, c9.wa = some x → c0.wa = some x ∨ w.heap.size ≤ x.block) : GivesF c0 o w (.returned (.tuple #[.agg c9.val, .bool true])) (W.setRow rb c9.val) := by
  subst ho
  have hg := setRow_grown W rb c9.val
  exact ⟨c9, rfl, (fun d' hd => by cases hd; exact he), fun _ => lies_keep hl fun x hx => ⟨hg.block x.block (lies_lt hl hx) (fun e => hf x hx (Option.some.inj e)), Nat.lt_of_lt_of_le (lies_lt hl hx) hg.size⟩, h.bel.grown hg h.bel.size (fun k hk => by cases hk; exact h.num.1), fun _ => hp⟩
set_option maxHeartbeats 8000000 in
theorem deskField_any (c : CmdIn) (a b : List UInt8) (hbl : b.length ≤ 1000000) (w : World) (hl : Lies w c) (hn : c.gives.length ≤ 100 ∧ c.wants.length ≤ 100) (hE : Env w) : Calls Tryz.prog 53 #[.agg c.val, .string (bs a), .string (bs b)] w (GivesF c (fieldV c a b) w) := by
  have HPN := Lib.hid (FS.new hl)
  have SU : Hid (∀ W, Below w.heap.size w W → Calls Tryz.prog 103 #[.string (bs b)] W (StkRes (stksL b) W)) := fun W h => deskStacks_any (bs b) (by rw [Pen.bs_size]; exact hbl) W (hE.below h)
  have NU : Hid (∀ W, Below w.heap.size w W → Calls Tryz.prog 104 #[.string (bs b)] W (NumRes b W)) := fun W h => deskNumber_any b hbl W (hE.below h)
  have FU : Hid (∀ W, Below w.heap.size w W → Calls Tryz.prog 65 #[.int .i64 c.kind] W (Gives (fn c.kind) W)) := fun W h => Cmd.fields_any c.kind W (hE.below h).tab.sp
  have EU : Hid (∀ (n : Int) (W : World), Lies W c → Calls Tryz.prog 106 #[.agg c.val, .string (bs a), .int .i64 n] W (GivesC c (setV c (bs a) n) (place (bs a)).isSome W)) := fun n W h => Cmd.set2_any c (bs a) n W h hn
  obtain ⟨O, hO⟩ : ∃ O, Hid (fieldV c a b = O) := ⟨_, Lib.hid rfl⟩
  have HOF := Lib.hid (hO.out.symm.trans (fieldV_issues c a b))
  rw [hO.out]
  clear hl hn hE hO
  obtain ⟨KD2, hKD2⟩ : ∃ KD2, Hid (c.kind = KD2) := ⟨_, Lib.hid rfl⟩
  rw [hKD2.out] at FU
  obtain ⟨IS, hIS⟩ : ∃ IS, Hid (issues KD2 a = IS) := ⟨_, Lib.hid rfl⟩
  rw [show issues c.kind a = IS from by rw [hKD2.out]; exact hIS.out] at HOF
  have qg : ((bs a).toList == [103, 105, 118, 101, 115]) = decide (a = givesN) := by
    rw [bs_toList, Bool.eq_iff_iff]
    simp [givesN]
    exact ⟨fun h => decide_eq_true h, of_decide_eq_true⟩
  have qw : ((bs a).toList == [119, 97, 110, 116, 115]) = decide (a = wantsN) := by
    rw [bs_toList, Bool.eq_iff_iff]
    simp [wantsN]
    exact ⟨fun h => decide_eq_true h, of_decide_eq_true⟩
  obtain ⟨GG, hGG⟩ : ∃ GG, Hid (decide (a = givesN) = GG) := ⟨_, Lib.hid rfl⟩
  obtain ⟨WW, hWW⟩ : ∃ WW, Hid (decide (a = wantsN) = WW) := ⟨_, Lib.hid rfl⟩
  rw [hGG.out] at qg
  rw [hWW.out] at qw
  have QG := Lib.hid qg
  go_enter Tryz.func53, Tryz.ntmps53
  go_upto_region 1 with fail
  obtain ⟨cb, hcb⟩ : ∃ cb, Hid (w.heap.size = cb) := ⟨_, Lib.hid rfl⟩
  obtain ⟨rb, hrb⟩ : ∃ rb, Hid (w.heap.size + 1 = rb) := ⟨_, Lib.hid rfl⟩
  refine Cmd.wp_named fun W0 hW0 => ?_
  have HP : Hid (FS w W0 cb rb c) := by
    rw [hW0, ← hcb.out, ← hrb.out]
    exact HPN.out
  have k5 := HP.out.box.three.1
  rw [hKD2.out] at k5
  have ecb := hcb.out
  have erb := hrb.out
  clear hW0 HPN
  rw [hrb.out, hcb.out]
  go_cut [22] (fun v wx => v = .bool IS ∧ wx = W0)
  case first =>
    have hI2 : ((KD2 == 14) && (GG || WW)) = IS := by
      rw [← hIS.out, ← hGG.out, ← hWW.out]
      unfold issues
      congr 1
    by_cases h14 : KD2 = 14
    · have b14 : (KD2 == 14) = true := by simpa using h14
      rw [b14, Bool.true_and] at hI2
      cases GG
      · rw [Bool.false_or] at hI2
        cases WW
        · have HI2 : Hid (false = IS) := hI2
          clear hI2
          go_wp2
          go_meet
          case rel => exact ⟨congrArg Value.bool HI2.out, rfl⟩
        · have HI2 : Hid (true = IS) := hI2
          clear hI2
          go_wp2
          go_meet
          case rel => exact ⟨congrArg Value.bool HI2.out, rfl⟩
      · have HI2 : Hid (true = IS) := hI2
        clear hI2
        go_wp2
        go_meet
        case rel => exact ⟨congrArg Value.bool HI2.out, rfl⟩
    · have b14 : (KD2 == 14) = false := by simpa using h14
      have HI2 : Hid (false = IS) := by rw [b14] at hI2; exact hI2
      clear hI2
      go_wp2
      go_meet
      case rel => exact ⟨congrArg Value.bool HI2.out, rfl⟩
  case rest =>
    obtain ⟨rfl, rfl⟩ := hcut
    cases IS with
    | true =>
      have HOF3 : Hid (O = if a = givesN then (stksL b).map fun l => { c with gives := l, ga := none, gc := 0 } else (stksL b).map fun l => { c with wants := l, wa := none, wc := 0 }) := Lib.hid (HOF.out.trans (if_pos rfl))
      generalize stksL b = SO at *
      go_upto_region 3 with (go_at_call 103; (with_reducible refine (SU.out _ HP.out.bel).mono ?_); rintro e w6 ⟨⟨l6, a6, cap6, ho6, rfl, HS6, HF6, hn6⟩ | ⟨ho6, rfl⟩, HB6⟩)
      · have HP6 := Lib.hid (HP.out.below HB6.out)
        have FR6 : Hid (∀ x, a6 = some x → x.block ≠ cb ∧ x.block ≠ rb) := fun x hx => by
          have h1 := HF6.out x hx
          have h2 : cb < _ := World.rowIs.lt HP.out.box
          have h3 := (Array.getElem?_eq_some_iff.1 HP.out.res).1
          omega
        by_cases hg : a = givesN
        · have GT : GG = true := by rw [← hGG.out]; exact decide_eq_true hg
          subst GT
          have HRO := HOF3.out.trans (if_pos hg)
          rw [ho6] at HRO
          have HR := Lib.hid HRO
          clear hg HRO
          have c20 := HP6.out.box.three
          have fz := Cmd.num_frozen HP6.out.box 20
          have cbl : cb < w6.heap.size := World.rowIs.lt HP6.out.box
          have m20 := c20.2.1
          clear c20
          have HPN : Hid (FS w (w6.setCell ⟨cb, 20, none⟩ (.slice a6 l6.length cap6)) cb rb { c with gives := l6, ga := a6, gc := cap6 }) := by
            refine HP6.out.set ⟨HS6.out, HP6.out.lies.w⟩ (fun x hx => ?_) (HP6.out.box.giv l6 a6 cap6) ⟨rfl, rfl, rfl, by simp, fun k hk hne => Below.heap_setCell _ _ _ _ fun e => hne (by rw [e])⟩
            rcases hx with ⟨h, e⟩ | ⟨h, e⟩
            · exact FR6.out x e
            · exact HP.out.far x (Or.inr ⟨h, e⟩)
          go_wp2_with (first | (refine load_cmd rfl (.tmp 3) rfl cb rfl { c with gives := l6, ga := a6, gc := cap6 } HPN.out.box ?_) | (refine store_cmd rfl (.tmp 6) (.tmp 34) rfl rfl rb { c with gives := l6, ga := a6, gc := cap6 } zeroC rfl rfl HPN.out.res ?_))
          try simp only [Exit.inBlock, Exit.then]
          exact bodyPost_ret (v := .tuple #[.agg (CmdIn.val { c with gives := l6, ga := a6, gc := cap6 }), .bool true]) (ret_cmd rfl _ _ rb { c with gives := l6, ga := a6, gc := cap6 } _ rfl rfl (setRow_cmd _ HPN.out.res)) rfl (HPN.out.yes HR.out ⟨rfl, rfl, rfl, rfl⟩ ⟨fun x hx => Or.inr (Nat.le_trans HP.out.bel.size (HF6.out x hx)), fun x hx => Or.inl hx⟩)
        · have GT : GG = false := by rw [← hGG.out]; exact decide_eq_false hg
          subst GT
          have HRO := HOF3.out.trans (if_neg hg)
          rw [ho6] at HRO
          have HR := Lib.hid HRO
          clear hg HRO
          have c20 := HP6.out.box.three
          have fz := Cmd.num_frozen HP6.out.box 21
          have cbl : cb < w6.heap.size := World.rowIs.lt HP6.out.box
          have m20 := c20.2.2
          clear c20
          have HPN : Hid (FS w (w6.setCell ⟨cb, 21, none⟩ (.slice a6 l6.length cap6)) cb rb { c with wants := l6, wa := a6, wc := cap6 }) := by
            refine HP6.out.set ⟨HP6.out.lies.g, HS6.out⟩ (fun x hx => ?_) (HP6.out.box.wan l6 a6 cap6) ⟨rfl, rfl, rfl, by simp, fun k hk hne => Below.heap_setCell _ _ _ _ fun e => hne (by rw [e])⟩
            rcases hx with ⟨h, e⟩ | ⟨h, e⟩
            · exact HP.out.far x (Or.inl ⟨h, e⟩)
            · exact FR6.out x e
          go_wp2_with (first | (refine load_cmd rfl (.tmp 3) rfl cb rfl { c with wants := l6, wa := a6, wc := cap6 } HPN.out.box ?_) | (refine store_cmd rfl (.tmp 6) (.tmp 34) rfl rfl rb { c with wants := l6, wa := a6, wc := cap6 } zeroC rfl rfl HPN.out.res ?_))
          try simp only [Exit.inBlock, Exit.then]
          exact bodyPost_ret (v := .tuple #[.agg (CmdIn.val { c with wants := l6, wa := a6, wc := cap6 }), .bool true]) (ret_cmd rfl _ _ rb { c with wants := l6, wa := a6, wc := cap6 } _ rfl rfl (setRow_cmd _ HPN.out.res)) rfl (HPN.out.yes HR.out ⟨rfl, rfl, rfl, rfl⟩ ⟨fun x hx => Or.inl hx, fun x hx => Or.inr (Nat.le_trans HP.out.bel.size (HF6.out x hx))⟩)
      · have HP6 := Lib.hid (HP.out.below HB6.out)
        by_cases hg : a = givesN
        · have GT : GG = true := by rw [← hGG.out]; exact decide_eq_true hg
          subst GT
          have HRO := HOF3.out.trans (if_pos hg)
          rw [ho6] at HRO
          have HR := Lib.hid HRO
          clear hg HRO
          have c20 := HP6.out.box.three
          have fz := Cmd.num_frozen HP6.out.box 20
          have cbl : cb < w6.heap.size := World.rowIs.lt HP6.out.box
          have m20 := c20.2.1
          clear c20
          have HPN : Hid (FS w (w6.setCell ⟨cb, 20, none⟩ (.slice none 0 0)) cb rb { c with gives := [], ga := none, gc := 0 }) := by
            refine HP6.out.set ⟨fun i hi => absurd hi (Nat.not_lt_zero i), HP6.out.lies.w⟩ (fun x hx => ?_) (HP6.out.box.giv [] none 0) ⟨rfl, rfl, rfl, by simp, fun k hk hne => Below.heap_setCell _ _ _ _ fun e => hne (by rw [e])⟩
            rcases hx with ⟨h, e⟩ | ⟨h, e⟩
            · exact absurd rfl h
            · exact HP.out.far x (Or.inr ⟨h, e⟩)
          go_wp2_with (first | (refine load_cmd rfl (.tmp 3) rfl cb rfl { c with gives := [], ga := none, gc := 0 } HPN.out.box ?_) | (refine store_cmd rfl (.tmp 6) (.tmp 34) rfl rfl rb { c with gives := [], ga := none, gc := 0 } zeroC rfl rfl HPN.out.res ?_))
          try simp only [Exit.inBlock, Exit.then]
          exact bodyPost_ret (v := .tuple #[.agg (CmdIn.val { c with gives := [], ga := none, gc := 0 }), .bool false]) (ret_cmd rfl _ _ rb { c with gives := [], ga := none, gc := 0 } _ rfl rfl (setRow_cmd _ HPN.out.res)) rfl (HPN.out.no HR.out)
        · have GT : GG = false := by rw [← hGG.out]; exact decide_eq_false hg
          subst GT
          have HRO := HOF3.out.trans (if_neg hg)
          rw [ho6] at HRO
          have HR := Lib.hid HRO
          clear hg HRO
          have c20 := HP6.out.box.three
          have fz := Cmd.num_frozen HP6.out.box 21
          have cbl : cb < w6.heap.size := World.rowIs.lt HP6.out.box
          have m20 := c20.2.2
          clear c20
          have HPN : Hid (FS w (w6.setCell ⟨cb, 21, none⟩ (.slice none 0 0)) cb rb { c with wants := [], wa := none, wc := 0 }) := by
            refine HP6.out.set ⟨HP6.out.lies.g, fun i hi => absurd hi (Nat.not_lt_zero i)⟩ (fun x hx => ?_) (HP6.out.box.wan [] none 0) ⟨rfl, rfl, rfl, by simp, fun k hk hne => Below.heap_setCell _ _ _ _ fun e => hne (by rw [e])⟩
            rcases hx with ⟨h, e⟩ | ⟨h, e⟩
            · exact HP.out.far x (Or.inl ⟨h, e⟩)
            · exact absurd rfl h
          go_wp2_with (first | (refine load_cmd rfl (.tmp 3) rfl cb rfl { c with wants := [], wa := none, wc := 0 } HPN.out.box ?_) | (refine store_cmd rfl (.tmp 6) (.tmp 34) rfl rfl rb { c with wants := [], wa := none, wc := 0 } zeroC rfl rfl HPN.out.res ?_))
          try simp only [Exit.inBlock, Exit.then]
          exact bodyPost_ret (v := .tuple #[.agg (CmdIn.val { c with wants := [], wa := none, wc := 0 }), .bool false]) (ret_cmd rfl _ _ rb { c with wants := [], wa := none, wc := 0 } _ rfl rfl (setRow_cmd _ HPN.out.res)) rfl (HPN.out.no HR.out)
    | false =>
      have HOF3 : Hid (O = match numL b with
        | none => none
        | some n => if Cmd.isIn (fn KD2) (bs a) = true then match place (bs a) with
          | some i => some (c.set i n)
          | none => none
        else none) := Lib.hid (by rw [← hKD2.out]; exact HOF.out.trans (if_neg (by decide)))
      obtain ⟨m6, hm6⟩ : ∃ m, Hid ((fn KD2).length = m) := ⟨_, Lib.hid rfl⟩
      have hm1 : m6 ≤ 11 := by
        rw [← hm6.out]
        unfold fn
        rw [List.length_map]
        exact Cmd.fi_len KD2
      obtain ⟨II, hII⟩ : ∃ II, Hid (Cmd.isIn (fn KD2) (bs a) = II) := ⟨_, Lib.hid rfl⟩
      have JU : Hid (∀ (oa : Option Addr) (oc : Nat) W, Strs W oa (fn KD2) → Calls Tryz.prog 105 #[.slice oa m6 oc, .string (bs a)] W fun e w' => e = .returned (.bool II) ∧ w' = W) := fun oa oc W h => by
        have := Cmd.contains_any oa oc (fn KD2) m6 hm6.out (by omega) (bs a) W h
        rw [hII.out] at this
        exact this
      rw [hII.out] at HOF3
      obtain ⟨ON6, hON6⟩ : ∃ x : Option Int, Hid (numL b = x) := ⟨_, Lib.hid rfl⟩
      cases hx6 : ON6 with
      | none =>
        have HR : Hid (O = none) := by show _ = _; rw [HOF3.out, hON6.out, hx6]
        have NB2 : Hid (∀ W, Below w.heap.size w W → Calls Tryz.prog 104 #[.string (bs b)] W fun e w' => ∃ n, e = .returned (.tuple #[.int .i64 n, .bool false]) ∧ Below W.heap.size W w') := fun W hb => (NU.out W hb).mono fun e w' ⟨⟨n, ok, h1, h2⟩, h3⟩ => by
          have h4 := num_is h2
          rw [hON6.out, hx6] at h4
          cases ok with
          | false => exact ⟨n, h1, h3⟩
          | true => cases h4
        clear hx6
        go_wp2_with (first
          | (go_at_call 104; (with_reducible refine (NB2.out _ HP.out.bel).mono ?_); rintro e w6 ⟨n6, rfl, hb6⟩; have HP6 := Lib.hid (HP.out.below hb6); have k6 := HP6.out.box.three.1; rw [hKD2.out] at k6; clear hb6)
          | (refine load_cmd rfl (.tmp 3) rfl cb rfl c HP6.out.box ?_)
          | (refine store_cmd rfl (.tmp 6) (.tmp 51) rfl rfl rb c zeroC rfl rfl HP6.out.res ?_))
        try simp only [Exit.inBlock, Exit.then]
        exact bodyPost_ret (v := .tuple #[.agg c.val, .bool false]) (ret_cmd rfl _ _ rb c _ rfl rfl (setRow_cmd _ HP6.out.res)) rfl (HP6.out.no HR.out)
      | some n6 =>
        have NB2 : Hid (∀ W, Below w.heap.size w W → Calls Tryz.prog 104 #[.string (bs b)] W fun e w' => e = .returned (.tuple #[.int .i64 n6, .bool true]) ∧ Below W.heap.size W w') := fun W hb => (NU.out W hb).mono fun e w' ⟨⟨n, ok, h1, h2⟩, h3⟩ => by
          have h4 := num_is h2
          rw [hON6.out, hx6] at h4
          cases ok with
          | false => cases h4
          | true => cases h4; exact ⟨h1, h3⟩
        have HN6 : Hid (numL b = some n6) := by show _ = _; rw [hON6.out, hx6]
        clear hx6
        cases II with
        | false =>
          have HR : Hid (O = none) := by show _ = _; rw [HOF3.out, HN6.out]; rfl
          go_wp2_with (first
            | (go_at_call 104; (with_reducible refine (NB2.out _ HP.out.bel).mono ?_); rintro e w6 ⟨rfl, hb6⟩; have HP6 := Lib.hid (HP.out.below hb6); have k6 := HP6.out.box.three.1; rw [hKD2.out] at k6; clear hb6)
            | (go_at_call 65; (with_reducible refine (FU.out _ HP6.out.bel).mono ?_); rintro e w7 ⟨a7, c7, rfl, HF7, HB7, -⟩; rw [hm6.out]; have HP7 := Lib.hid (HP6.out.below HB7.out))
            | (go_at_call 105; (with_reducible refine (JU.out _ _ _ HF7.out).mono ?_); rintro e w8 ⟨rfl, rfl⟩)
            | (refine load_cmd rfl (.tmp 3) rfl cb rfl c HP7.out.box ?_)
            | (refine store_cmd rfl (.tmp 6) (.tmp 51) rfl rfl rb c zeroC rfl rfl HP7.out.res ?_))
          try simp only [Exit.inBlock, Exit.then]
          exact bodyPost_ret (v := .tuple #[.agg c.val, .bool false]) (ret_cmd rfl _ _ rb c _ rfl rfl (setRow_cmd _ HP7.out.res)) rfl (HP7.out.no HR.out)
        | true =>
          obtain ⟨i9, hi9⟩ := isIn_place hII.out
          have HR : Hid (O = some (c.set i9 n6)) := by
            show _ = _
            rw [HOF3.out, HN6.out, hi9]
            rfl
          have HV9 : Hid (setV c (bs a) n6 = c.set i9 n6) := by show _ = _; unfold setV; rw [hi9]
          have ES : Hid (∀ W, Lies W c → Calls Tryz.prog 106 #[.agg c.val, .string (bs a), .int .i64 n6] W (GivesC c (c.set i9 n6) true W)) := fun W h => by
            have := EU.out n6 W h
            rw [HV9.out, hi9] at this
            exact this
          go_wp2_with (first
            | (go_at_call 104; (with_reducible refine (NB2.out _ HP.out.bel).mono ?_); rintro e w6 ⟨rfl, hb6⟩; have HP6 := Lib.hid (HP.out.below hb6); have k6 := HP6.out.box.three.1; rw [hKD2.out] at k6; clear hb6)
            | (go_at_call 65; (with_reducible refine (FU.out _ HP6.out.bel).mono ?_); rintro e w7 ⟨a7, c7, rfl, HF7, HB7, -⟩; rw [hm6.out]; have HP7 := Lib.hid (HP6.out.below HB7.out))
            | (go_at_call 105; (with_reducible refine (JU.out _ _ _ HF7.out).mono ?_); rintro e w8 ⟨rfl, rfl⟩)
            | (refine load_cmd rfl (.tmp 3) rfl cb rfl c HP7.out.box ?_)
            | (go_at_call 106; (with_reducible refine (ES.out _ HP7.out.lies).mono ?_); rintro e w9 ⟨c9, rfl, HE9, HL9, HB9, HF9⟩; have HP9 := Lib.hid (HP7.out.below HB9.out))
            | (refine store_cmd rfl (.tmp 6) (.tmp 56) rfl rfl rb c9 zeroC rfl rfl HP9.out.res ?_))
          try simp only [Exit.inBlock, Exit.then]
          refine bodyPost_ret (v := .tuple #[.agg c9.val, .bool true]) (ret_cmd rfl _ _ rb c9 _ rfl rfl (setRow_cmd _ HP9.out.res)) rfl (HP9.out.put HR.out HE9.out HL9.out (fun x hx => ?_) ?_)
          · have hrl := (Array.getElem?_eq_some_iff.1 HP7.out.res).1
            rcases hx with ⟨h, e⟩ | ⟨h, e⟩
            · rcases HF9.out.1 x e with e2 | e2
              · exact (HP.out.far x (Or.inl ⟨by rw [HE9.out.gives] at h; exact h, e2⟩)).2
              · omega
            · rcases HF9.out.2 x e with e2 | e2
              · exact (HP.out.far x (Or.inr ⟨by rw [HE9.out.wants] at h; exact h, e2⟩)).2
              · omega
          · have hs := HP7.out.bel.size
            exact ⟨fun x hx => (HF9.out.1 x hx).imp id fun h => by omega, fun x hx => (HF9.out.2 x hx).imp id fun h => by omega⟩
end Asm
end Go.Proofs.YtlhalhilnkneeaaGreatDoor
end
section
set_option maxRecDepth 100000
namespace Go.Proofs.YtlhalhilnkneeaaGreatDoor
open Go.RowKit Go.Great Go.Sort Go.Maps
namespace Asm
open Go.Lib (decDigits itoa)
open Pen (bs)
open In (strVals Strs)
open Frm (rows)
open Rec (below2 below_al below_dN Stk Stks stkVals)
open Cat (Bx)
open Cmd (Gives Snum CmdIn fi fn nm place chkV Cok Lies Stand Eqv zeroC kindOf load_cmd store_cmd ret_cmd setRow_cmd GivesC setV stand_new)
theorem keyed : Keyed Tryz.prog 9 := string_keyed Tryz.underlying9
theorem zeroB (w : World) : (zeroValue 4).run Tryz.prog w = .ok (.bool false) w := by kernel_rfl
/-- The names that were seen, as a map reads them. -/
def SM (l : List (List UInt8)) : DataW Unit := l.foldl (fun D s => D.put (.string s) (.lit (.bool true))) (.map [])
theorem sm_fold : ∀ (l : List (List UInt8)) (D : DataW Unit) (s : List UInt8) (b : Bool), IsMap D → D.atKey (.string s) (.lit (.bool false)) = .lit (.bool b) → (l.foldl (fun D s => D.put (.string s) (.lit (.bool true))) D).atKey (.string s) (.lit (.bool false)) = .lit (.bool (b || decide (s ∈ l)))
  | [], D, s, b, _, h => by simpa using h
  | x :: l, D, s, b, hD, h => by
    rw [List.foldl_cons]
    by_cases e : x = s
    · subst e
      rw [sm_fold l _ x true (hD.put _ _) (atKey_put_same hD (show WideAt.IsKeyLit (.string x) from trivial) _ _)]
      simp
    · rw [sm_fold l _ s b (hD.put _ _) ((atKey_put_other (fun h => e (by injection h with h1; exact h1.symm)) _ _).trans h)]
      have hne : s ≠ x := fun h => e h.symm
      have : (decide (s ∈ x :: l)) = decide (s ∈ l) := by simp [hne]
      rw [this]
theorem sm_at (l : List (List UInt8)) (s : List UInt8) : (SM l).atKey (.string s) (.lit (.bool false)) = .lit (.bool (decide (s ∈ l))) := by
  have := sm_fold l (.map []) s false isMap_empty rfl
  simpa [SM] using this
theorem sm_snoc (l : List (List UInt8)) (s : List UInt8) : SM (l ++ [s]) = (SM l).put (.string s) (.lit (.bool true)) := by
  unfold SM
  rw [List.foldl_append]
  rfl
theorem plainElem_bool_inv {v : Value} {b : Bool} {ps : List MemPlace} (h : plainElem (H := Unit) Tryz.prog 4 v = some (.lit (.bool b), ps)) : v = .bool b := by
  cases v with
  | bool x =>
    rw [plainElem_bool Tryz.underlying4] at h
    simp only [Option.some.injEq, Prod.mk.injEq, DataW.lit.injEq, Lit.bool.injEq] at h
    rw [h.1]
  | _ =>
    unfold plainElem at h
    rw [Tryz.underlying4] at h
    simp at h
/-- Was a name seen? -/
theorem lookup_seen {ops : Array Oper} {rest : List Oper} {o : Oper} {a : Act} {w : World} {Q : Exit → Act → World → Prop} (hg : o.guard = none) (m x : Operand) (hop : o.op = Op.lookup 71 m x false) (b n : Nat) (l : List (List UInt8)) (hm : a.eval m = .map (some b)) (hown : w.ownsMap Tryz.prog 9 (plainElem Tryz.prog 4) b n (SM l))
    (s : List UInt8) (hx : a.eval x = .string (bs s)) (hs : s.length ≤ 1000000000) (r : Bool) (hr : decide (s ∈ l) = r) (h : wpList Tryz.prog ops Q rest (a.put o.dst (.bool r)) w) : wpList Tryz.prog ops Q (o :: rest) a w := by
  refine wpList_plain hg fun K' hK' => ?_
  obtain ⟨v, ps, hrun, hv⟩ := hown.lookup keyed Tryz.underlying71 (zeroB w) (plainElem_bool Tryz.underlying4 false) (WideMaps.keyOf_string_mk Tryz.underlying9 (s := bs s) (by rw [Pen.bs_size]; unfold maxLen; omega))
  rw [show (bs s).data.toList = s from rfl, sm_at, hr] at hv
  obtain rfl := plainElem_bool_inv hv
  unfold Oper.wp
  simp [execOp, hop, hm, hx, hrun, Result.andThen]
  exact hK' _ _ h
/-- A name is put. -/
theorem update_seen {ops : Array Oper} {rest : List Oper} {o : Oper} {a : Act} {w : World} {Q : Exit → Act → World → Prop} (hg : o.guard = none) (m x v : Operand) (hop : o.op = Op.mapUpdate 71 m x v) (b n : Nat) (l : List (List UInt8)) (hm : a.eval m = .map (some b)) (hn : n < 10000000) (hown : w.ownsMap Tryz.prog 9 (plainElem Tryz.prog 4) b n (SM l))
    (s : List UInt8) (hx : a.eval x = .string (bs s)) (hs : s.length ≤ 1000000000) (hv : a.eval v = .bool true) (hd : o.dst = none) (h : ∀ w', w'.ownsMap Tryz.prog 9 (plainElem Tryz.prog 4) b (n + 1) (SM (l ++ [s])) → w.grownBy w' (some b) → wpList Tryz.prog ops Q rest a w') : wpList Tryz.prog ops Q (o :: rest) a w := by
  refine wpList_plain hg fun K' hK' => ?_
  obtain ⟨w', hrun, r1, r2⟩ := hown.update keyed Tryz.underlying71 (by unfold maxLen; omega) (WideMaps.keyOf_string_mk Tryz.underlying9 (s := bs s) (by rw [Pen.bs_size]; unfold maxLen; omega)) (plainElem_bool Tryz.underlying4 true)
  rw [show (bs s).data.toList = s from rfl, ← sm_snoc] at r1
  unfold Oper.wp
  simp [execOp, hop, hm, hx, hv, hrun, Result.andThen]
  refine hK' _ _ ?_
  show wpList Tryz.prog ops Q rest (a.put o.dst undef) w'
  rw [hd]
  exact h w' r1 r2
theorem wpl_unguard {P : Program} {ops : Array Oper} {rest : List Oper} {o : Oper} {a : Act} {w : World} {Q : Exit → Act → World → Prop} (hw : Region.wanted o (yielded ops a.tmps) = true) (h : wpList P ops Q ({ o with guard := none } :: rest) a w) : wpList P ops Q (o :: rest) a w := by
  have h' : (if Region.wanted { o with guard := none } (yielded ops a.tmps) = true then Oper.wp P { o with guard := none } a w (wpList P ops Q rest) Q ∨ (Oper.asks P { o with guard := none } a w ∧ LetsOut Q) else wpList P ops Q rest (a.put o.dst undef) w) := h
  rw [if_pos (show Region.wanted { o with guard := none } (yielded ops a.tmps) = true from rfl)] at h'
  show (if Region.wanted o (yielded ops a.tmps) = true then Oper.wp P o a w (wpList P ops Q rest) Q ∨ (Oper.asks P o a w ∧ LetsOut Q) else wpList P ops Q rest (a.put o.dst undef) w)
  rw [if_pos hw]
  exact h'
/-- All but the first. -/
theorem slice_tail {ops : Array Oper} {rest : List Oper} {o : Oper} {a : Act} {w : World} {Q : Exit → Act → World → Prop} (hg : o.guard = none) (x : Operand) (hop : o.op = Op.slice 46 x (some (.const (.int .i64 1))) none none) (b M C N D : Nat) (hN : N = M + 1) (hD : D = C + 1) (hx : a.eval x = .slice (some ⟨b, 0, none⟩) N D) (hc : M ≤ C)
    (h : ∀ off, (1 ≤ M → off = 1) → wpList Tryz.prog ops Q rest (a.put o.dst (.slice (some ⟨b, off, none⟩) M C)) w) : wpList Tryz.prog ops Q (o :: rest) a w := by
  subst hN hD
  refine wpList_plain hg fun K' hK' => ?_
  have hadd : (⟨b, 0, none⟩ : Addr).add 1 = ⟨b, 1, none⟩ := by unfold Addr.add; split <;> simp_all
  obtain ⟨i0, hi, hz0, hz1, hz2⟩ := info_parts Frm.sinfo
  have hrun : (Instr.sliceAt 46 (.slice (some ⟨b, 0, none⟩) (M + 1) (C + 1)) (some (.int .i64 1)) none none).run Tryz.prog w = .ok (.slice (some ⟨b, if C + 1 = 1 then 0 else 1, none⟩) M C) w := by
    have hu := Tryz.underlying46
    by_cases h0 : C = 0
    · simp [Instr.sliceAt, Instr.slice, Instr.sliceBounds, Instr.sliceBound, Sem.run_bind, run_underlying hu w, sizeOf, typeInfo, hi, hz1, asIntOf, h0]
      exact fun hh => absurd hh (by omega)
    · simp [Instr.sliceAt, Instr.slice, Instr.sliceBounds, Instr.sliceBound, Sem.run_bind, run_underlying hu w, sizeOf, typeInfo, hi, hz1, asIntOf, h0, hadd]
      exact fun hh => absurd hh (by omega)
  unfold Oper.wp
  have hce : a.eval (.const (.int .i64 1)) = .int .i64 1 := rfl
  simp [execOp, hop, hx, hce, hrun, Result.andThen]
  refine hK' _ _ (h _ fun hM => ?_)
  rw [if_neg (by omega)]
/-- Where a command's slices begin. -/
def AtW (c : CmdIn) (x : Addr) : Prop := c.ga = some x ∨ c.wa = some x
theorem at_w {c : CmdIn} {x : Addr} (h : At c x) : AtW c x := h.imp (·.2) (·.2)
/-- Two boxes and a map of names, while fields are read. -/
structure PM (w L W : World) (rb cb m : Nat) (c : CmdIn) (seen : List (List UInt8)) : Prop where
  bel : Below w.heap.size w W
  bx : Bx L.heap.size (fun k => k = cb ∨ k = m) L W
  box : Stand W cb c
  res : W.heap[rb]? = some (.cells zeroC.val 41 (0, 0))
  own : W.ownsMap Tryz.prog 9 (plainElem (H := Unit) Tryz.prog 4) m seen.length (SM seen)
  lies : Lies W c
  far : ∀ x, AtW c x → x.block ≠ m ∧ x.block ≠ cb ∧ x.block ≠ rb ∧ w.heap.size ≤ x.block
  len : c.gives.length ≤ 100 ∧ c.wants.length ≤ 100
  num : rb < L.heap.size ∧ cb < L.heap.size ∧ m < L.heap.size ∧ rb ≠ cb ∧ rb ≠ m ∧ cb ≠ m ∧ w.heap.size ≤ rb ∧ w.heap.size ≤ cb ∧ w.heap.size ≤ m
theorem PM.le {w L W : World} {rb cb m : Nat} {c : CmdIn} {seen : List (List UInt8)} (h : PM w L W rb cb m c seen) : w.heap.size ≤ L.heap.size ∧ L.heap.size ≤ W.heap.size := by
  have h1 := h.num
  have h2 := h.bx.size
  omega
theorem ownsMap_below {W V : World} {H : Type} {P : Program} {k : TypeId} {R : Value → Option (DataW H × List MemPlace)} {b n : Nat} {D : DataW H} (h : W.ownsMap P k R b n D) (hb : Below W.heap.size W V) : V.ownsMap P k R b n D :=
  h.kept (row := none) ⟨hb.os, hb.tape, hb.output, hb.size, fun j hj _ => hb.block j hj⟩ (by simp)
theorem PM.below {w L W V : World} {rb cb m : Nat} {c : CmdIn} {seen : List (List UInt8)} (h : PM w L W rb cb m c seen) (hb : Below W.heap.size W V) : PM w L V rb cb m c seen :=
  ⟨below2 h.bel hb, h.bx.below h.le.2 hb, h.box.below hb, (hb.block rb (Array.getElem?_eq_some_iff.1 h.res).1).trans h.res, ownsMap_below h.own hb, h.lies.below hb, h.far, h.len, h.num⟩
theorem PM.upd {w L W V : World} {rb cb m : Nat} {c : CmdIn} {seen : List (List UInt8)} {s : List UInt8} (h : PM w L W rb cb m c seen) (ho : V.ownsMap Tryz.prog 9 (plainElem (H := Unit) Tryz.prog 4) m (seen.length + 1) (SM (seen ++ [s]))) (hg : W.grownBy V (some m)) : PM w L V rb cb m c (seen ++ [s]) := by
  obtain ⟨n1, n2, n3, n4, n5, n6, n7, n8, n9⟩ := h.num
  have hl := h.le
  refine ⟨h.bel.grown hg (by omega) (fun k hk => by cases hk; exact n9), h.bx.grown hg hl.2 (fun k hk => by cases hk; exact Or.inr (Or.inr rfl)), World.rowIs.of_block h.box (hg.block cb (World.rowIs.lt h.box) (fun e => n6 (Option.some.inj e))), (hg.block rb (Array.getElem?_eq_some_iff.1 h.res).1 (fun e => n5 (Option.some.inj e))).trans h.res, by rw [List.length_append]; exact ho, ?_, h.far, h.len, h.num⟩
  exact lies_keep h.lies fun x hx => ⟨hg.block x.block (lies_lt h.lies hx) (fun e => (h.far x (at_w hx)).1 (Option.some.inj e)), Nat.lt_of_lt_of_le (lies_lt h.lies hx) hg.size⟩
theorem PM.set {w L W V : World} {rb cb m : Nat} {c c2 : CmdIn} {seen : List (List UInt8)} (h : PM w L W rb cb m c seen) (hl : Lies W c2) (hf : ∀ x, AtW c2 x → x.block ≠ m ∧ x.block ≠ cb ∧ x.block ≠ rb ∧ w.heap.size ≤ x.block) (hs : Stand V cb c2) (hn : c2.gives.length ≤ 100 ∧ c2.wants.length ≤ 100) (hg : W.grownBy V (some cb)) : PM w L V rb cb m c2 seen := by
  obtain ⟨n1, n2, n3, n4, n5, n6, n7, n8, n9⟩ := h.num
  have hle := h.le
  refine ⟨h.bel.grown hg (by omega) (fun k hk => by cases hk; exact n8), h.bx.grown hg hle.2 (fun k hk => by cases hk; exact Or.inr (Or.inl rfl)), hs, (hg.block rb (Array.getElem?_eq_some_iff.1 h.res).1 (fun e => n4 (Option.some.inj e))).trans h.res, h.own.kept hg (fun e => n6 (Option.some.inj e).symm), ?_, hf, hn, h.num⟩
  exact lies_keep hl fun x hx => ⟨hg.block x.block (lies_lt hl hx) (fun e => (hf x (at_w hx)).2.1 (Option.some.inj e)), Nat.lt_of_lt_of_le (lies_lt hl hx) hg.size⟩
theorem PM.no {w L W : World} {rb cb m : Nat} {c : CmdIn} {seen : List (List UInt8)} (h : PM w L W rb cb m c seen) : Below w.heap.size w (W.setRow rb zeroC.val) := by
  obtain ⟨n1, n2, n3, n4, n5, n6, n7, n8, n9⟩ := h.num
  have := h.le
  exact h.bel.grown (setRow_grown W rb _) (by omega) (fun k hk => by cases hk; exact n7)
theorem PM.yes {w L W : World} {rb cb m : Nat} {c d : CmdIn} {seen : List (List UInt8)} {o : Option CmdIn} (h : PM w L W rb cb m c seen) (ho : o = some d) (he : Eqv c d) : GivesP o w (.returned (.tuple #[.agg c.val, .int .i64 0])) (W.setRow rb c.val) := by
  obtain ⟨n1, n2, n3, n4, n5, n6, n7, n8, n9⟩ := h.num
  have := h.le
  subst ho
  have hg := setRow_grown W rb c.val
  exact ⟨c, rfl, he, lies_keep h.lies fun x hx => ⟨hg.block x.block (lies_lt h.lies hx) (fun e => (h.far x (at_w hx)).2.2.1 (Option.some.inj e)), Nat.lt_of_lt_of_le (lies_lt h.lies hx) hg.size⟩, h.bel.grown hg (by omega) (fun k hk => by cases hk; exact n7), fun x hx => (h.far x (at_w hx)).2.2.2⟩
/-- A field of commands that are alike. -/
theorem fieldV_eqv {c d : CmdIn} (h : Eqv c d) (a b : List UInt8) : (fieldV c a b = none ∧ fieldV d a b = none) ∨ ∃ c1 d1, fieldV c a b = some c1 ∧ fieldV d a b = some d1 ∧ Eqv c1 d1 := by
  obtain ⟨k, n, g, ga, gc, w, wa, wc⟩ := c
  obtain ⟨k2, n2, g2, ga2, gc2, w2, wa2, wc2⟩ := d
  obtain ⟨h1, h2, h3, h4⟩ := h
  dsimp only at h1 h2 h3 h4
  subst h1 h2 h3 h4
  unfold fieldV
  dsimp only
  split
  · cases stksL b with
    | none => exact Or.inl ⟨rfl, rfl⟩
    | some l => exact Or.inr ⟨_, _, rfl, rfl, rfl, rfl, rfl, rfl⟩
  · split
    · cases stksL b with
      | none => exact Or.inl ⟨rfl, rfl⟩
      | some l => exact Or.inr ⟨_, _, rfl, rfl, rfl, rfl, rfl, rfl⟩
    · cases numL b with
      | none => exact Or.inl ⟨rfl, rfl⟩
      | some z =>
        dsimp only
        split
        · cases place (bs a) with
          | none => exact Or.inl ⟨rfl, rfl⟩
          | some i => exact Or.inr ⟨_, _, rfl, rfl, rfl, rfl, rfl, rfl⟩
        · exact Or.inl ⟨rfl, rfl⟩
/-- A field's stacks are few. -/
theorem fieldV_few {c d : CmdIn} {a b : List UInt8} (h : fieldV c a b = some d) (hn : c.gives.length ≤ 100 ∧ c.wants.length ≤ 100) : d.gives.length ≤ 100 ∧ d.wants.length ≤ 100 := by
  unfold fieldV at h
  split at h
  · cases hs : stksL b with
    | none => rw [hs] at h; cases h
    | some l =>
      rw [hs] at h
      cases h
      have := stksL_len hs
      exact ⟨by show l.length ≤ 100; omega, hn.2⟩
  · split at h
    · cases hs : stksL b with
      | none => rw [hs] at h; cases h
      | some l =>
        rw [hs] at h
        cases h
        have := stksL_len hs
        exact ⟨hn.1, by show l.length ≤ 100; omega⟩
    · cases hs : numL b with
      | none => rw [hs] at h; cases h
      | some z =>
        rw [hs] at h
        dsimp only at h
        split at h
        · cases hp : place (bs a) with
          | none => rw [hp] at h; cases h
          | some i => rw [hp] at h; cases h; exact hn
        · cases h
end Asm
end Go.Proofs.YtlhalhilnkneeaaGreatDoor
end
section
set_option maxRecDepth 100000
namespace Go.Proofs.YtlhalhilnkneeaaGreatDoor
open Go.RowKit Go.Great Go.Sort
namespace Asm
open Pen (bs)
open In (strVals Strs)
open Frm (rows)
open Rec (below2 below_al below_dN Stk Stks stkVals)
open Cmd (Gives Snum CmdIn fi fn nm place chkV Cok Lies Stand Eqv zeroC kindOf load_cmd store_cmd ret_cmd setRow_cmd GivesC setV stand_new val_get size_val)
/-- The cells of commands. -/
def cmdVals (l : List CmdIn) : List Value := l.flatMap fun c => c.val.toList
theorem val_len (c : CmdIn) : c.val.toList.length = 22 := rfl
theorem val_one (c : CmdIn) : ∀ u ∈ c.val.toList, u.oneCell' = true := by simp [CmdIn.val, Value.oneCell']
theorem cmdVals_length (l : List CmdIn) : (cmdVals l).length = l.length * 22 := by
  induction l with
  | nil => rfl
  | cons x l ih =>
    show (x.val.toList ++ cmdVals l).length = _
    rw [List.length_append, ih, val_len, List.length_cons]; omega
theorem cmdVals_append (l m : List CmdIn) : cmdVals (l ++ m) = cmdVals l ++ cmdVals m := by simp [cmdVals]
theorem cmdVals_get : ∀ (l : List CmdIn) (i j : Nat) (v : Value), i < l.length → (l.getD i zeroC).val.toList[j]? = some v → (cmdVals l)[i * 22 + j]? = some v
  | [], i, j, v, hi, _ => absurd hi (Nat.not_lt_zero i)
  | x :: l, i, j, v, hi, h => by
    have hj : j < 22 := by
      rcases Nat.lt_or_ge j 22 with hj | hj
      · exact hj
      · rw [List.getElem?_eq_none (by rw [val_len]; exact hj)] at h; cases h
    show (x.val.toList ++ cmdVals l)[i * 22 + j]? = some v
    cases i with
    | zero =>
      rw [List.getElem?_append_left (by rw [val_len]; omega), Nat.zero_mul, Nat.zero_add]
      exact h
    | succ i =>
      rw [List.getElem?_append_right (by rw [val_len]; omega), val_len, show (i + 1) * 22 + j - 22 = i * 22 + j from by omega]
      exact cmdVals_get l i j v (by simpa using hi) (by simpa using h)
/-- Commands that lie one behind another. -/
def Cmds (W : World) (a : Option Addr) (l : List CmdIn) : Prop := ∀ i, i < l.length → ∃ b off, a = some ⟨b, off, none⟩ ∧ b < W.heap.size ∧ W.rangeAt b (off + i * 22) (l.getD i zeroC).val.toList ∧ Lies W (l.getD i zeroC)
theorem rangeAt_block {W V : World} {b o : Nat} {cs : List Value} (h : W.rangeAt b o cs) (hb : V.heap[b]? = W.heap[b]?) : V.rangeAt b o cs := fun j v hv => (World.cell?_of_block (a := ⟨b, o + j, none⟩) hb).trans (h j v hv)
theorem Cmds.below {W V : World} {a : Option Addr} {l : List CmdIn} (h : Cmds W a l) (hb : Below W.heap.size W V) : Cmds V a l := fun i hi => by
  obtain ⟨b, off, e, hlt, hr, hl⟩ := h i hi
  exact ⟨b, off, e, Nat.lt_of_lt_of_le hlt hb.size, rangeAt_block hr (hb.block b hlt), hl.below hb⟩
/-- A command is loaded out of a row. -/
theorem load_at {ops : Array Oper} {rest : List Oper} {o : Oper} {a : Act} {w : World} {Q : Exit → Act → World → Prop} (hgd : o.guard = none) (x : Operand) (ho : o.op = .load 41 x)
    (b off : Nat) (hx : a.eval x = .pointer (some ⟨b, off, none⟩)) (c : CmdIn) (hs : w.rangeAt b off c.val.toList) (h : wpList Tryz.prog ops Q rest (a.put o.dst (.agg c.val)) w) : wpList Tryz.prog ops Q (o :: rest) a w :=
  wpList_load_mid hgd 41 x ho b off hx c.val.toList _ hs Tryz.underlying41 rfl ((size_val c).trans (by simp)) (by simpa using h)
/-- A row of commands of one's own. -/
structure OC (B : Nat) (W : World) (v : Value) (l : List CmdIn) : Prop where
  own : W.ownsRow B 41 22 v l.length (cmdVals l)
  lies : ∀ c ∈ l, Lies W c
  far : ∀ c ∈ l, ∀ x, At c x → some x.block ≠ v.ownBlock
theorem OC.nil (B : Nat) (W : World) : OC B W (.slice none 0 0) [] := ⟨World.ownsRow_nil _ _ _ _, fun c hc => (by cases hc), fun c hc => (by cases hc)⟩
theorem OC.below {B : Nat} {W V : World} {v : Value} {l : List CmdIn} (h : OC B W v l) (hb : Below W.heap.size W V) : OC B V v l := ⟨Own.own_below h.own hb, fun c hc => (h.lies c hc).below hb, h.far⟩
theorem OC.app {B : Nat} {W V : World} {v : Value} {l : List CmdIn} {c : CmdIn} {g cap : Nat} (h : OC B W v l) (hl : Lies W c) (hf : ∀ x, At c x → some x.block ≠ v.ownBlock) (ho : V.ownsRow B 41 22 (.slice (some ⟨g, 0, none⟩) (l.length + 1) cap) (l.length + 1) (cmdVals l ++ c.val.toList)) (hg : W.grownBy V v.ownBlock) (hat : v.ownBlock = some g ∨ g = W.heap.size) : OC B V (.slice (some ⟨g, 0, none⟩) (l.length + 1) cap) (l ++ [c]) := by
  have fresh : ∀ d, Lies W d → (∀ x, At d x → some x.block ≠ v.ownBlock) → Lies V d ∧ ∀ x, At d x → some x.block ≠ Value.ownBlock (.slice (some ⟨g, 0, none⟩) (l.length + 1) cap) := fun d hd hf => by
    refine ⟨lies_keep hd fun x hx => ⟨hg.block x.block (lies_lt hd hx) (hf x hx), Nat.lt_of_lt_of_le (lies_lt hd hx) hg.size⟩, fun x hx e => ?_⟩
    have e1 : x.block = g := Option.some.inj e
    rcases hat with e2 | e2
    · exact hf x hx (by rw [e2, e1])
    · have := lies_lt hd hx
      omega
  have e : cmdVals (l ++ [c]) = cmdVals l ++ c.val.toList := by
    rw [cmdVals_append]
    show _ ++ (c.val.toList ++ []) = _
    rw [List.append_nil]
  refine ⟨by rw [List.length_append, e]; exact ho, fun d hd => ?_, fun d hd => ?_⟩
  · rcases List.mem_append.1 hd with hd | hd
    · exact (fresh d (h.lies d hd) (h.far d hd)).1
    · rw [List.mem_singleton.1 hd]; exact (fresh c hl hf).1
  · rcases List.mem_append.1 hd with hd | hd
    · exact (fresh d (h.lies d hd) (h.far d hd)).2
    · rw [List.mem_singleton.1 hd]; exact (fresh c hl hf).2
theorem OC.cmds {B : Nat} {W : World} {v : Value} {l : List CmdIn} (h : OC B W v l) : ∃ a cap, v = .slice a l.length cap ∧ Cmds W a l := by
  have ho := h.own
  rcases ho.2 with ⟨rfl, h0⟩ | ⟨g, cap, cur, rfl, _, hg, _⟩
  · exact ⟨none, 0, by rw [h0], fun i hi => by omega⟩
  · refine ⟨some ⟨g, 0, none⟩, cap, rfl, fun i hi => ⟨g, 0, rfl, (Array.getElem?_eq_some_iff.1 hg).1, fun j v hv => ?_, ?_⟩⟩
    · have := ho.cells rfl (i * 22 + j) _ (cmdVals_get l i j v hi hv)
      have hadd : (⟨g, 0, none⟩ : Addr).add (i * 22 + j) = ⟨g, 0 + i * 22 + j, none⟩ := by unfold Addr.add; split <;> simp_all <;> omega
      rwa [hadd] at this
    · refine h.lies _ ?_
      rw [List.getD_eq_getElem?_getD, List.getElem?_eq_getElem hi]
      exact List.getElem_mem _
/-- One command behind a row of one's own. -/
theorem list_cmd {ops : Array Oper} {rest : List Oper} {o : Oper} {a : Act} {w : World} {Q : Exit → Act → World → Prop} (hgd : o.guard = none) (s x : Operand)
    (ho : o.op = .call { callee := .builtin .append, args := #[s, x], argTypes := #[23, 23] })
    (i : TypeInfo) (hi : Tryz.prog.info? 41 = some i) (z : Value) (hz : i.zero = some z) (hsize : i.size = 22) (by' : Nat) (hby : i.bytes = by') (hb2 : by' ≤ 1000) (hzs : z.cells.size = 22)
    (B : Nat) (v : Value) (l : List CmdIn) (hs : a.eval s = v) (g0 c0 : Nat) (c : CmdIn) (hx : a.eval x = .slice (some ⟨g0, 0, none⟩) 1 c0) (h : OC B w v l) (hr : Stand w g0 c) (hl : Lies w c) (hf : ∀ x, At c x → some x.block ≠ v.ownBlock) (hn : l.length ≤ 10000000) (hbase : B ≤ w.heap.size)
    (hK : ∀ g cap w', OC B w' (.slice (some ⟨g, 0, none⟩) (l.length + 1) cap) (l ++ [c]) → w.grownBy w' v.ownBlock → wpList Tryz.prog ops Q rest (a.put o.dst (.slice (some ⟨g, 0, none⟩) (l.length + 1) cap)) w') : wpList Tryz.prog ops Q (o :: rest) a w :=
  wpList_append_lies w hgd s x 23 ho B 41 i z 22 by' Tryz.underlying23 hi hz hsize hby hzs (by decide) v l.length (cmdVals l) hs h.own ⟨g0, 0, none⟩ 1 c0 c.val.toList hx rfl
    (fun j u hj => by
      have hj2 : j < 22 := by
        rcases Nat.lt_or_ge j 22 with hj2 | hj2
        · exact hj2
        · rw [List.getElem?_eq_none (by rw [val_len]; exact hj2)] at hj; cases hj
      have hadd : (⟨g0, 0, none⟩ : Addr).add j = ⟨g0, j, none⟩ := by unfold Addr.add; split <;> simp_all
      rw [hadd, World.rowIs.cell hr hj2]
      have := val_get c j hj2
      rw [Array.getElem?_toList] at hj
      rw [this] at hj
      exact hj) (val_one c) (by decide) (by unfold maxLen; omega) (by
        have : (l.length + 1) * by' ≤ 10000001 * 1000 := Nat.mul_le_mul (by omega) hb2
        omega) hbase _ rfl
    (fun g cap w' hown' hgrow hg _ => hK g cap w' (h.app hl hf hown' hgrow hg) hgrow)
end Asm
end Go.Proofs.YtlhalhilnkneeaaGreatDoor
end
section
namespace Go.Proofs.YtlhalhilnkneeaaGreatDoor
open Go.RowKit Go.Great
namespace Asm
open Pen (bs)
open Rec (Stk)
open Cmd (CmdIn fi fn nm names words place kindOf nameOf isIn chkV Eqv Cok Clear Lok Snum cmdB takeV zeroC numB stkB)
theorem allO_mem {α : Type} : ∀ (l : List (Option α)) (m : List α), allO l = some m → ∀ y ∈ m, some y ∈ l
  | [], m, h, y, hy => by
    rw [allO] at h
    cases h
    cases hy
  | none :: l, m, h, _, _ => by rw [allO] at h; cases h
  | some x :: l, m, h, y, hy => by
    rw [allO] at h
    cases hr : allO l with
    | none => rw [hr] at h; cases h
    | some q =>
      rw [hr] at h
      cases h
      rcases List.mem_cons.1 hy with e | hy
      · rw [e]; exact List.mem_cons_self ..
      · exact List.mem_cons_of_mem _ (allO_mem l q hr y hy)
theorem allO_length {α : Type} : ∀ (l : List (Option α)) (m : List α), allO l = some m → m.length = l.length
  | [], m, h => by
    rw [allO] at h
    cases h
    rfl
  | none :: l, m, h => by rw [allO] at h; cases h
  | some x :: l, m, h => by
    rw [allO] at h
    cases hr : allO l with
    | none => rw [hr] at h; cases h
    | some q =>
      rw [hr] at h
      cases h
      have := allO_length l q hr
      rw [List.length_cons, List.length_cons, this]
theorem stks_ok {t : List UInt8} {l : List Stk} (h : stksL t = some l) : Snum l ∧ l.length ≤ 8 := by
  unfold stksL at h
  split at h
  · cases h
  · rename_i h8
    have h1 := allO_length _ _ h
    rw [List.length_map] at h1
    refine ⟨fun i hi => ?_, by omega⟩
    have hm := allO_mem _ _ h (l.getD i (0, 0)) (by rw [List.getD_eq_getElem?_getD, List.getElem?_eq_getElem hi]; exact List.getElem_mem _)
    obtain ⟨x, -, hx⟩ := List.mem_map.1 hm
    generalize l.getD i (0, 0) = y at *
    unfold stkL at hx
    split at hx
    · cases hx
    · split at hx
      · rename_i n m e1 e2
        cases hx
        exact ⟨(numL_some e1).2, (numL_some e2).2⟩
      · cases hx
theorem field_ok {c d : CmdIn} {a b : List UInt8} (h : fieldV c a b = some d) (hc : Cok c) (hz : Clear c) : Cok d ∧ Clear d := by
  unfold fieldV at h
  split at h
  · cases hs : stksL b with
    | none => rw [hs] at h; cases h
    | some l =>
      rw [hs] at h
      cases h
      obtain ⟨h1, h2⟩ := stks_ok hs
      exact ⟨⟨hc.kind, hc.num, h1, hc.wants, by show l.length ≤ 100; omega, hc.few.2⟩, hz⟩
  · split at h
    · cases hs : stksL b with
      | none => rw [hs] at h; cases h
      | some l =>
        rw [hs] at h
        cases h
        obtain ⟨h1, h2⟩ := stks_ok hs
        exact ⟨⟨hc.kind, hc.num, hc.gives, h1, hc.few.1, by show l.length ≤ 100; omega⟩, hz⟩
    · cases hs : numL b with
      | none => rw [hs] at h; cases h
      | some z =>
        rw [hs] at h
        dsimp only at h
        split at h
        · cases hp : place (bs a) with
          | none => rw [hp] at h; cases h
          | some i =>
            rw [hp] at h
            cases h
            obtain ⟨hi, -⟩ := Cmd.place_lt 19 i hp
            refine ⟨⟨hc.kind, fun j hj => ?_, hc.gives, hc.wants, hc.few⟩, fun j hj => ?_⟩
            · show Pen.I64 (if j = i then z else c.num j)
              split
              · exact (numL_some hs).2
              · exact hc.num j hj
            · show (if j = i then z else c.num j) = 0
              rw [if_neg (by omega)]
              exact hz j hj
        · cases h
theorem fields_ok : ∀ (r : List (List UInt8)) (c : CmdIn) (seen : List (List UInt8)) (d : CmdIn), fieldsV c seen r = some d → Cok c → Clear c → Cok d ∧ Clear d
  | [], c, seen, d, h, hc, hz => by
    rw [fieldsV] at h
    cases h
    exact ⟨hc, hz⟩
  | w :: r, c, seen, d, h, hc, hz => by
    rw [fieldsV] at h
    split at h
    · cases h
    · split at h
      · cases h
      · split at h
        · cases h
        · rename_i c' e
          obtain ⟨h1, h2⟩ := field_ok e hc hz
          exact fields_ok r c' _ d h h1 h2
theorem kindTo_le (s : ByteArray) : ∀ n : Nat, 0 ≤ Cmd.kindTo s n ∧ Cmd.kindTo s n ≤ n
  | 0 => ⟨Int.le_refl _, Int.le_refl _⟩
  | n + 1 => by
    have h := kindTo_le s n
    unfold Cmd.kindTo
    split <;> constructor <;> omega
theorem kindOf_le (s : ByteArray) : 0 ≤ kindOf s ∧ kindOf s ≤ 25 := kindTo_le s 25
theorem bare_ok {k : Int} (h : 0 ≤ k ∧ k ≤ 25) : Cok (bareK k) ∧ Clear (bareK k) := by
  refine ⟨⟨⟨?_, ?_⟩, fun i hi => ⟨?_, ?_⟩, fun i hi => absurd hi (Nat.not_lt_zero i), fun i hi => absurd hi (Nat.not_lt_zero i), Nat.zero_le _, Nat.zero_le _⟩, fun i hi => rfl⟩
  · show _ ≤ k; omega
  · show k ≤ _; omega
  · show _ ≤ (0 : Int); omega
  · show (0 : Int) ≤ _; omega
theorem parse_ok {l : List UInt8} {c : CmdIn} (h : parseO l = some c) : Cok c ∧ Clear c := by
  unfold parseO at h
  split at h
  · cases h
  · split at h
    · cases h
    · split at h
      · cases h
      · obtain ⟨h1, h2⟩ := bare_ok (kindOf_le (bs _))
        exact fields_ok _ _ _ _ h h1 h2
theorem script_ok : ∀ (r : List (List UInt8)) (k : Nat) (out : List CmdIn), (∀ c ∈ out, Cok c ∧ Clear c) → out.length ≤ 4096 → (∀ c ∈ (scriptTo k out r).1, Cok c ∧ Clear c) ∧ (scriptTo k out r).1.length ≤ 4096
  | [], k, out, h, hn => ⟨h, hn⟩
  | l :: r, k, out, h, hn => by
    rw [scriptTo]
    split
    · exact script_ok r (k + 1) out h hn
    · split
      · exact ⟨fun c hc => (by cases hc), Nat.zero_le _⟩
      · rename_i c e
        split
        · exact ⟨fun c hc => (by cases hc), Nat.zero_le _⟩
        · refine script_ok r (k + 1) (out ++ [c]) (fun d hd => ?_) (by rw [List.length_append]; simp only [List.length_cons, List.length_nil]; omega)
          rcases List.mem_append.1 hd with hd | hd
          · exact h d hd
          · rw [List.mem_singleton.1 hd]; exact parse_ok e
theorem scriptV_ok (t : List UInt8) : (∀ c ∈ (scriptV t).1, Cok c ∧ Clear c) ∧ (scriptV t).1.length ≤ 4096 := by
  unfold scriptV
  split
  · exact ⟨fun c hc => (by cases hc), Nat.zero_le _⟩
  · exact script_ok _ 0 [] (fun c hc => by cases hc) (Nat.zero_le _)
theorem takeO_ok {x : List UInt8} {c : CmdIn} (h : takeO x = some c) : Good c := by
  unfold takeO at h
  split at h
  · rename_i h0
    cases h
    obtain ⟨h1, h2, h3, -⟩ := Cmd.put_take x h0
    exact ⟨h1, h2, h3⟩
  · cases h
theorem unpackV_ok (s : List UInt8) : (∀ c ∈ (unpackV s).1, Good c) ∧ (unpackV s).1.length ≤ 4096 := by
  unfold unpackV
  split
  · exact ⟨fun c hc => (by cases hc), Nat.zero_le _⟩
  · split
    · exact ⟨fun c hc => (by cases hc), Nat.zero_le _⟩
    · rename_i l e
      split
      · exact ⟨fun c hc => (by cases hc), Nat.zero_le _⟩
      · refine ⟨fun c hc => ?_, by show l.length ≤ 4096; omega⟩
        obtain ⟨x, -, hx⟩ := List.mem_map.1 (allO_mem _ _ e c hc)
        exact takeO_ok hx
end Asm
end Go.Proofs.YtlhalhilnkneeaaGreatDoor
end
section
set_option maxRecDepth 100000
namespace Go.Proofs.YtlhalhilnkneeaaGreatDoor
open Go.RowKit Go.Great Go.Sort
namespace Asm
open Pen (bs)
open In (strVals Strs)
open Frm (rows)
open Rec (below2 below_al below_dN Stk Stks stkVals)
open Cmd (Gives Snum CmdIn fi fn nm place chkV Cok Lies Stand Eqv zeroC kindOf load_cmd store_cmd ret_cmd setRow_cmd GivesC setV stand_new val_get size_val)
theorem cinfo : (Tryz.prog.info? 41).map (fun i => (i.zero, i.size, i.bytes)) = some (some (.agg zeroC.val), 22, 208) := by kernel_rfl
/-- A slice of one command. -/
theorem build_cmd {ops : Array Oper} {rest : List Oper} {o : Oper} {a : Act} {w : World} {Q : Exit → Act → World → Prop} (hg : o.guard = none) (x : Operand) (ho : o.op = .buildSlice 23 1 #[(0, x)]) (c : CmdIn) (hx : a.eval x = .agg c.val) (g : Nat) (hgs : w.heap.size = g)
    (h : wpList Tryz.prog ops Q rest (a.put o.dst (.slice (some ⟨g, 0, none⟩) 1 1)) (w.alloc (.cells c.val 41))) : wpList Tryz.prog ops Q (o :: rest) a w := by
  obtain ⟨i0, hi, hz0, hz1, hz2⟩ := info_parts cinfo
  subst hgs
  refine wpList_buildSlice hg 23 41 1 _ ho c.val i0 _ Tryz.underlying23 hi hz0 (by rw [hz1]; decide) (by rw [hz1]; decide) ?_ h
  rw [hz1]
  have e : (#[(0, x)].map fun (y : Nat × Operand) => (y.1, a.eval y.2)).toList = [(0, Value.agg c.val)] := by simp [hx]
  show Instr.fill _ _ (#[(0, x)].map fun (y : Nat × Operand) => (y.1, a.eval y.2)).toList = _
  rw [e]
  kernel_rfl
/-- A command is put behind a row of one's own. -/
theorem list_cmd1 {ops : Array Oper} {rest : List Oper} {o : Oper} {a : Act} {w : World} {Q : Exit → Act → World → Prop} (hgd : o.guard = none) (s x : Operand)
    (ho : o.op = .call { callee := .builtin .append, args := #[s, x], argTypes := #[23, 23] })
    (B : Nat) (v : Value) (l : List CmdIn) (hs : a.eval s = v) (g0 c0 : Nat) (c : CmdIn) (hx : a.eval x = .slice (some ⟨g0, 0, none⟩) 1 c0) (h : OC B w v l) (hr : Stand w g0 c) (hl : Lies w c) (hf : ∀ x, At c x → some x.block ≠ v.ownBlock) (hn : l.length ≤ 10000000) (hbase : B ≤ w.heap.size)
    (hK : ∀ g cap w', OC B w' (.slice (some ⟨g, 0, none⟩) (l.length + 1) cap) (l ++ [c]) → w.grownBy w' v.ownBlock → wpList Tryz.prog ops Q rest (a.put o.dst (.slice (some ⟨g, 0, none⟩) (l.length + 1) cap)) w') : wpList Tryz.prog ops Q (o :: rest) a w := by
  obtain ⟨i0, hi, hz0, hz1, hz2⟩ := info_parts cinfo
  exact list_cmd hgd s x ho i0 hi _ hz0 hz1 208 hz2 (by decide) rfl B v l hs g0 c0 c hx h hr hl hf hn hbase hK
/-- What lies while commands are put into a row. -/
structure LS (B : Nat) (w W : World) (v : Value) (l : List CmdIn) : Prop where
  oc : OC B W v l
  bel : Below B w W
  le : B ≤ w.heap.size
theorem LS.size {B : Nat} {w W : World} {v : Value} {l : List CmdIn} (h : LS B w W v l) : B ≤ W.heap.size := Nat.le_trans h.le h.bel.size
theorem LS.nil (w : World) : LS w.heap.size w w (.slice none 0 0) [] := ⟨OC.nil _ _, Below.refl _ _, Nat.le_refl _⟩
theorem LS.below {B : Nat} {w W V : World} {v : Value} {l : List CmdIn} (h : LS B w W v l) (hb : Below W.heap.size W V) : LS B w V v l :=
  ⟨h.oc.below hb, ⟨hb.os.trans h.bel.os, hb.tape.trans h.bel.tape, hb.output.trans h.bel.output, Nat.le_trans h.bel.size hb.size, fun k hk => (hb.block k (Nat.lt_of_lt_of_le hk h.size)).trans (h.bel.block k hk)⟩, h.le⟩
theorem LS.own {B : Nat} {w W : World} {v : Value} {l : List CmdIn} (h : LS B w W v l) : ∀ k, v.ownBlock = some k → B ≤ k := fun k hk => (h.oc.own.lt k hk).1
theorem LS.put {B : Nat} {w W V U : World} {v v2 : Value} {l l2 : List CmdIn} (h : LS B w W v l) (hb : Below W.heap.size W V) (ho : OC B U v2 l2) (hg : V.grownBy U v.ownBlock) : LS B w U v2 l2 := by
  refine ⟨ho, ?_, h.le⟩
  have h2 := h.below hb
  exact h2.bel.grown hg h2.size h2.own
/-- A fresh command's stacks lie elsewhere. -/
theorem LS.far {B : Nat} {w W : World} {v : Value} {l : List CmdIn} (h : LS B w W v l) {c : CmdIn} (hc : ∀ x, At c x → W.heap.size ≤ x.block) : ∀ x, At c x → some x.block ≠ v.ownBlock := fun x hx e => by
  have h1 := (h.oc.own.lt x.block e.symm).2
  have h2 := hc x hx
  omega
/-- What lies when a fresh command is to be put. -/
theorem LS.step {B : Nat} {w W V : World} {v : Value} {l : List CmdIn} {c : CmdIn} (h : LS B w W v l) (hb : Below W.heap.size W V) (hl : Lies V c) (hf : ∀ x, At c x → W.heap.size ≤ x.block) : OC B (V.alloc (.cells c.val 41)) v l ∧ Stand (V.alloc (.cells c.val 41)) V.heap.size c ∧ Lies (V.alloc (.cells c.val 41)) c ∧ (∀ x, At c x → some x.block ≠ v.ownBlock) ∧ B ≤ (V.alloc (.cells c.val 41)).heap.size := by
  have h2 := h.below hb
  have ha : Below V.heap.size V (V.alloc (.cells c.val 41)) := below_al (Below.refl _ _) _
  exact ⟨h2.oc.below ha, stand_new rfl c, hl.below ha, h.far hf, (h2.below ha).size⟩
theorem LS.next {B : Nat} {w W V U : World} {v v2 : Value} {l l2 : List CmdIn} {c : CmdIn} (h : LS B w W v l) (hb : Below W.heap.size W V) (ho : OC B U v2 l2) (hg : (V.alloc (.cells c.val 41)).grownBy U v.ownBlock) : LS B w U v2 l2 :=
  h.put (below_al hb _) ho hg
theorem GivesP.none_ {w : World} {e : Ending} {w' : World} (h : GivesP none w e w') : ∃ c', e = .returned (.tuple #[.agg (CmdIn.val c'), .int .i64 2]) ∧ Hid (Below w.heap.size w w') := by
  obtain ⟨c', h1, -, -, h2, -⟩ := h
  exact ⟨c', h1, h2⟩
theorem GivesP.some_ {d : CmdIn} {w : World} {e : Ending} {w' : World} (h : GivesP (some d) w e w') : ∃ c', e = .returned (.tuple #[.agg (CmdIn.val c'), .int .i64 0]) ∧ Hid (Eqv c' d) ∧ Hid (Lies w' c') ∧ Hid (Below w.heap.size w w') ∧ Hid (∀ x, At c' x → w.heap.size ≤ x.block) := h
/-- Commands that were read are given back. -/
def GivesS (r : List CmdIn × Int × Int) (w : World) (e : Ending) (w' : World) : Prop := ∃ v l, e = .returned (.tuple #[v, .int .i64 r.2.1, .int .i64 r.2.2]) ∧ Hid (OC w.heap.size w' v l) ∧ Hid (EqvL l r.1) ∧ Hid (Below w.heap.size w w')
def GivesU (r : List CmdIn × Int) (w : World) (e : Ending) (w' : World) : Prop := ∃ v l, e = .returned (.tuple #[v, .int .i64 r.2]) ∧ Hid (OC w.heap.size w' v l) ∧ Hid (EqvL l r.1) ∧ Hid (Below w.heap.size w w')
theorem OC.base {B B' : Nat} {W : World} {v : Value} {l : List CmdIn} (h : OC B W v l) (hb : B' ≤ B) : OC B' W v l := ⟨own_base h.own hb, h.lies, h.far⟩
end Asm
end Go.Proofs.YtlhalhilnkneeaaGreatDoor
end
