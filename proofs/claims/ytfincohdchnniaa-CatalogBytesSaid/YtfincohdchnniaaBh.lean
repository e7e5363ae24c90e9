/- Texts put together: CatU, CatU2. -/
import Derived.Test.YtfincohdchnniaaBg
import Derived.Test.YtfincohdchnniaaBc
import Derived.Deep.QuietTactic
import Derived.BigQuiet
set_option linter.all false
namespace Go.Proofs.Ytfincohdchnniaa
open Go.RowKit
namespace Cat
open Rec (BlueIn Stk Stks Came bchk inB)
open Pen (below2 below_al below_dN)
/-- Blueprints that say the same. -/
def sameB (a b : BlueIn) : Bool := (a.makes == b.makes) && ((a.per == b.per) && ((a.time == b.time) && (decide (a.needs = b.needs) && ((a.copy == b.copy) && ((a.study == b.study) && (a.most == b.most))))))
theorem two_boxes {w w1 : World} {xs ys : Array Value} {t t2 : TypeId} (h : Below ((w.alloc (.cells xs t)).alloc (.cells ys t2)).heap.size ((w.alloc (.cells xs t)).alloc (.cells ys t2)) w1) (i : Nat) : w1.cell? ⟨w.heap.size, i, none⟩ = xs[i]? ∧ w1.cell? ⟨w.heap.size + 1, i, none⟩ = ys[i]? := by
  constructor
  · refine (h.cell (by simp; try omega)).trans ?_
    go_simp
  · refine (h.cell (by simp; try omega)).trans ?_
    go_simp
set_option maxRecDepth 100000 in
set_option maxHeartbeats 4000000 in
theorem SameBlue_any (a b : BlueIn) (w : World) (ha : Stks w a.addr a.needs) (hb : Stks w b.addr b.needs) (hla : a.needs.length ≤ 4096) (hlb : b.needs.length ≤ 4096) :
    Calls Try.prog 23 #[.agg a.val, .agg b.val] w fun e w' => e = .returned (.bool (sameB a b)) ∧ Below w.heap.size w w' := by
  have HS : Hid (sameB a b = ((a.makes == b.makes) && ((a.per == b.per) && ((a.time == b.time) && (decide (a.needs = b.needs) && ((a.copy == b.copy) && ((a.study == b.study) && (a.most == b.most)))))))) := rfl
  have CS : Hid (∀ W, Below w.heap.size w W → Calls Try.prog 48 #[.slice a.addr a.needs.length a.cap, .slice b.addr b.needs.length b.cap] W fun e w' => e = .returned (.bool (decide (a.needs = b.needs))) ∧ Below W.heap.size W w') := fun W h => Rec.same_any _ _ _ _ _ _ hla hlb W (ha.below h) (hb.below h)
  have hbw := below_al (below_al (Below.refl w.heap.size w) (.cells a.val 41)) (.cells b.val 41)
  clear ha hb hla hlb
  generalize decide (a.needs = b.needs) = D at *
  generalize sameB a b = R at *
  unfold BlueIn.val at *
  obtain ⟨xmakes, hxmakes⟩ : ∃ x, a.makes = x := ⟨_, rfl⟩
  obtain ⟨ymakes, hymakes⟩ : ∃ x, b.makes = x := ⟨_, rfl⟩
  obtain ⟨xper, hxper⟩ : ∃ x, a.per = x := ⟨_, rfl⟩
  obtain ⟨yper, hyper⟩ : ∃ x, b.per = x := ⟨_, rfl⟩
  obtain ⟨xtime, hxtime⟩ : ∃ x, a.time = x := ⟨_, rfl⟩
  obtain ⟨ytime, hytime⟩ : ∃ x, b.time = x := ⟨_, rfl⟩
  obtain ⟨xcopy, hxcopy⟩ : ∃ x, a.copy = x := ⟨_, rfl⟩
  obtain ⟨ycopy, hycopy⟩ : ∃ x, b.copy = x := ⟨_, rfl⟩
  obtain ⟨xstudy, hxstudy⟩ : ∃ x, a.study = x := ⟨_, rfl⟩
  obtain ⟨ystudy, hystudy⟩ : ∃ x, b.study = x := ⟨_, rfl⟩
  obtain ⟨xmost, hxmost⟩ : ∃ x, a.most = x := ⟨_, rfl⟩
  obtain ⟨ymost, hymost⟩ : ∃ x, b.most = x := ⟨_, rfl⟩
  rw [hxmakes, hymakes, hxper, hyper, hxtime, hytime, hxcopy, hycopy, hxstudy, hystudy, hxmost, hymost] at HS
  rw [hxmakes, hymakes, hxper, hyper, hxtime, hytime, hxcopy, hycopy, hxstudy, hystudy, hxmost, hymost] at hbw ⊢
  clear hxmakes hymakes hxper hyper hxtime hytime hxcopy hycopy hxstudy hystudy hxmost hymost
  by_cases emakes : xmakes = ymakes
  · have dmakes : (xmakes == ymakes) = true := beq_iff_eq.2 emakes
    rw [dmakes] at HS
    clear emakes
    by_cases eper : xper = yper
    · have dper : (xper == yper) = true := beq_iff_eq.2 eper
      rw [dper] at HS
      clear eper
      by_cases etime : xtime = ytime
      · have dtime : (xtime == ytime) = true := beq_iff_eq.2 etime
        rw [dtime] at HS
        clear etime
        cases D
        · skip
          have HR : Hid (R = false) := by show R = _; rw [HS.out]; rfl
          rw [HR.out]
          go_enter Try.func23, Try.ntmps23
          go_wp2_with (go_at_call 48; ((with_reducible refine (CS.out _ hbw).mono ?_); rintro e w1 ⟨rfl, hb1⟩; have hb1' := below2 hbw hb1; obtain ⟨p4, q4⟩ := two_boxes hb1 4; obtain ⟨p5, q5⟩ := two_boxes hb1 5; obtain ⟨p6, q6⟩ := two_boxes hb1 6; simp only [List.getElem?_toArray, List.getElem?_cons_zero, List.getElem?_cons_succ] at p4 q4 p5 q5 p6 q6))
          go_ret
          exact ⟨rfl, hb1'⟩
        · skip
          by_cases ecopy : xcopy = ycopy
          · have dcopy : (xcopy == ycopy) = true := beq_iff_eq.2 ecopy
            rw [dcopy] at HS
            clear ecopy
            by_cases estudy : xstudy = ystudy
            · have dstudy : (xstudy == ystudy) = true := beq_iff_eq.2 estudy
              rw [dstudy] at HS
              clear estudy
              by_cases emost : xmost = ymost
              · have dmost : (xmost == ymost) = true := beq_iff_eq.2 emost
                rw [dmost] at HS
                clear emost
                have HR : Hid (R = true) := by show R = _; rw [HS.out]; rfl
                rw [HR.out]
                go_enter Try.func23, Try.ntmps23
                go_wp2_with (go_at_call 48; ((with_reducible refine (CS.out _ hbw).mono ?_); rintro e w1 ⟨rfl, hb1⟩; have hb1' := below2 hbw hb1; obtain ⟨p4, q4⟩ := two_boxes hb1 4; obtain ⟨p5, q5⟩ := two_boxes hb1 5; obtain ⟨p6, q6⟩ := two_boxes hb1 6; simp only [List.getElem?_toArray, List.getElem?_cons_zero, List.getElem?_cons_succ] at p4 q4 p5 q5 p6 q6))
                go_ret
                exact ⟨rfl, hb1'⟩
              · have dmost : (xmost == ymost) = false := beq_eq_false_iff_ne.2 emost
                rw [dmost] at HS
                clear emost
                have HR : Hid (R = false) := by show R = _; rw [HS.out]; rfl
                rw [HR.out]
                go_enter Try.func23, Try.ntmps23
                go_wp2_with (go_at_call 48; ((with_reducible refine (CS.out _ hbw).mono ?_); rintro e w1 ⟨rfl, hb1⟩; have hb1' := below2 hbw hb1; obtain ⟨p4, q4⟩ := two_boxes hb1 4; obtain ⟨p5, q5⟩ := two_boxes hb1 5; obtain ⟨p6, q6⟩ := two_boxes hb1 6; simp only [List.getElem?_toArray, List.getElem?_cons_zero, List.getElem?_cons_succ] at p4 q4 p5 q5 p6 q6))
                go_ret
                exact ⟨rfl, hb1'⟩
            · have dstudy : (xstudy == ystudy) = false := beq_eq_false_iff_ne.2 estudy
              rw [dstudy] at HS
              clear estudy
              have HR : Hid (R = false) := by show R = _; rw [HS.out]; rfl
              rw [HR.out]
              go_enter Try.func23, Try.ntmps23
              go_wp2_with (go_at_call 48; ((with_reducible refine (CS.out _ hbw).mono ?_); rintro e w1 ⟨rfl, hb1⟩; have hb1' := below2 hbw hb1; obtain ⟨p4, q4⟩ := two_boxes hb1 4; obtain ⟨p5, q5⟩ := two_boxes hb1 5; obtain ⟨p6, q6⟩ := two_boxes hb1 6; simp only [List.getElem?_toArray, List.getElem?_cons_zero, List.getElem?_cons_succ] at p4 q4 p5 q5 p6 q6))
              go_ret
              exact ⟨rfl, hb1'⟩
          · have dcopy : (xcopy == ycopy) = false := beq_eq_false_iff_ne.2 ecopy
            rw [dcopy] at HS
            clear ecopy
            have HR : Hid (R = false) := by show R = _; rw [HS.out]; rfl
            rw [HR.out]
            go_enter Try.func23, Try.ntmps23
            go_wp2_with (go_at_call 48; ((with_reducible refine (CS.out _ hbw).mono ?_); rintro e w1 ⟨rfl, hb1⟩; have hb1' := below2 hbw hb1; obtain ⟨p4, q4⟩ := two_boxes hb1 4; obtain ⟨p5, q5⟩ := two_boxes hb1 5; obtain ⟨p6, q6⟩ := two_boxes hb1 6; simp only [List.getElem?_toArray, List.getElem?_cons_zero, List.getElem?_cons_succ] at p4 q4 p5 q5 p6 q6))
            go_ret
            exact ⟨rfl, hb1'⟩
      · have dtime : (xtime == ytime) = false := beq_eq_false_iff_ne.2 etime
        rw [dtime] at HS
        clear etime
        have HR : Hid (R = false) := by show R = _; rw [HS.out]; rfl
        rw [HR.out]
        go_enter Try.func23, Try.ntmps23
        go_wp2_with (go_at_call 48; ((with_reducible refine (CS.out _ hbw).mono ?_); rintro e w1 ⟨rfl, hb1⟩; have hb1' := below2 hbw hb1; obtain ⟨p4, q4⟩ := two_boxes hb1 4; obtain ⟨p5, q5⟩ := two_boxes hb1 5; obtain ⟨p6, q6⟩ := two_boxes hb1 6; simp only [List.getElem?_toArray, List.getElem?_cons_zero, List.getElem?_cons_succ] at p4 q4 p5 q5 p6 q6))
        go_ret
        exact ⟨rfl, hbw⟩
    · have dper : (xper == yper) = false := beq_eq_false_iff_ne.2 eper
      rw [dper] at HS
      clear eper
      have HR : Hid (R = false) := by show R = _; rw [HS.out]; rfl
      rw [HR.out]
      go_enter Try.func23, Try.ntmps23
      go_wp2_with (go_at_call 48; ((with_reducible refine (CS.out _ hbw).mono ?_); rintro e w1 ⟨rfl, hb1⟩; have hb1' := below2 hbw hb1; obtain ⟨p4, q4⟩ := two_boxes hb1 4; obtain ⟨p5, q5⟩ := two_boxes hb1 5; obtain ⟨p6, q6⟩ := two_boxes hb1 6; simp only [List.getElem?_toArray, List.getElem?_cons_zero, List.getElem?_cons_succ] at p4 q4 p5 q5 p6 q6))
      go_ret
      exact ⟨rfl, hbw⟩
  · have dmakes : (xmakes == ymakes) = false := beq_eq_false_iff_ne.2 emakes
    rw [dmakes] at HS
    clear emakes
    have HR : Hid (R = false) := by show R = _; rw [HS.out]; rfl
    rw [HR.out]
    go_enter Try.func23, Try.ntmps23
    go_wp2_with (go_at_call 48; ((with_reducible refine (CS.out _ hbw).mono ?_); rintro e w1 ⟨rfl, hb1⟩; have hb1' := below2 hbw hb1; obtain ⟨p4, q4⟩ := two_boxes hb1 4; obtain ⟨p5, q5⟩ := two_boxes hb1 5; obtain ⟨p6, q6⟩ := two_boxes hb1 6; simp only [List.getElem?_toArray, List.getElem?_cons_zero, List.getElem?_cons_succ] at p4 q4 p5 q5 p6 q6))
    go_ret
    exact ⟨rfl, hbw⟩
end Cat
end Go.Proofs.Ytfincohdchnniaa
namespace Go.Proofs.Ytfincohdchnniaa
open Go.RowKit
namespace Cat
open Rec (BlueIn Stk Stks Came bchk inB)
open Pen (below2 below_al below_dN)
def eqY (a b : BayIn) : Bool := (a.place == b.place) && ((a.make == b.make) && ((a.lab == b.lab) && (a.rate == b.rate)))
/-- Catalogues that say the same. -/
def sameC (c d : CatIn) : Bool := (c.types == d.types) && ((c.places == d.places) && ((c.chars == d.chars) && ((c.broker == d.broker) && ((c.least == d.least) && ((c.sales == d.sales) && (decide (c.blues.length = d.blues.length) && (decide (c.bays.length = d.bays.length) && (decide (fst (fun i => !sameB (c.blues.getD i nob) (d.blues.getD i nob)) c.blues.length = -1) && decide (fst (fun i => !eqY (c.bays.getD i noy) (d.bays.getD i noy)) c.bays.length = -1)))))))))
/-- Two catalogues' boxes. -/
def Two (w : World) (a1 : Option Addr) (n1 k1 : Nat) (b1 : Option Addr) (m1 l1 : Nat) (a2 : Option Addr) (k2 : Nat) (b2 : Option Addr) (l2 : Nat) (W : World) : Prop := Below w.heap.size w W ∧ w.heap.size + 1 < W.heap.size ∧ W.cell? ⟨w.heap.size, 1, none⟩ = some (.slice a1 n1 k1) ∧ W.cell? ⟨w.heap.size, 3, none⟩ = some (.slice b1 m1 l1) ∧ W.cell? ⟨w.heap.size + 1, 1, none⟩ = some (.slice a2 n1 k2) ∧ W.cell? ⟨w.heap.size + 1, 3, none⟩ = some (.slice b2 m1 l2)
theorem two_next {w W W' : World} {a1 b1 a2 b2 : Option Addr} {n1 k1 m1 l1 k2 l2 : Nat} (h : Two w a1 n1 k1 b1 m1 l1 a2 k2 b2 l2 W) (hb : Below W.heap.size W W') : Two w a1 n1 k1 b1 m1 l1 a2 k2 b2 l2 W' := by
  obtain ⟨h1, h2, c0, c1, c2, c3⟩ := h
  exact ⟨below2 h1 hb, Nat.lt_of_lt_of_le h2 hb.size, (hb.cell (by show w.heap.size < _; omega)).trans c0, (hb.cell (by show w.heap.size < _; omega)).trans c1, (hb.cell h2).trans c2, (hb.cell h2).trans c3⟩
theorem two_b {w W : World} {a1 b1 a2 b2 : Option Addr} {n1 k1 m1 l1 k2 l2 : Nat} (h : Two w a1 n1 k1 b1 m1 l1 a2 k2 b2 l2 W) : Below w.heap.size w W := h.1
theorem two_drew {w W : World} {a1 b1 a2 b2 : Option Addr} {n1 k1 m1 l1 k2 l2 : Nat} (h : Two w a1 n1 k1 b1 m1 l1 a2 k2 b2 l2 W) : Two w a1 n1 k1 b1 m1 l1 a2 k2 b2 l2 W.drew := ⟨⟨h.1.os, h.1.tape, h.1.output, h.1.size, h.1.block⟩, h.2.1, h.2.2⟩
theorem two_dN {w W : World} {a1 b1 a2 b2 : Option Addr} {n1 k1 m1 l1 k2 l2 : Nat} (h : Two w a1 n1 k1 b1 m1 l1 a2 k2 b2 l2 W) (n : Nat) : Hid (Two w a1 n1 k1 b1 m1 l1 a2 k2 b2 l2 (W.drewN n)) := ⟨⟨h.1.os, h.1.tape, h.1.output, h.1.size, h.1.block⟩, h.2.1, h.2.2⟩
theorem two_cells {w W : World} {a1 b1 a2 b2 : Option Addr} {n1 k1 m1 l1 k2 l2 : Nat} (h : Two w a1 n1 k1 b1 m1 l1 a2 k2 b2 l2 W) : W.cell? ⟨w.heap.size, 1, none⟩ = some (.slice a1 n1 k1) ∧ W.cell? ⟨w.heap.size, 3, none⟩ = some (.slice b1 m1 l1) ∧ W.cell? ⟨w.heap.size + 1, 1, none⟩ = some (.slice a2 n1 k2) ∧ W.cell? ⟨w.heap.size + 1, 3, none⟩ = some (.slice b2 m1 l2) := h.2.2
set_option maxRecDepth 100000 in
set_option maxHeartbeats 8000000 in
theorem Same_any (c d : CatIn) (w : World) (hc : Cam w c) (hd : Cam w d) :
    Calls Try.prog 12 #[.agg c.val, .agg d.val] w fun e w' => e = .returned (.bool (sameC c d)) ∧ Below w.heap.size w w' := by
  have HS : Hid (sameC c d = ((c.types == d.types) && ((c.places == d.places) && ((c.chars == d.chars) && ((c.broker == d.broker) && ((c.least == d.least) && ((c.sales == d.sales) && (decide (c.blues.length = d.blues.length) && (decide (c.bays.length = d.bays.length) && (decide (fst (fun i => !sameB (c.blues.getD i nob) (d.blues.getD i nob)) c.blues.length = -1) && decide (fst (fun i => !eqY (c.bays.getD i noy) (d.bays.getD i noy)) c.bays.length = -1)))))))))) ) := rfl
  have HC := Lib.hid hc
  have HD := Lib.hid hd
  have hbw := below_al (below_al (Below.refl w.heap.size w) (.cells c.val 27)) (.cells d.val 27)
  obtain ⟨PB, hPB⟩ : ∃ P : Nat → Bool, Hid ((fun i => !sameB (c.blues.getD i nob) (d.blues.getD i nob)) = P) := ⟨_, rfl⟩
  obtain ⟨PY, hPY⟩ : ∃ P : Nat → Bool, Hid ((fun i => !eqY (c.bays.getD i noy) (d.bays.getD i noy)) = P) := ⟨_, rfl⟩
  rw [hPB.out, hPY.out] at HS
  obtain ⟨R, hR⟩ : ∃ R, sameC c d = R := ⟨_, rfl⟩
  rw [hR] at HS ⊢
  unfold CatIn.val at *
  have HA1 : Hid (Blues w c.baddr c.blues) := hc.lies.1
  have HA2 : Hid (Blues w d.baddr d.blues) := hd.lies.1
  have HY1 : Hid (Bays w c.yaddr c.bays) := hc.lies.2.1
  have HY2 : Hid (Bays w d.yaddr d.bays) := hd.lies.2.1
  generalize c.baddr = ba1 at *
  generalize d.baddr = ba2 at *
  generalize c.yaddr = ya1 at *
  generalize d.yaddr = ya2 at *
  clear hR hc hd
  generalize c.types = xtypes at *
  generalize d.types = ytypes at *
  generalize c.places = xplaces at *
  generalize d.places = yplaces at *
  generalize c.chars = xchars at *
  generalize d.chars = ychars at *
  generalize c.broker = xbroker at *
  generalize d.broker = ybroker at *
  generalize c.least = xleast at *
  generalize d.least = yleast at *
  generalize c.sales = xsales at *
  generalize d.sales = ysales at *
  obtain ⟨nb, hnb⟩ : ∃ n, Hid (c.blues.length = n) := ⟨_, rfl⟩
  obtain ⟨mb, hmb⟩ : ∃ n, Hid (d.blues.length = n) := ⟨_, rfl⟩
  obtain ⟨ny, hny⟩ : ∃ n, Hid (c.bays.length = n) := ⟨_, rfl⟩
  obtain ⟨my, hmy⟩ : ∃ n, Hid (d.bays.length = n) := ⟨_, rfl⟩
  rw [hnb.out, hmb.out, hny.out, hmy.out] at HS hbw
  rw [hnb.out, hmb.out, hny.out, hmy.out]
  by_cases etypes : xtypes = ytypes
  · subst etypes
    by_cases eplaces : xplaces = yplaces
    · subst eplaces
      by_cases echars : xchars = ychars
      · subst echars
        by_cases ebroker : xbroker = ybroker
        · subst ebroker
          by_cases eleast : xleast = yleast
          · subst eleast
            by_cases esales : xsales = ysales
            · subst esales
              by_cases enb : nb = mb
              · subst enb
                by_cases eny : ny = my
                · subst eny
                  have HT0 : Hid (Two w ba1 nb c.bcap ya1 ny c.ycap ba2 d.bcap ya2 d.ycap ((w.alloc (.cells #[.int .i64 xtypes, .slice ba1 nb c.bcap, .int .i64 xplaces, .slice ya1 ny c.ycap, .int .i64 xchars, .int .i64 xbroker, .int .i64 xleast, .int .i64 xsales] 27)).alloc (.cells #[.int .i64 xtypes, .slice ba2 nb d.bcap, .int .i64 xplaces, .slice ya2 ny d.ycap, .int .i64 xchars, .int .i64 xbroker, .int .i64 xleast, .int .i64 xsales] 27))) := ⟨hbw, by simp, by go_simp, by go_simp, by go_simp, by go_simp⟩
                  have HR : Hid (R = (decide (fst PB nb = -1) && decide (fst PY ny = -1))) := by show R = _; rw [HS.out]; simp
                  have CB : Hid (∀ (k : Nat) (W : World), k < nb → Below w.heap.size w W → Calls Try.prog 23 #[.agg (c.blues.getD k nob).val, .agg (d.blues.getD k nob).val] W fun e w' => e = .returned (.bool (sameB (c.blues.getD k nob) (d.blues.getD k nob))) ∧ Below W.heap.size W w') := fun k W hk h => by
                    have k1 : k < c.blues.length := by rw [hnb.out]; exact hk
                    have k2 : k < d.blues.length := by rw [hmb.out]; exact hk
                    exact SameBlue_any _ _ W ((HC.out.lies.2.2 k k1).below h) ((HD.out.lies.2.2 k k2).below h) (Nat.le_trans (HC.out.small.2.2 k k1) (by omega)) (Nat.le_trans (HD.out.small.2.2 k k2) (by omega))
                  have hn20 : (nb : Int) ≤ 20 := by have := HC.out.small.1; have := hnb.out; omega
                  have hy20 : (ny : Int) ≤ 20 := by have := HC.out.small.2.1; have := hny.out; omega
                  clear HS
                  go_enter Try.func12, Try.ntmps12
                  go_wp2
                  go_loopw [5] (fun v5 wr => ∃ k : Nat, k ≤ nb ∧ v5 = .int .i64 (k : Int) ∧ Hid (fst PB k = -1) ∧ Hid (Two w ba1 nb c.bcap ya1 ny c.ycap ba2 d.bcap ya2 d.ycap wr)) (fun v5 _ => nb - (intOf v5).toNat)
                  case atStart => exact ⟨0, by omega, rfl, rfl, HT0⟩
                  case round =>
                    obtain ⟨k, hk, rfl, HF, HT⟩ := hrel
                    obtain ⟨t1, t2, t3, t4⟩ := two_cells HT.out
                    by_cases hlt : k < nb
                    · obtain ⟨b, off, rfl, hb, c0, c1, c2, c3, c4, c5, c6⟩ := HA1.out k (by rw [hnb.out]; exact hlt)
                      obtain ⟨b', off', rfl, hb', d0, d1, d2, d3, d4, d5, d6⟩ := HA2.out k (by rw [hmb.out]; exact hlt)
                      have hlt1 : (k : Int) < (nb : Int) := by omega
                      have hk0 : (0 : Int) ≤ (k : Int) := by omega
                      have CC := Lib.hid (fun W h => CB.out k W hlt h)
                      have HPk : Hid (PB k = !sameB (c.blues.getD k nob) (d.blues.getD k nob)) := by show _ = _; rw [← hPB.out]
                      have HFS := Lib.hid (fun hp => fst_stay PB k HF.out hp nb hlt)
                      have HFG := Lib.hid (fst_go PB k HF.out)
                      generalize c.blues.getD k nob = E1 at *
                      generalize d.blues.getD k nob = E2 at *
                      have BF : Hid (∀ W', Hid (Two w (some ⟨b, off, none⟩) nb c.bcap ya1 ny c.ycap (some ⟨b', off', none⟩) d.bcap ya2 d.ycap W') → W'.cell? ⟨w.heap.size, 1, none⟩ = some (.slice (some ⟨b, off, none⟩) nb c.bcap) ∧ W'.cell? ⟨w.heap.size + 1, 1, none⟩ = some (.slice (some ⟨b', off', none⟩) nb d.bcap) ∧ W'.cell? ⟨b, off + k * 7, none⟩ = some (.int .i64 E1.makes) ∧ W'.cell? ⟨b, off + k * 7 + 1, none⟩ = some (.int .i64 E1.per) ∧ W'.cell? ⟨b, off + k * 7 + 2, none⟩ = some (.int .i64 E1.time) ∧ W'.cell? ⟨b, off + k * 7 + 3, none⟩ = some (.slice E1.addr E1.needs.length E1.cap) ∧ W'.cell? ⟨b, off + k * 7 + 4, none⟩ = some (.int .i64 E1.copy) ∧ W'.cell? ⟨b, off + k * 7 + 5, none⟩ = some (.int .i64 E1.study) ∧ W'.cell? ⟨b, off + k * 7 + 6, none⟩ = some (.int .i64 E1.most) ∧ W'.cell? ⟨b', off' + k * 7, none⟩ = some (.int .i64 E2.makes) ∧ W'.cell? ⟨b', off' + k * 7 + 1, none⟩ = some (.int .i64 E2.per) ∧ W'.cell? ⟨b', off' + k * 7 + 2, none⟩ = some (.int .i64 E2.time) ∧ W'.cell? ⟨b', off' + k * 7 + 3, none⟩ = some (.slice E2.addr E2.needs.length E2.cap) ∧ W'.cell? ⟨b', off' + k * 7 + 4, none⟩ = some (.int .i64 E2.copy) ∧ W'.cell? ⟨b', off' + k * 7 + 5, none⟩ = some (.int .i64 E2.study) ∧ W'.cell? ⟨b', off' + k * 7 + 6, none⟩ = some (.int .i64 E2.most) ∧ Hid (Two w (some ⟨b, off, none⟩) nb c.bcap ya1 ny c.ycap (some ⟨b', off', none⟩) d.bcap ya2 d.ycap W')) := fun W' h => by
                        obtain ⟨y1, y3, z1, z3⟩ := two_cells h.out
                        have hB := two_b h.out
                        exact ⟨y1, z1, (hB.cell (p := ⟨b, off + k * 7, none⟩) hb).trans c0, (hB.cell (p := ⟨b, off + k * 7 + 1, none⟩) hb).trans c1, (hB.cell (p := ⟨b, off + k * 7 + 2, none⟩) hb).trans c2, (hB.cell (p := ⟨b, off + k * 7 + 3, none⟩) hb).trans c3, (hB.cell (p := ⟨b, off + k * 7 + 4, none⟩) hb).trans c4, (hB.cell (p := ⟨b, off + k * 7 + 5, none⟩) hb).trans c5, (hB.cell (p := ⟨b, off + k * 7 + 6, none⟩) hb).trans c6, (hB.cell (p := ⟨b', off' + k * 7, none⟩) hb').trans d0, (hB.cell (p := ⟨b', off' + k * 7 + 1, none⟩) hb').trans d1, (hB.cell (p := ⟨b', off' + k * 7 + 2, none⟩) hb').trans d2, (hB.cell (p := ⟨b', off' + k * 7 + 3, none⟩) hb').trans d3, (hB.cell (p := ⟨b', off' + k * 7 + 4, none⟩) hb').trans d4, (hB.cell (p := ⟨b', off' + k * 7 + 5, none⟩) hb').trans d5, (hB.cell (p := ⟨b', off' + k * 7 + 6, none⟩) hb').trans d6, h⟩
                      have HTd := Lib.hid (two_drew HT.out)
                      unfold BlueIn.val at CC
                      clear c0 c1 c2 c3 c4 c5 c6 d0 d1 d2 d3 d4 d5 d6 hlt
                      generalize sameB E1 E2 = S at *
                      cases S
                      · have HR2 : Hid (R = false) := by show R = _; rw [HR.out, HFS.out HPk.out, decide_eq_false (by omega)]; rfl
                        go_wp2
                        go_region_held3 (fun W' => W'.cell? ⟨w.heap.size, 1, none⟩ = some (.slice (some ⟨b, off, none⟩) nb c.bcap) ∧ W'.cell? ⟨w.heap.size + 1, 1, none⟩ = some (.slice (some ⟨b', off', none⟩) nb d.bcap) ∧ W'.cell? ⟨b, off + k * 7, none⟩ = some (.int .i64 E1.makes) ∧ W'.cell? ⟨b, off + k * 7 + 1, none⟩ = some (.int .i64 E1.per) ∧ W'.cell? ⟨b, off + k * 7 + 2, none⟩ = some (.int .i64 E1.time) ∧ W'.cell? ⟨b, off + k * 7 + 3, none⟩ = some (.slice E1.addr E1.needs.length E1.cap) ∧ W'.cell? ⟨b, off + k * 7 + 4, none⟩ = some (.int .i64 E1.copy) ∧ W'.cell? ⟨b, off + k * 7 + 5, none⟩ = some (.int .i64 E1.study) ∧ W'.cell? ⟨b, off + k * 7 + 6, none⟩ = some (.int .i64 E1.most) ∧ W'.cell? ⟨b', off' + k * 7, none⟩ = some (.int .i64 E2.makes) ∧ W'.cell? ⟨b', off' + k * 7 + 1, none⟩ = some (.int .i64 E2.per) ∧ W'.cell? ⟨b', off' + k * 7 + 2, none⟩ = some (.int .i64 E2.time) ∧ W'.cell? ⟨b', off' + k * 7 + 3, none⟩ = some (.slice E2.addr E2.needs.length E2.cap) ∧ W'.cell? ⟨b', off' + k * 7 + 4, none⟩ = some (.int .i64 E2.copy) ∧ W'.cell? ⟨b', off' + k * 7 + 5, none⟩ = some (.int .i64 E2.study) ∧ W'.cell? ⟨b', off' + k * 7 + 6, none⟩ = some (.int .i64 E2.most) ∧ Hid (Two w (some ⟨b, off, none⟩) nb c.bcap ya1 ny c.ycap (some ⟨b', off', none⟩) d.bcap ya2 d.ycap W')) (first | exact BF.out _ HT2 | exact BF.out _ HTd)
                          (first | (go_at_call 23; (have tok := HTd; (with_reducible refine (CC.out _ (two_b HTd.out)).mono ?_); rintro e w2 ⟨rfl, hb2⟩; clear tok; have HT2 := Lib.hid (two_next HTd.out hb2))))
                        go_wp2
                        go_ret
                        exact ⟨by rw [HR2.out]; rfl, two_b HT2.out⟩
                      · have HF2 := Lib.hid (HFG.out HPk.out)
                        go_wp2
                        go_region_held3 (fun W' => W'.cell? ⟨w.heap.size, 1, none⟩ = some (.slice (some ⟨b, off, none⟩) nb c.bcap) ∧ W'.cell? ⟨w.heap.size + 1, 1, none⟩ = some (.slice (some ⟨b', off', none⟩) nb d.bcap) ∧ W'.cell? ⟨b, off + k * 7, none⟩ = some (.int .i64 E1.makes) ∧ W'.cell? ⟨b, off + k * 7 + 1, none⟩ = some (.int .i64 E1.per) ∧ W'.cell? ⟨b, off + k * 7 + 2, none⟩ = some (.int .i64 E1.time) ∧ W'.cell? ⟨b, off + k * 7 + 3, none⟩ = some (.slice E1.addr E1.needs.length E1.cap) ∧ W'.cell? ⟨b, off + k * 7 + 4, none⟩ = some (.int .i64 E1.copy) ∧ W'.cell? ⟨b, off + k * 7 + 5, none⟩ = some (.int .i64 E1.study) ∧ W'.cell? ⟨b, off + k * 7 + 6, none⟩ = some (.int .i64 E1.most) ∧ W'.cell? ⟨b', off' + k * 7, none⟩ = some (.int .i64 E2.makes) ∧ W'.cell? ⟨b', off' + k * 7 + 1, none⟩ = some (.int .i64 E2.per) ∧ W'.cell? ⟨b', off' + k * 7 + 2, none⟩ = some (.int .i64 E2.time) ∧ W'.cell? ⟨b', off' + k * 7 + 3, none⟩ = some (.slice E2.addr E2.needs.length E2.cap) ∧ W'.cell? ⟨b', off' + k * 7 + 4, none⟩ = some (.int .i64 E2.copy) ∧ W'.cell? ⟨b', off' + k * 7 + 5, none⟩ = some (.int .i64 E2.study) ∧ W'.cell? ⟨b', off' + k * 7 + 6, none⟩ = some (.int .i64 E2.most) ∧ Hid (Two w (some ⟨b, off, none⟩) nb c.bcap ya1 ny c.ycap (some ⟨b', off', none⟩) d.bcap ya2 d.ycap W')) (first | exact BF.out _ HT2 | exact BF.out _ HTd)
                          (first | (go_at_call 23; (have tok := HTd; (with_reducible refine (CC.out _ (two_b HTd.out)).mono ?_); rintro e w2 ⟨rfl, hb2⟩; clear tok; have HT2 := Lib.hid (two_next HTd.out hb2))))
                        go_wp2
                        go_roundw
                        case rel => exact ⟨k + 1, by omega, by go_num, HF2, HT2⟩
                        case measure => simp [intOf]; omega
                    · have hke : k = nb := by omega
                      have HFb : Hid (fst PB nb = -1) := by rw [← hke]; exact HF
                      have hge : ¬ (k : Int) < (nb : Int) := by omega
                      clear hlt hk hke HF
                      go_wp2
                      go_loopw [6] (fun v6 wr => ∃ k : Nat, k ≤ ny ∧ v6 = .int .i64 (k : Int) ∧ Hid (fst PY k = -1) ∧ Hid (Two w ba1 nb c.bcap ya1 ny c.ycap ba2 d.bcap ya2 d.ycap wr)) (fun v6 _ => ny - (intOf v6).toNat)
                      case atStart => exact ⟨0, by omega, rfl, rfl, HT⟩
                      case round =>
                        clear HT t1 t2 t3 t4
                        obtain ⟨q, hq, rfl, HF, HT⟩ := hrel
                        obtain ⟨t1, t2, t3, t4⟩ := two_cells HT.out
                        by_cases hlt : q < ny
                        · obtain ⟨b, off, rfl, hb, c0, c1, c2, c3⟩ := (HY1.out.below (two_b HT.out)) q (by rw [hny.out]; exact hlt)
                          obtain ⟨b', off', rfl, hb', d0, d1, d2, d3⟩ := (HY2.out.below (two_b HT.out)) q (by rw [hmy.out]; exact hlt)
                          have hlt1 : (q : Int) < (ny : Int) := by omega
                          have hq0 : (0 : Int) ≤ (q : Int) := by omega
                          have HPk : Hid (PY q = !eqY (c.bays.getD q noy) (d.bays.getD q noy)) := by show _ = _; rw [← hPY.out]
                          have HFS := Lib.hid (fun hp => fst_stay PY q HF.out hp ny hlt)
                          have HFG := Lib.hid (fst_go PY q HF.out)
                          generalize c.bays.getD q noy = E1 at *
                          generalize d.bays.getD q noy = E2 at *
                          have HEQ : Hid (eqY E1 E2 = ((E1.place == E2.place) && ((E1.make == E2.make) && ((E1.lab == E2.lab) && (E1.rate == E2.rate))))) := rfl
                          rw [HEQ.out] at HPk
                          clear HEQ
                          generalize E1.place = pplace at *
                          generalize E2.place = qplace at *
                          generalize E1.make = pmake at *
                          generalize E2.make = qmake at *
                          generalize E1.lab = plab at *
                          generalize E2.lab = qlab at *
                          generalize E1.rate = prate at *
                          generalize E2.rate = qrate at *
                          by_cases eeplace : pplace = qplace
                          · subst eeplace
                            by_cases eemake : pmake = qmake
                            · subst eemake
                              by_cases eelab : plab = qlab
                              · subst eelab
                                by_cases eerate : prate = qrate
                                · subst eerate
                                  have HPt : Hid (PY q = false) := by show _ = _; rw [HPk.out]; simp
                                  have HF2 := Lib.hid (HFG.out HPt.out)
                                  go_wp2
                                  go_quiet (fail)
                                  go_wp2
                                  go_roundw
                                  case rel => exact ⟨q + 1, by omega, by go_num, HF2, two_dN HT.out _⟩
                                  case measure => simp [intOf]; omega
                                · have drate : (prate == qrate) = false := beq_eq_false_iff_ne.2 eerate
                                  have HPt : Hid (PY q = true) := by show _ = _; rw [HPk.out, drate]; simp
                                  have HR2 : Hid (R = false) := by show R = _; rw [HR.out, HFS.out HPt.out, decide_eq_false (show ¬ (q : Int) = -1 by omega)]; simp
                                  go_wp2
                                  go_quiet (fail)
                                  go_wp2
                                  go_ret
                                  exact ⟨by rw [HR2.out]; rfl, below_dN (two_b HT.out) _⟩
                              · have dlab : (plab == qlab) = false := beq_eq_false_iff_ne.2 eelab
                                have HPt : Hid (PY q = true) := by show _ = _; rw [HPk.out, dlab]; simp
                                have HR2 : Hid (R = false) := by show R = _; rw [HR.out, HFS.out HPt.out, decide_eq_false (show ¬ (q : Int) = -1 by omega)]; simp
                                go_wp2
                                go_quiet (fail)
                                go_wp2
                                go_ret
                                exact ⟨by rw [HR2.out]; rfl, below_dN (two_b HT.out) _⟩
                            · have dmake : (pmake == qmake) = false := beq_eq_false_iff_ne.2 eemake
                              have HPt : Hid (PY q = true) := by show _ = _; rw [HPk.out, dmake]; simp
                              have HR2 : Hid (R = false) := by show R = _; rw [HR.out, HFS.out HPt.out, decide_eq_false (show ¬ (q : Int) = -1 by omega)]; simp
                              go_wp2
                              go_quiet (fail)
                              go_wp2
                              go_ret
                              exact ⟨by rw [HR2.out]; rfl, below_dN (two_b HT.out) _⟩
                          · have dplace : (pplace == qplace) = false := beq_eq_false_iff_ne.2 eeplace
                            have HPt : Hid (PY q = true) := by show _ = _; rw [HPk.out, dplace]; simp
                            have HR2 : Hid (R = false) := by show R = _; rw [HR.out, HFS.out HPt.out, decide_eq_false (show ¬ (q : Int) = -1 by omega)]; simp
                            go_wp2
                            go_quiet (fail)
                            go_wp2
                            go_ret
                            exact ⟨by rw [HR2.out]; rfl, below_dN (two_b HT.out) _⟩
                        · have hqe : q = ny := by omega
                          have HR2 : Hid (R = true) := by show R = _; rw [HR.out, HFb.out, ← hqe, HF.out]; rfl
                          have hge2 : ¬ (q : Int) < (ny : Int) := by omega
                          clear hlt hq hqe HF
                          go_wp2
                          go_ret
                          exact ⟨by rw [HR2.out]; rfl, two_b HT.out⟩
                · have e2ny : ¬ (ny : Int) = (my : Int) := by omega
                  have dny : ((ny : Int) == (my : Int)) = false := beq_eq_false_iff_ne.2 e2ny
                  rw [decide_eq_false eny] at HS
                  have HR : Hid (R = false) := by show R = _; rw [HS.out]; simp
                  rw [HR.out]
                  go_enter Try.func12, Try.ntmps12
                  go_wp2
                  go_ret
                  exact ⟨rfl, hbw⟩
              · have e2nb : ¬ (nb : Int) = (mb : Int) := by omega
                have dnb : ((nb : Int) == (mb : Int)) = false := beq_eq_false_iff_ne.2 e2nb
                rw [decide_eq_false enb] at HS
                have HR : Hid (R = false) := by show R = _; rw [HS.out]; simp
                rw [HR.out]
                go_enter Try.func12, Try.ntmps12
                go_wp2
                go_ret
                exact ⟨rfl, hbw⟩
            · have dsales : (xsales == ysales) = false := beq_eq_false_iff_ne.2 esales
              rw [dsales] at HS
              have HR : Hid (R = false) := by show R = _; rw [HS.out]; simp
              rw [HR.out]
              go_enter Try.func12, Try.ntmps12
              go_wp2
              go_ret
              exact ⟨rfl, hbw⟩
          · have dleast : (xleast == yleast) = false := beq_eq_false_iff_ne.2 eleast
            rw [dleast] at HS
            have HR : Hid (R = false) := by show R = _; rw [HS.out]; simp
            rw [HR.out]
            go_enter Try.func12, Try.ntmps12
            go_wp2
            go_ret
            exact ⟨rfl, hbw⟩
        · have dbroker : (xbroker == ybroker) = false := beq_eq_false_iff_ne.2 ebroker
          rw [dbroker] at HS
          have HR : Hid (R = false) := by show R = _; rw [HS.out]; simp
          rw [HR.out]
          go_enter Try.func12, Try.ntmps12
          go_wp2
          go_ret
          exact ⟨rfl, hbw⟩
      · have dchars : (xchars == ychars) = false := beq_eq_false_iff_ne.2 echars
        rw [dchars] at HS
        have HR : Hid (R = false) := by show R = _; rw [HS.out]; simp
        rw [HR.out]
        go_enter Try.func12, Try.ntmps12
        go_wp2
        go_ret
        exact ⟨rfl, hbw⟩
    · have dplaces : (xplaces == yplaces) = false := beq_eq_false_iff_ne.2 eplaces
      rw [dplaces] at HS
      have HR : Hid (R = false) := by show R = _; rw [HS.out]; simp
      rw [HR.out]
      go_enter Try.func12, Try.ntmps12
      go_wp2
      go_ret
      exact ⟨rfl, hbw⟩
  · have dtypes : (xtypes == ytypes) = false := beq_eq_false_iff_ne.2 etypes
    rw [dtypes] at HS
    have HR : Hid (R = false) := by show R = _; rw [HS.out]; simp
    rw [HR.out]
    go_enter Try.func12, Try.ntmps12
    go_wp2
    go_ret
    exact ⟨rfl, hbw⟩
end Cat
end Go.Proofs.Ytfincohdchnniaa
