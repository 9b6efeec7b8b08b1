/- Items are read. -/
import Derived.Test.YtngnplghjaojhaaGp13
import Derived.Test.YtngnplghjaojhaaGp12
import Derived.Test.YtngnplghjaojhaaGp09
import Derived.Test.YtngnplghjaojhaaGp05
import Derived.Test.YtngnplghjaojhaaGp02
import Derived.Test.YtngnplghjaojhaaGp00
import Derived.Test.YtngnplghjaojhaaGp03
namespace Go.Proofs.Ytngnplghjaojhaa
set_option maxRecDepth 100000
set_option maxHeartbeats 2000000
set_option linter.unusedSimpArgs false
open Go.RowKit Go.Shelf Go.Sort
attribute [local go_sem] Oper.semAt_some wide_fn wide_depth
set_option linter.unusedVariables false

def ItemQ (w0 : World) (ts : List Tk) (tv : Value) (g : Nat) (own : List Nat) (st : PS) (d : Nat) (w : World) (en : Ending) (w' : World) : Prop := ∃ r, ItemR ts d st r ∧ AtomQ w0 ts tv g own d w r en w'
def ItemsQ (w0 : World) (ts : List Tk) (tv : Value) (g : Nat) (own : List Nat) (st : PS) (d : Nat) (w : World) (en : Ending) (w' : World) : Prop := ∃ r, ItemsR ts d st r ∧ AtomQ w0 ts tv g own d w r en w'
/-- Items at a depth are read as they ought to. -/
def ItemsOK (w0 : World) (ts : List Tk) (tv : Value) (g : Nat) (d : Nat) : Prop := ∀ (own : List Nat) (st : PS) (w : World), RdP w0 ts tv g own st d (edgesOf st.atoms) w → Bd st → st.atoms.length ≤ 39 →
    Calls Try.prog 51 #[.pointer (some ⟨g, 0, none⟩)] w (ItemsQ w0 ts tv g own st d w)
theorem itemQ_mk {w0 : World} {ts : List Tk} {tv : Value} {g : Nat} {own : List Nat} {st : PS} {d : Nat} {w : World} {en : Ending} {w' : World} {r : Except Nat PS} (h : ItemR ts d st r) (h' : AtomQ w0 ts tv g own d w r en w') : ItemQ w0 ts tv g own st d w en w' := ⟨r, h, h'⟩
set_option maxRecDepth 100000 in
set_option maxHeartbeats 2000000 in
theorem item_any {w0 : World} {ts : List Tk} {tv : Value} {g : Nat} {own : List Nat} {p : Nat} {atoms : List Atm} {vars : List ByteArray} {d : Nat} {w : World} (h : RdP w0 ts tv g own ⟨p, atoms, vars⟩ d (edgesOf atoms) w) (hl : ts.length ≤ 1000000) (hb : Bd ⟨p, atoms, vars⟩) (ha : atoms.length ≤ 39) (hd : d ≤ 4)
    (hi : d ≠ 4 → ItemsOK w0 ts tv g (d + 1)) :
    Calls Try.prog 77 #[.pointer (some ⟨g, 0, none⟩)] w (ItemQ w0 ts tv g own ⟨p, atoms, vars⟩ d w) := by
  obtain ⟨av, vv, m, hj⟩ := h
  have HJ := Lib.hid hj
  have HI := Lib.hid hi
  have HBD := Lib.hid hb
  have HC : Hid (Chg own w own w) := Lib.hid (Chg.refl own w)
  clear hj hi hb
  by_cases k4 : kindAt ts p = 4
  · have K4 := Lib.hid k4
    clear k4
    go_enter Try.func77, Try.ntmps77
    go_wp2_with fail
    refine (take_yes HJ.out K4.out (by decide) hl).mono ?_
    rintro en w1 ⟨rfl, hj9, hc9⟩
    replace HC := Lib.hid (HC.out.trans hc9)
    clear HJ
    have HJ := Lib.hid hj9
    have HK := Lib.hid (kind_any hj9.rd)
    clear hj9 hc9
    by_cases k44 : kindAt ts (p + 1) = 4
    · have hkb : (kindAt ts (p + 1) != 4) = false := by simp [k44]
      have K44 := Lib.hid k44
      dsimp only at HK
      rw [k44] at HK
      clear k44 hkb
      go_wp2_with fail
      refine HK.out.mono ?_
      rintro en w2 ⟨rfl, hx2⟩
      replace HC := Lib.hid (HC.out.trans (Chg.ext hx2))
      have hj9 := HJ.out.grow hx2
      clear HJ HK
      have HJ := Lib.hid hj9
      clear hj9 hx2
      have g10 : w2.cell? ⟨g, 10, none⟩ = some (.int .i64 d) := HJ.out.rd.row.cell (i := 10) rfl
      by_cases hd4 : d = 4
      · have hdb : ((d : Int) == 4) = true := by simp [hd4]
        have HD4 := Lib.hid hd4
        clear hd4
        go_wp2_with fail
        refine (bad_at HJ.out 0 (Nat.zero_le _) hl).mono ?_
        rintro en w9 hbad
        have HBAD := Lib.hid (BadI.from_ HC.out hbad)
        obtain ⟨rfl, hb2⟩ := hbad
        clear hb2
        unfold wrongE
        go_wp2_with fail
        exact ⟨rfl, itemQ_mk (.deep K4.out K44.out HD4.out) HBAD.out⟩
      · have hdb : ((d : Int) == 4) = false := by simp; omega
        have HD4 := Lib.hid hd4
        clear hd4
        have g10f := HJ.out.rd.row.frozen 10
        obtain ⟨hj9, hc9⟩ := HJ.out.depth (d + 1)
        have hcast : ((d + 1 : Nat) : Int) = (d : Int) + 1 := by omega
        rw [hcast] at hj9 hc9
        replace HC := Lib.hid (HC.out.trans hc9)
        clear HJ
        have HJ := Lib.hid hj9
        clear hj9 hc9 hcast
        go_upto_region 6 with fail
        clear g10 g10f hdb
        generalize w2.setCell ⟨g, 10, none⟩ (.int .i64 ((d : Int) + 1)) = w3 at *
        have HIT := Lib.hid (HI.out HD4.out own ⟨p + 1, atoms, vars⟩ w3 ⟨_, _, _, HJ.out⟩ HBD.out ha)
        go_wp2_with fail
        refine HIT.out.mono ?_
        rintro en w4 ⟨r, hir, haq⟩
        clear HIT HI
        cases r with
        | error q =>
          have HBAD := Lib.hid (BadI.from_ HC.out haq)
          have HIR := Lib.hid hir
          obtain ⟨rfl, hb2⟩ := haq
          clear hb2 hir
          unfold wrongE
          go_wp2_with fail
          exact ⟨rfl, itemQ_mk (.bad K4.out K44.out HD4.out HIR.out) HBAD.out⟩
        | ok s =>
          obtain ⟨p5, atoms5, vars5⟩ := s
          obtain ⟨rfl, own5, ⟨av5, vv5, m5, hj9⟩, hc9⟩ := haq
          have HIR := Lib.hid hir
          replace HC := Lib.hid (HC.out.trans hc9)
          clear HJ hir
          have HJ := Lib.hid hj9
          clear hj9 hc9
          have g10 : w4.cell? ⟨g, 10, none⟩ = some (.int .i64 (d + 1 : Nat)) := HJ.out.rd.row.cell (i := 10) rfl
          have g10f := HJ.out.rd.row.frozen 10
          obtain ⟨hj9, hc9⟩ := HJ.out.depth d
          have hcast : ((d + 1 : Nat) : Int) = (d : Int) + 1 := by omega
          rw [hcast] at g10
          replace HC := Lib.hid (HC.out.trans hc9)
          clear HJ
          have HJ := Lib.hid hj9
          clear hj9 hc9 hcast
          have hsub : (d : Int) + 1 - 1 = d := by omega
          have hwr : IntKind.i64.wrap (d : Int) = (d : Int) := IntWalk.i64_in _ (by omega)
          go_wp2_with fail
          clear g10 g10f hsub hwr
          generalize w4.setCell ⟨g, 10, none⟩ (.int .i64 (d : Int)) = w5 at *
          by_cases k5 : kindAt ts p5 = 5
          · have K5 := Lib.hid k5
            clear k5
            refine (take_yes HJ.out K5.out (by decide) hl).mono ?_
            rintro en w6 ⟨rfl, hj9, hc9⟩
            have HC6 := Lib.hid (HC.out.trans hc9)
            have HJ6 := Lib.hid hj9
            clear hj9 hc9 HJ HC
            go_wp2_with fail
            go_end0
            exact itemQ_mk (.group K4.out K44.out HD4.out HIR.out) (atomQ_ok (by unfold takeP; dsimp only; rw [if_pos K5.out]; rfl) rfl HJ6.out HC6.out)
          · have K5 := Lib.hid k5
            clear k5
            refine (take_no HJ.out K5.out (by decide) hl).mono ?_
            rintro en w9 hbad
            have HBAD := Lib.hid (BadI.from_ HC.out hbad)
            obtain ⟨rfl, hb2⟩ := hbad
            clear hb2
            unfold wrongE
            go_wp2_with fail
            exact ⟨rfl, itemQ_mk (.group K4.out K44.out HD4.out HIR.out) (atomQ_bad (by unfold takeP; dsimp only; rw [if_neg K5.out]; rfl) HBAD.out)⟩
    · have hkb : (kindAt ts (p + 1) != 4) = true := by simp [k44]
      have K44 := Lib.hid k44
      dsimp only at HK
      generalize kindAt ts (p + 1) = kk at HK hkb
      clear k44
      go_wp2_with fail
      refine HK.out.mono ?_
      rintro en w2 ⟨rfl, hx2⟩
      replace HC := Lib.hid (HC.out.trans (Chg.ext hx2))
      have hj9 := HJ.out.grow hx2
      clear HJ HK
      have HJ := Lib.hid hj9
      clear hj9 hx2
      have HAT := Lib.hid (atom_any (p := p + 1) ⟨_, _, _, HJ.out⟩ hl HBD.out.1 ha HBD.out.2)
      cases hap : atomP ts ⟨p + 1, atoms, vars⟩ with
      | error q =>
        have HAP := Lib.hid hap
        rw [hap] at HAT
        clear hap
        go_wp2_with fail
        refine HAT.out.mono ?_
        rintro en w9 hbad
        have HBAD := Lib.hid (BadI.from_ HC.out (show BadI w0 ts tv g own w2 q en w9 from hbad))
        obtain ⟨rfl, hb2⟩ := HBAD.out
        clear hb2 hbad
        unfold wrongE
        go_wp2_with fail
        exact ⟨rfl, itemQ_mk (.atom K4.out K44.out) (atomQ_bad HAP.out HBAD.out)⟩
      | ok s =>
        have HAP := Lib.hid hap
        rw [hap] at HAT
        clear hap
        go_wp2_with fail
        refine HAT.out.mono ?_
        rintro en w4 haq
        obtain ⟨rfl, own5, ⟨av5, vv5, m5, hj9⟩, hc9⟩ := haq
        have HC6 := Lib.hid (HC.out.trans hc9)
        have HJ6 := Lib.hid hj9
        clear hj9 hc9 HJ HC HAT
        go_wp2_with fail
        go_end0
        exact itemQ_mk (.atom K4.out K44.out) (atomQ_ok HAP.out rfl HJ6.out HC6.out)
  · have K4 := Lib.hid k4
    clear k4
    go_enter Try.func77, Try.ntmps77
    go_wp2_with fail
    refine (take_no HJ.out K4.out (by decide) hl).mono ?_
    rintro en w9 hbad
    have HBAD := Lib.hid (BadI.from_ HC.out hbad)
    obtain ⟨rfl, hb2⟩ := hbad
    clear hb2
    unfold wrongE
    go_wp2_with fail
    exact ⟨rfl, itemQ_mk (.no K4.out) (atomQ_bad rfl HBAD.out)⟩
end Go.Proofs.Ytngnplghjaojhaa

/- Items are read, at every depth. -/
namespace Go.Proofs.Ytngnplghjaojhaa
set_option maxRecDepth 100000
set_option maxHeartbeats 2000000
set_option linter.unusedSimpArgs false
open Go.RowKit Go.Shelf Go.Sort
attribute [local go_sem] Oper.semAt_some wide_fn wide_depth
set_option linter.unusedVariables false

theorem itemsQ_mk {w0 : World} {ts : List Tk} {tv : Value} {g : Nat} {own : List Nat} {st : PS} {d : Nat} {w : World} {en : Ending} {w' : World} {r : Except Nat PS} (h : ItemsR ts d st r) (h' : AtomQ w0 ts tv g own d w r en w') : ItemsQ w0 ts tv g own st d w en w' := ⟨r, h, h'⟩
/-- Where a round of items stands. -/
structure ItI (w0 : World) (ts : List Tk) (tv : Value) (g : Nat) (own : List Nat) (st : PS) (d : Nat) (w : World) (own1 : List Nat) (s : PS) (W : World) : Prop where
  rd : RdP w0 ts tv g own1 s d (edgesOf s.atoms) W
  chg : Chg own w own1 W
  so : ∀ r, ItemsR ts d s r → ItemsR ts d st r
  bd : Bd s
  few : s.atoms.length ≤ 39
set_option maxRecDepth 100000 in
set_option maxHeartbeats 2000000 in
theorem items_at {w0 : World} {ts : List Tk} {tv : Value} {g : Nat} {d : Nat} (hl : ts.length ≤ 1000000) (hd : d ≤ 4) (hi : d ≠ 4 → ItemsOK w0 ts tv g (d + 1)) : ItemsOK w0 ts tv g d := by
  intro own st w h hb ha
  have hst : ItI w0 ts tv g own st d w own st w := ⟨h, Chg.refl own w, fun r hr => hr, hb, ha⟩
  have HST := Lib.hid hst
  have HI := Lib.hid hi
  have hp0 : st.p ≤ ts.length := by obtain ⟨_, _, _, hj⟩ := h; exact hj.rd.le
  clear h hb ha hst hi
  go_enter Try.func51, Try.ntmps51
  go_wp2_with fail
  go_step3
  go_wp2_with fail
  go_step3
  go_wp2_with fail
  go_loopg [5] (ts.length - st.p) (fun gg s5 wi => ∃ (own1 : List Nat) (s : PS), s.p ≤ ts.length ∧ gg = ts.length - s.p ∧ Hid (ItI w0 ts tv g own st d w own1 s wi))
  case atStart => exact ⟨own, st, hp0, rfl, HST⟩
  case round =>
    obtain ⟨own1, ⟨p, atoms, vars⟩, hp, hgg, hh⟩ := hrel
    have Hg := Lib.hid hgg
    dsimp only at hp Hg
    clear hgg HST
    have HIT := Lib.hid (item_any hh.out.rd hl hh.out.bd hh.out.few hd HI.out)
    go_wp2_with fail
    refine HIT.out.mono ?_
    rintro en w1 ⟨r, hir, haq⟩
    clear HIT
    cases r with
    | error q =>
      have HBAD := Lib.hid (BadI.from_ hh.out.chg (show BadI w0 ts tv g own1 wr q en w1 from haq))
      have HIR := Lib.hid hir
      obtain ⟨rfl, hb2⟩ := HBAD.out
      clear hb2 hir haq
      unfold wrongE
      go_wp2_with fail
      exact ⟨rfl, itemsQ_mk (hh.out.so _ (.bad HIR.out)) (atomQ_bad rfl HBAD.out)⟩
    | ok s =>
      obtain ⟨p5, atoms5, vars5⟩ := s
      obtain ⟨rfl, own5, ⟨av5, vv5, m5, hj9⟩, hc9⟩ := haq
      obtain ⟨hg1, hg2, hg3⟩ := hir.good rfl hh.out.bd hh.out.few
      dsimp only at hj9 hg1 hg3
      have HIR := Lib.hid hir
      have HG2 := Lib.hid hg2
      have HJ := Lib.hid hj9
      have HC := Lib.hid (hh.out.chg.trans hc9)
      obtain ⟨ava, avc, rfl⟩ := own_vw hj9.atoms
      clear hir hg2 hj9 hc9
      have f0 : w1.cell? ⟨g, 0, none⟩ = some (.slice ava atoms5.length avc) := HJ.out.rd.row.cell (i := 0) rfl
      by_cases h40 : atoms5.length = 40
      · have h40b : ((atoms5.length : Int) == 40) = true := by rw [h40]; rfl
        have H40 := Lib.hid h40
        clear h40
        go_wp2_with fail
        go_end0
        exact itemsQ_mk (hh.out.so _ (.last HIR.out (.inl H40.out))) (atomQ_ok rfl rfl HJ.out HC.out)
      · have h40b : ((atoms5.length : Int) == 40) = false := by simp; omega
        have H40 := Lib.hid h40
        by_cases k6 : kindAt ts p5 = 6
        · have K6 := Lib.hid k6
          have hlt6 : p5 < ts.length := takeP_lt (by decide) k6
          have hfew : atoms5.length ≤ 39 := by omega
          clear k6 h40
          go_wp2_with fail
          refine (may_yes HJ.out K6.out (by decide) hl).mono ?_
          rintro en w2 ⟨rfl, hj9, hc9⟩
          have HNX : Hid (ItI w0 ts tv g own st d w own5 ⟨p5 + 1, atoms5, vars5⟩ w2) := Lib.hid ⟨⟨_, _, _, hj9⟩, HC.out.trans hc9, fun r hr => hh.out.so r (.more HIR.out (fun h => h.elim H40.out (fun h => h K6.out)) hr), HG2.out, hfew⟩
          clear hj9 hc9 f0
          go_wp2_with fail
          go_roundg (ts.length - (p5 + 1))
          case measure => have := Hg.out; omega
          case rel => exact ⟨own5, ⟨p5 + 1, atoms5, vars5⟩, by dsimp only; omega, rfl, HNX⟩
        · have K6 := Lib.hid k6
          clear k6 h40
          go_wp2_with fail
          refine (may_no HJ.out K6.out (by decide) hl).mono ?_
          rintro en w2 ⟨rfl, hj9, hc9⟩
          have HJ2 := Lib.hid hj9
          have HC2 := Lib.hid (HC.out.trans hc9)
          clear hj9 hc9 f0
          go_wp2_with fail
          go_end0
          exact itemsQ_mk (hh.out.so _ (.last HIR.out (.inr K6.out))) (atomQ_ok rfl rfl HJ2.out HC2.out)
theorem items_any {w0 : World} {ts : List Tk} {tv : Value} {g : Nat} (hl : ts.length ≤ 1000000) : ∀ k d, d + k = 4 → ItemsOK w0 ts tv g d
  | 0, d, h => items_at hl (by omega) (fun hn => absurd (by omega) hn)
  | k + 1, d, h => items_at hl (by omega) (fun _ => items_any hl k (d + 1) (by omega))
end Go.Proofs.Ytngnplghjaojhaa

/- The document's state: the kind of a token, and taking it. -/
namespace Go.Proofs.Ytngnplghjaojhaa
set_option maxRecDepth 100000
set_option maxHeartbeats 2000000
set_option linter.unusedSimpArgs false
open Go.RowKit Go.Shelf Go.Sort
attribute [local go_sem] Oper.semAt_some wide_fn wide_depth
set_option linter.unusedVariables false

/-- A state's cells but for the tokens, the place, and whether it is bad. -/
structure Sc where
  a1 : Option Addr
  n1 : Nat
  k1 : Nat
  a2 : Option Addr
  n2 : Nat
  k2 : Nat
  cn : Bool
  ds : Bool
  lm : Bool
  li : Int
  off : Int
  a3 : Option Addr
  n3 : Nat
  k3 : Nat
  op : Nat
def stL (c : Sc) (tv : Value) (p : Nat) (bad : Bool) : List Value := [tv, .int .i64 p, .bool bad, .slice c.a1 c.n1 c.k1, .slice c.a2 c.n2 c.k2, .bool c.cn, .bool c.ds, .bool c.lm, .int .i64 c.li, .int .i64 c.off, .slice c.a3 c.n3 c.k3, .int .i64 c.op]
def stV (c : Sc) (tv : Value) (p : Nat) (bad : Bool) : Value := .agg #[tv, .int .i64 p, .bool bad, .slice c.a1 c.n1 c.k1, .slice c.a2 c.n2 c.k2, .bool c.cn, .bool c.ds, .bool c.lm, .int .i64 c.li, .int .i64 c.off, .slice c.a3 c.n3 c.k3, .int .i64 c.op]
/-- The tokens that a state reads. -/
structure TkS (w : World) (ts : List Tk) (tv : Value) (p : Nat) : Prop where
  toks : Toks w tv ts
  le : p ≤ ts.length
  szs : ∀ t ∈ ts, t.text.size ≤ 9223372036854775800
theorem TkS.ext {w w' : World} {ts : List Tk} {tv : Value} {p : Nat} (h : TkS w ts tv p) (hx : Ext w w') : TkS w' ts tv p := ⟨h.toks.ext hx, h.le, h.szs⟩
theorem kindAt_endS {ts : List Tk} {p : Nat} (h : ¬ p < ts.length) : kindAt ts p = 0 := by
  unfold kindAt
  rw [List.getElem?_eq_none (by omega)]
theorem kindAt_atS {ts : List Tk} {p : Nat} (h : p < ts.length) : kindAt ts p = if ts[p].check then ts[p].kind else 0 := by
  unfold kindAt
  rw [List.getElem?_eq_getElem h]
theorem rightS (t : Tk) (w : World) (hs : t.text.size ≤ 9223372036854775800) : Calls Try.prog 75 #[tkV t] w fun e w' => e = .returned (.bool t.check) ∧ Ext w w' := by
  have h := right_any t w hs
  rw [right_check] at h
  exact h
set_option maxHeartbeats 1000000 in
theorem kindS_any {w : World} {ts : List Tk} {tv : Value} {p : Nat} (h : TkS w ts tv p) (c : Sc) (bad : Bool) :
    Calls Try.prog 57 #[stV c tv p bad] w fun e w' => e = .returned (.int .i64 (kindAt ts p)) ∧ Ext w w' := by
  obtain ⟨a, cap, rfl, hcap, hmax⟩ := h.toks.shape
  obtain ⟨a1, n1, k1, a2, n2, k2, cn, ds, lm, li, off, a3, n3, k3, op⟩ := c
  have hx0 := Ext.alloc w (.cells (stL ⟨a1, n1, k1, a2, n2, k2, cn, ds, lm, li, off, a3, n3, k3, op⟩ (.slice a ts.length cap) p bad).toArray 70)
  have hb0 : RowAt (w.alloc (.cells (stL ⟨a1, n1, k1, a2, n2, k2, cn, ds, lm, li, off, a3, n3, k3, op⟩ (.slice a ts.length cap) p bad).toArray 70)) w.heap.size 70 (stL ⟨a1, n1, k1, a2, n2, k2, cn, ds, lm, li, off, a3, n3, k3, op⟩ (.slice a ts.length cap) p bad) := RowAt.new _ _ _
  have H := Lib.hid (h.ext hx0)
  have HB := Lib.hid hb0
  have HX := Lib.hid hx0
  have hle := h.le
  unfold stL at HB HX H
  dsimp only at HB HX H
  unfold stV
  dsimp only
  clear h hx0 hb0
  go_enter Try.func57, Try.ntmps57
  go_upto_region 1 with fail
  generalize w.alloc (.cells #[.slice a ts.length cap, .int .i64 p, .bool bad, .slice a1 n1 k1, .slice a2 n2 k2, .bool cn, .bool ds, .bool lm, .int .i64 li, .int .i64 off, .slice a3 n3 k3, .int .i64 op] 70) = w1 at *
  have f0 := HB.out.cell (i := 0) rfl
  have f1 := HB.out.cell (i := 1) rfl
  by_cases hlt : p < ts.length
  · have hk := kindAt_atS hlt
    have hne : ((p : Int) == (ts.length : Int)) = false := by simp; omega
    obtain ⟨b, o, rfl, t0, t1, t2⟩ := H.out.toks.at_ hlt
    have hck := rightS ts[p] w1 (H.out.szs _ (List.getElem_mem hlt))
    generalize ts[p] = t at *
    obtain ⟨tk, tt, ta⟩ := t
    unfold tkV at hck
    dsimp only at t0 t1 t2 hck hk
    cases hc : Tk.check ⟨tk, tt, ta⟩ with
    | false =>
      rw [hc] at hck hk
      have HC := Lib.hid hck
      have HK := Lib.hid hk
      clear hck hc hk
      go_wp2_with fail
      refine HC.out.mono ?_
      rintro e w2 ⟨rfl, hx2⟩
      have HX2 := Lib.hid (HX.out.trans hx2)
      clear hx2 f0 f1 t0 t1 t2
      go_wp2_with fail
      go_ret
      exact ⟨ret_int (by rw [HK.out]; rfl), HX2.out⟩
    | true =>
      rw [hc] at hck hk
      have HC := Lib.hid hck
      have HK := Lib.hid hk
      clear hck hc hk
      go_wp2_with fail
      refine HC.out.mono ?_
      rintro e w2 ⟨rfl, hx2⟩
      have HX2 := Lib.hid (HX.out.trans hx2)
      have u0 := ext_cell hx2 t0
      have g0 := ext_cell hx2 f0
      have g1 := ext_cell hx2 f1
      clear hx2 f0 f1 t0 t1 t2
      go_wp2_with fail
      go_ret
      exact ⟨ret_int (by rw [HK.out]; rfl), HX2.out⟩
  · have hk := kindAt_endS hlt
    have HK := Lib.hid hk
    have hne : ((p : Int) == (ts.length : Int)) = true := by simp; omega
    clear hk
    go_wp2_with fail
    go_ret
    exact ⟨ret_int (by rw [HK.out]), HX.out⟩
end Go.Proofs.Ytngnplghjaojhaa

/- The document's state: a token is taken. -/
namespace Go.Proofs.Ytngnplghjaojhaa
set_option maxRecDepth 100000
set_option maxHeartbeats 2000000
set_option linter.unusedSimpArgs false
open Go.RowKit Go.Shelf Go.Sort
attribute [local go_sem] Oper.semAt_some wide_fn wide_depth
set_option linter.unusedVariables false

theorem stL_facts {w : World} {g : Nat} {t : TypeId} {x0 x1 x2 x3 x4 x5 x6 x7 x8 x9 x10 x11 : Value} (h : RowAt w g t [x0, x1, x2, x3, x4, x5, x6, x7, x8, x9, x10, x11]) : w.cell? ⟨g, 0, none⟩ = some x0 ∧ w.cell? ⟨g, 1, none⟩ = some x1 ∧ w.cell? ⟨g, 2, none⟩ = some x2 ∧ w.cell? ⟨g, 3, none⟩ = some x3 ∧ w.cell? ⟨g, 4, none⟩ = some x4 ∧ w.cell? ⟨g, 5, none⟩ = some x5 ∧
    w.cell? ⟨g, 6, none⟩ = some x6 ∧ w.cell? ⟨g, 7, none⟩ = some x7 ∧ w.cell? ⟨g, 8, none⟩ = some x8 ∧ w.cell? ⟨g, 9, none⟩ = some x9 ∧ w.cell? ⟨g, 10, none⟩ = some x10 ∧ w.cell? ⟨g, 11, none⟩ = some x11 :=
  ⟨h.cell (i := 0) rfl, h.cell (i := 1) rfl, h.cell (i := 2) rfl, h.cell (i := 3) rfl, h.cell (i := 4) rfl, h.cell (i := 5) rfl, h.cell (i := 6) rfl, h.cell (i := 7) rfl, h.cell (i := 8) rfl, h.cell (i := 9) rfl, h.cell (i := 10) rfl, h.cell (i := 11) rfl⟩
set_option maxRecDepth 100000 in
set_option maxHeartbeats 1000000 in
theorem wrongS_any {w : World} (c : Sc) (tv : Value) (p : Nat) (bad : Bool) (htv : ∃ a n cap, tv = .slice a n cap) (hp : p ≤ 1000000) :
    Calls Try.prog 85 #[stV c tv (p + 1) bad] w fun e w' => e = .returned (stV c tv p true) ∧ Ext w w' := by
  obtain ⟨a, n, cap, rfl⟩ := htv
  obtain ⟨a1, n1, k1, a2, n2, k2, cn, ds, lm, li, off, a3, n3, k3, op⟩ := c
  unfold stV
  dsimp only
  go_enter Try.func85, Try.ntmps85
  have hwr : IntKind.i64.wrap (p : Int) = (p : Int) := IntWalk.i64_in _ (by omega)
  go_wp2_with fail
  exact bodyPost_ret (v := .agg #[.slice a n cap, .int .i64 p, .bool true, .slice a1 n1 k1, .slice a2 n2 k2, .bool cn, .bool ds, .bool lm, .int .i64 li, .int .i64 off, .slice a3 n3 k3, .int .i64 op]) (by simp [results, Try.results85, go_sem]) rfl ⟨rfl, (Ext.alloc _ _).trans (Ext.alloc _ _)⟩
/-- What taking a token comes to: the place, whether it is bad, the text. -/
def takeR (ts : List Tk) (k : Int) (p : Nat) (bad : Bool) : Nat × Bool × ByteArray := if bad = false ∧ kindAt ts p = k then (p + 1, false, textAt ts p) else (p, true, nilB)
def zeroS : List Value := [.slice none 0 0, .int .i64 0, .bool false, .slice none 0 0, .slice none 0 0, .bool false, .bool false, .bool false, .int .i64 0, .int .i64 0, .slice none 0 0, .int .i64 0]
theorem row_put12 {w : World} {g : Nat} {t : TypeId} {xs ys : List Value} (h : RowAt w g t ys) (hl : ys.length = xs.length) : RowAt (setC w g 0 xs) g t xs := row_setC xs [] ys h hl
def groT5 : Nat → Gro
  | 0 => .read
  | 2 => .read
  | 4 => .read
  | 8 => .read
  | 9 => .grow
  | _ => .pure
set_option maxRecDepth 100000 in
set_option maxHeartbeats 2000000 in
theorem takeS_bad {w : World} (c : Sc) (tv : Value) (p : Nat) (k : Int) (htv : ∃ a n cap, tv = .slice a n cap) :
    Calls Try.prog 55 #[stV c tv p true, .int .i64 k] w fun e w' => e = .returned (.tuple #[stV c tv p true, .string nilB]) ∧ Ext w w' := by
  obtain ⟨a, n, cap, rfl⟩ := htv
  obtain ⟨a1, n1, k1, a2, n2, k2, cn, ds, lm, li, off, a3, n3, k3, op⟩ := c
  unfold stV
  dsimp only
  go_enter Try.func55, Try.ntmps55
  go_wp2_with fail
  exact bodyPost_ret (v := .tuple #[.agg #[.slice a n cap, .int .i64 p, .bool true, .slice a1 n1 k1, .slice a2 n2 k2, .bool cn, .bool ds, .bool lm, .int .i64 li, .int .i64 off, .slice a3 n3 k3, .int .i64 op], .string nilB]) (by simp [results, Try.results55, go_sem, nilB]) rfl ⟨rfl, (Ext.alloc _ _).trans (Ext.alloc _ _)⟩
set_option maxRecDepth 100000 in
set_option maxHeartbeats 2000000 in
theorem takeS_no {w : World} {ts : List Tk} {tv : Value} {p : Nat} (h : TkS w ts tv p) (c : Sc) (k : Int) (hk : kindAt ts p ≠ k) :
    Calls Try.prog 55 #[stV c tv p false, .int .i64 k] w fun e w' => e = .returned (.tuple #[stV c tv p true, .string nilB]) ∧ Ext w w' := by
  obtain ⟨kk, hkk⟩ : ∃ kk, kindAt ts p = kk := ⟨_, rfl⟩
  rw [hkk] at hk
  have hkb : (kk != k) = true := by simp [hk]
  obtain ⟨a, cap, rfl, hcap, hmax⟩ := h.toks.shape
  obtain ⟨a1, n1, k1, a2, n2, k2, cn, ds, lm, li, off, a3, n3, k3, op⟩ := c
  have hx0 : Ext w ((w.alloc (.cells #[.slice a ts.length cap, .int .i64 p, .bool false, .slice a1 n1 k1, .slice a2 n2 k2, .bool cn, .bool ds, .bool lm, .int .i64 li, .int .i64 off, .slice a3 n3 k3, .int .i64 op] 70)).alloc (.cells #[.slice none 0 0, .int .i64 0, .bool false, .slice none 0 0, .slice none 0 0, .bool false, .bool false, .bool false, .int .i64 0, .int .i64 0, .slice none 0 0, .int .i64 0] 70)) := (Ext.alloc _ _).trans (Ext.alloc _ _)
  have hb0 : RowAt ((w.alloc (.cells #[.slice a ts.length cap, .int .i64 p, .bool false, .slice a1 n1 k1, .slice a2 n2 k2, .bool cn, .bool ds, .bool lm, .int .i64 li, .int .i64 off, .slice a3 n3 k3, .int .i64 op] 70)).alloc (.cells #[.slice none 0 0, .int .i64 0, .bool false, .slice none 0 0, .slice none 0 0, .bool false, .bool false, .bool false, .int .i64 0, .int .i64 0, .slice none 0 0, .int .i64 0] 70)) w.heap.size 70 (stL ⟨a1, n1, k1, a2, n2, k2, cn, ds, lm, li, off, a3, n3, k3, op⟩ (.slice a ts.length cap) p false) := (RowAt.new w 70 (stL ⟨a1, n1, k1, a2, n2, k2, cn, ds, lm, li, off, a3, n3, k3, op⟩ (.slice a ts.length cap) p false)).ext (Ext.alloc _ _)
  have hb4 : RowAt ((w.alloc (.cells #[.slice a ts.length cap, .int .i64 p, .bool false, .slice a1 n1 k1, .slice a2 n2 k2, .bool cn, .bool ds, .bool lm, .int .i64 li, .int .i64 off, .slice a3 n3 k3, .int .i64 op] 70)).alloc (.cells #[.slice none 0 0, .int .i64 0, .bool false, .slice none 0 0, .slice none 0 0, .bool false, .bool false, .bool false, .int .i64 0, .int .i64 0, .slice none 0 0, .int .i64 0] 70)) (w.heap.size + 1) 70 zeroS := row_at (xs := zeroS) (by simp)
  have H := Lib.hid (h.ext hx0)
  have HB := Lib.hid hb0
  have HB4 := Lib.hid hb4
  have HX := Lib.hid hx0
  have hle := h.le
  have hks := kindS_any (h.ext hx0) ⟨a1, n1, k1, a2, n2, k2, cn, ds, lm, li, off, a3, n3, k3, op⟩ false
  unfold stV at hks
  dsimp only at hks
  rw [show kindAt ts p = kk from hkk] at hks
  have HKS := Lib.hid hks
  unfold stL at HB
  dsimp only at HB
  unfold zeroS at HB4
  unfold stV
  dsimp only
  clear h hx0 hb0 hb4 hks
  go_enter Try.func55, Try.ntmps55
  go_upto_region 1 with fail
  generalize (w.alloc (.cells #[.slice a ts.length cap, .int .i64 p, .bool false, .slice a1 n1 k1, .slice a2 n2 k2, .bool cn, .bool ds, .bool lm, .int .i64 li, .int .i64 off, .slice a3 n3 k3, .int .i64 op] 70)).alloc (.cells #[.slice none 0 0, .int .i64 0, .bool false, .slice none 0 0, .slice none 0 0, .bool false, .bool false, .bool false, .int .i64 0, .int .i64 0, .slice none 0 0, .int .i64 0] 70) = w1 at *
  obtain ⟨y, hy⟩ : ∃ y, w.heap.size = y := ⟨_, rfl⟩
  rw [hy] at HB HB4
  try simp only [hy]
  have HY := Lib.hid hy
  clear hy
  obtain ⟨z, hz⟩ : ∃ z, y + 1 = z := ⟨_, rfl⟩
  rw [hz] at HB4
  try simp only [hz]
  have HZ := Lib.hid hz
  clear hz
  obtain ⟨f0, f1, f2, f3, f4, f5, f6, f7, f8, f9, f10, f11⟩ := stL_facts HB.out
  clear hkk hk
  go_wp2_with fail
  refine HKS.out.mono ?_
  rintro e w2 ⟨rfl, hx2⟩
  have HB2 := Lib.hid (HB.out.ext hx2)
  have HZ2 := Lib.hid (HB4.out.ext hx2)
  have HX2 := Lib.hid (HX.out.trans hx2)
  have H2 := Lib.hid (H.out.ext hx2)
  clear hx2 HKS HB HB4 H HX f0 f1 f2 f3 f4 f5 f6 f7 f8 f9 f10 f11
  obtain ⟨f0, f1, f2, f3, f4, f5, f6, f7, f8, f9, f10, f11⟩ := stL_facts HB2.out
  have ff2 := HB2.out.frozen 2
  have hs2 := HB2.out.set 2 (.bool true)
  have hz2 := HZ2.out.kept (grown_set w2 y 2 (.bool true)) (fun e => by have := Option.some.inj e; have := HZ.out; omega)
  have HX3 := Lib.hid (Ext.set_of HX2.out (show w.heap.size ≤ y by have := HY.out; omega) (o := 2) (.bool true))
  have HB3 := Lib.hid hs2
  have HZ3 := Lib.hid hz2
  clear hs2 hz2 HB2 HZ2 HX2 H2
  go_upto_region 3 with fail
  clear hkb
  clear f0 f1 f2 f3 f4 f5 f6 f7 f8 f9 f10 f11 ff2
  generalize w2.setCell ⟨y, 2, none⟩ (.bool true) = w3 at *
  obtain ⟨f0, f1, f2, f3, f4, f5, f6, f7, f8, f9, f10, f11⟩ := stL_facts (show RowAt w3 y 70 [.slice a ts.length cap, .int .i64 p, .bool true, .slice a1 n1 k1, .slice a2 n2 k2, .bool cn, .bool ds, .bool lm, .int .i64 li, .int .i64 off, .slice a3 n3 k3, .int .i64 op] from HB3.out)
  obtain ⟨z0, z1, z2, z3, z4, z5, z6, z7, z8, z9, z10, z11⟩ := stL_facts HZ3.out
  have zz0 := HZ3.out.frozen 0
  have zz1 := HZ3.out.frozen 1
  have zz2 := HZ3.out.frozen 2
  have zz3 := HZ3.out.frozen 3
  have zz4 := HZ3.out.frozen 4
  have zz5 := HZ3.out.frozen 5
  have zz6 := HZ3.out.frozen 6
  have zz7 := HZ3.out.frozen 7
  have zz8 := HZ3.out.frozen 8
  have zz9 := HZ3.out.frozen 9
  have zz10 := HZ3.out.frozen 10
  have zz11 := HZ3.out.frozen 11
  have hr := row_put12 HZ3.out (xs := [.slice a ts.length cap, .int .i64 p, (.bool true), .slice a1 n1 k1, .slice a2 n2 k2, .bool cn, .bool ds, .bool lm, .int .i64 li, .int .i64 off, .slice a3 n3 k3, .int .i64 op]) rfl
  have hxf : Ext w (setC w3 z 0 [.slice a ts.length cap, .int .i64 p, (.bool true), .slice a1 n1 k1, .slice a2 n2 k2, .bool cn, .bool ds, .bool lm, .int .i64 li, .int .i64 off, .slice a3 n3 k3, .int .i64 op]) := below_setC (by have := HY.out; have := HZ.out; omega) _ 0 HX3.out
  have HR := Lib.hid hr
  have HXF := Lib.hid hxf
  clear hr hxf
  go_wp2_with fail
  obtain ⟨r0, r1, r2, r3, r4, r5, r6, r7, r8, r9, r10, r11⟩ := stL_facts HR.out
  simp only [setC] at r0 r1 r2 r3 r4 r5 r6 r7 r8 r9 r10 r11
  exact bodyPost_ret (v := .tuple #[.agg #[.slice a ts.length cap, .int .i64 p, .bool true, .slice a1 n1 k1, .slice a2 n2 k2, .bool cn, .bool ds, .bool lm, .int .i64 li, .int .i64 off, .slice a3 n3 k3, .int .i64 op], .string nilB]) (by simp [results, Try.results55, go_sem, nilB, r0, r1, r2, r3, r4, r5, r6, r7, r8, r9, r10, r11]) rfl ⟨rfl, HXF.out⟩
end Go.Proofs.Ytngnplghjaojhaa

/- The document's state: the token that is looked for is taken. -/
namespace Go.Proofs.Ytngnplghjaojhaa
set_option maxRecDepth 100000
set_option maxHeartbeats 2000000
set_option linter.unusedSimpArgs false
open Go.RowKit Go.Shelf Go.Sort
attribute [local go_sem] Oper.semAt_some wide_fn wide_depth
set_option linter.unusedVariables false
set_option maxRecDepth 100000 in
set_option maxHeartbeats 2000000 in
theorem takeS_yes {w : World} {ts : List Tk} {tv : Value} {p : Nat} (h : TkS w ts tv p) (c : Sc) (k : Int) (hk : kindAt ts p = k) (hk0 : k ≠ 0) (hl : ts.length ≤ 1000000) :
    Calls Try.prog 55 #[stV c tv p false, .int .i64 k] w fun e w' => e = .returned (.tuple #[stV c tv (p + 1) false, .string (textAt ts p)]) ∧ Ext w w' := by
  have hmo : Try.prog.follows .mixedOrders = true := by kernel_rfl
  have hlt : p < ts.length := kindAt_lt (by rw [hk]; exact hk0)
  obtain ⟨tx, htx⟩ : ∃ tx, textAt ts p = tx := ⟨_, rfl⟩
  have htx2 : ts[p].text = tx := by rw [← htx]; unfold textAt; rw [List.getD_eq_getElem?_getD, List.getElem?_eq_getElem hlt]; rfl
  rw [htx]
  have HT := Lib.hid htx2
  have HLT := Lib.hid hlt
  have H0 := Lib.hid h
  have hbw : ∀ b o n cap, tv = .slice (some ⟨b, o, none⟩) n cap → b < w.heap.size := by
    rintro b o n cap rfl
    obtain ⟨b', o', e, t0, t1, t2⟩ := h.toks.at_ hlt
    cases e
    exact World.block_lt_of_cell? w _ t0
  have HBW := Lib.hid hbw
  clear hbw htx htx2
  obtain ⟨a, cap, rfl, hcap, hmax⟩ := h.toks.shape
  obtain ⟨a1, n1, k1, a2, n2, k2, cn, ds, lm, li, off, a3, n3, k3, op⟩ := c
  have hx0 : Ext w ((w.alloc (.cells #[.slice a ts.length cap, .int .i64 p, .bool false, .slice a1 n1 k1, .slice a2 n2 k2, .bool cn, .bool ds, .bool lm, .int .i64 li, .int .i64 off, .slice a3 n3 k3, .int .i64 op] 70)).alloc (.cells #[.slice none 0 0, .int .i64 0, .bool false, .slice none 0 0, .slice none 0 0, .bool false, .bool false, .bool false, .int .i64 0, .int .i64 0, .slice none 0 0, .int .i64 0] 70)) := (Ext.alloc _ _).trans (Ext.alloc _ _)
  have hb0 : RowAt ((w.alloc (.cells #[.slice a ts.length cap, .int .i64 p, .bool false, .slice a1 n1 k1, .slice a2 n2 k2, .bool cn, .bool ds, .bool lm, .int .i64 li, .int .i64 off, .slice a3 n3 k3, .int .i64 op] 70)).alloc (.cells #[.slice none 0 0, .int .i64 0, .bool false, .slice none 0 0, .slice none 0 0, .bool false, .bool false, .bool false, .int .i64 0, .int .i64 0, .slice none 0 0, .int .i64 0] 70)) w.heap.size 70 (stL ⟨a1, n1, k1, a2, n2, k2, cn, ds, lm, li, off, a3, n3, k3, op⟩ (.slice a ts.length cap) p false) := (RowAt.new w 70 (stL ⟨a1, n1, k1, a2, n2, k2, cn, ds, lm, li, off, a3, n3, k3, op⟩ (.slice a ts.length cap) p false)).ext (Ext.alloc _ _)
  have hb4 : RowAt ((w.alloc (.cells #[.slice a ts.length cap, .int .i64 p, .bool false, .slice a1 n1 k1, .slice a2 n2 k2, .bool cn, .bool ds, .bool lm, .int .i64 li, .int .i64 off, .slice a3 n3 k3, .int .i64 op] 70)).alloc (.cells #[.slice none 0 0, .int .i64 0, .bool false, .slice none 0 0, .slice none 0 0, .bool false, .bool false, .bool false, .int .i64 0, .int .i64 0, .slice none 0 0, .int .i64 0] 70)) (w.heap.size + 1) 70 zeroS := row_at (xs := zeroS) (by simp)
  have H := Lib.hid (h.ext hx0)
  have HB := Lib.hid hb0
  have HB4 := Lib.hid hb4
  have HX := Lib.hid hx0
  have hle := h.le
  have hks := kindS_any (h.ext hx0) ⟨a1, n1, k1, a2, n2, k2, cn, ds, lm, li, off, a3, n3, k3, op⟩ false
  unfold stV at hks
  dsimp only at hks
  rw [show kindAt ts p = k from hk] at hks
  have HKS := Lib.hid hks
  unfold stL at HB
  dsimp only at HB
  unfold zeroS at HB4
  unfold stV
  dsimp only
  clear h hx0 hb0 hb4 hks
  go_enter Try.func55, Try.ntmps55
  go_upto_region 1 with fail
  generalize (w.alloc (.cells #[.slice a ts.length cap, .int .i64 p, .bool false, .slice a1 n1 k1, .slice a2 n2 k2, .bool cn, .bool ds, .bool lm, .int .i64 li, .int .i64 off, .slice a3 n3 k3, .int .i64 op] 70)).alloc (.cells #[.slice none 0 0, .int .i64 0, .bool false, .slice none 0 0, .slice none 0 0, .bool false, .bool false, .bool false, .int .i64 0, .int .i64 0, .slice none 0 0, .int .i64 0] 70) = w1 at *
  obtain ⟨y, hy⟩ : ∃ y, w.heap.size = y := ⟨_, rfl⟩
  rw [hy] at HB HB4
  try simp only [hy]
  have HY := Lib.hid hy
  clear hy
  obtain ⟨z, hz⟩ : ∃ z, y + 1 = z := ⟨_, rfl⟩
  rw [hz] at HB4
  try simp only [hz]
  have HZ := Lib.hid hz
  clear hz
  obtain ⟨f0, f1, f2, f3, f4, f5, f6, f7, f8, f9, f10, f11⟩ := stL_facts HB.out
  clear hk
  have hwr : IntKind.i64.wrap ((p : Int) + 1) = (p : Int) + 1 := IntWalk.i64_in _ (by omega)
  go_wp2_with fail
  refine HKS.out.mono ?_
  rintro e w2 ⟨rfl, hx2⟩
  have HB2 := Lib.hid (HB.out.ext hx2)
  have HZ2 := Lib.hid (HB4.out.ext hx2)
  have HX2 := Lib.hid (HX.out.trans hx2)
  have H2 := Lib.hid (H.out.ext hx2)
  clear hx2 HKS HB HB4 H HX f0 f1 f2 f3 f4 f5 f6 f7 f8 f9 f10 f11
  obtain ⟨f0, f1, f2, f3, f4, f5, f6, f7, f8, f9, f10, f11⟩ := stL_facts HB2.out
  have ff1 := HB2.out.frozen 1
  have hs2 := HB2.out.set 1 (.int .i64 ((p : Int) + 1))
  have hz2 := HZ2.out.kept (grown_set w2 y 1 (.int .i64 ((p : Int) + 1))) (fun e => by have := Option.some.inj e; have := HZ.out; omega)
  have HX3 := Lib.hid (Ext.set_of HX2.out (show w.heap.size ≤ y by have := HY.out; omega) (o := 1) (.int .i64 ((p : Int) + 1)))
  have HB3 := Lib.hid hs2
  have HZ3' := Lib.hid hz2
  clear hs2 hz2 HB2 HZ2 HX2 H2
  go_upto_region 5 with fail
  clear f0 f1 f2 f3 f4 f5 f6 f7 f8 f9 f10 f11 ff1
  generalize w2.setCell ⟨y, 1, none⟩ (.int .i64 ((p : Int) + 1)) = w5 at *
  refine wp_region_grob z groT5 [0, 1, 2, 3, 4, 5, 6, 7, 8, 9, 10] hmo (by kernel_rfl) rfl (by kernel_rfl) (fun _ _ _ _ _ h => h) ?_
  have hxd : Ext w5 w5.drew := Ext.drewN w5 1
  have HB4 := Lib.hid (HB3.out.ext hxd)
  have HZ3 := Lib.hid (HZ3'.out.ext hxd)
  replace HX3 := Lib.hid (HX3.out.trans hxd)
  clear hxd HB3 HZ3'
  generalize w5.drew = w3 at *
  obtain ⟨f0, f1, f2, f3, f4, f5, f6, f7, f8, f9, f10, f11⟩ := stL_facts (show RowAt w3 y 70 [.slice a ts.length cap, .int .i64 ((p : Int) + 1), .bool false, .slice a1 n1 k1, .slice a2 n2 k2, .bool cn, .bool ds, .bool lm, .int .i64 li, .int .i64 off, .slice a3 n3 k3, .int .i64 op] from HB4.out)
  obtain ⟨z0, z1, z2, z3, z4, z5, z6, z7, z8, z9, z10, z11⟩ := stL_facts HZ3.out
  have zz0 := HZ3.out.frozen 0
  have zz1 := HZ3.out.frozen 1
  have zz2 := HZ3.out.frozen 2
  have zz3 := HZ3.out.frozen 3
  have zz4 := HZ3.out.frozen 4
  have zz5 := HZ3.out.frozen 5
  have zz6 := HZ3.out.frozen 6
  have zz7 := HZ3.out.frozen 7
  have zz8 := HZ3.out.frozen 8
  have zz9 := HZ3.out.frozen 9
  have zz10 := HZ3.out.frozen 10
  have zz11 := HZ3.out.frozen 11
  have hr := row_put12 HZ3.out (xs := [.slice a ts.length cap, .int .i64 ((p : Int) + 1), (.bool false), .slice a1 n1 k1, .slice a2 n2 k2, .bool cn, .bool ds, .bool lm, .int .i64 li, .int .i64 off, .slice a3 n3 k3, .int .i64 op]) rfl
  have hxf : Ext w (setC w3 z 0 [.slice a ts.length cap, .int .i64 ((p : Int) + 1), (.bool false), .slice a1 n1 k1, .slice a2 n2 k2, .bool cn, .bool ds, .bool lm, .int .i64 li, .int .i64 off, .slice a3 n3 k3, .int .i64 op]) := below_setC (by have := HY.out; have := HZ.out; omega) _ 0 HX3.out
  have HR := Lib.hid hr
  have HXF := Lib.hid hxf
  clear hr hxf
  obtain ⟨b, o, rfl, t0, t1, t2⟩ := (Toks.ext H0.out.toks HX3.out).at_ HLT.out
  rw [HT.out] at t1
  have hyz : ¬ y = z := by have := HZ.out; omega
  have hbz : ¬ b = z := by have := HZ.out; have := HY.out; have := HBW.out b o ts.length cap rfl; omega
  have hsub : IntKind.i64.wrap (p : Int) = (p : Int) := IntWalk.i64_in _ (by omega)
  have hlt := HLT.out
  clear t0 t2
  repeat (first
    | (refine groB_pure rfl rfl ?_; intro K hK; go_simp; refine hK _ ?_; clear hK K)
    | (refine groB_read rfl rfl ?_; intro K S hS hK; go_simp; refine hK _ ?_; clear hK K hS S)
    | (refine groB_read rfl rfl ?_; intro K S hS hK; go_simp; refine ⟨hS _ ?_, hK _ ?_⟩; (clear hK K hS S; intro w' hx'; have hce := grown_some hx'; go_simp); clear hK K hS S))
  refine groB_grow rfl rfl ?_
  intro K hK
  go_simp
  refine hK _ _ ⟨grown_setC [.slice (some ⟨b, o, none⟩) ts.length cap, .int .i64 ((p : Int) + 1), .bool false, .slice a1 n1 k1, .slice a2 n2 k2, .bool cn, .bool ds, .bool lm, .int .i64 li, .int .i64 off, .slice a3 n3 k3, .int .i64 op] 0 w3, ?_⟩
  clear hK K
  repeat (first
    | (refine groB_pure rfl rfl ?_; intro K hK; go_simp; refine hK _ ?_; clear hK K)
    | (refine groB_read rfl rfl ?_; intro K S hS hK; go_simp; refine hK _ ?_; clear hK K hS S)
    | (refine groB_read rfl rfl ?_; intro K S hS hK; go_simp; refine ⟨hS _ ?_, hK _ ?_⟩; (clear hK K hS S; intro w' hx'; have hce := grown_some hx'; go_simp); clear hK K hS S))
  refine groB_nil ?_
  go_wp2_with fail
  obtain ⟨r0, r1, r2, r3, r4, r5, r6, r7, r8, r9, r10, r11⟩ := stL_facts HR.out
  simp only [setC] at r0 r1 r2 r3 r4 r5 r6 r7 r8 r9 r10 r11
  exact bodyPost_ret (v := .tuple #[.agg #[.slice (some ⟨b, o, none⟩) ts.length cap, .int .i64 ((p : Int) + 1), .bool false, .slice a1 n1 k1, .slice a2 n2 k2, .bool cn, .bool ds, .bool lm, .int .i64 li, .int .i64 off, .slice a3 n3 k3, .int .i64 op], .string tx]) (by simp [results, Try.results55, go_sem, nilB, r0, r1, r2, r3, r4, r5, r6, r7, r8, r9, r10, r11]) rfl ⟨rfl, HXF.out⟩
end Go.Proofs.Ytngnplghjaojhaa
