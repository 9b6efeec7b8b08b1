/- Items are read. -/
import Derived.Test.YtngnplghjaojhaaParX3
namespace Go.Proofs.Ytngnplghjaojhaa
set_option maxRecDepth 100000
set_option maxHeartbeats 2000000
set_option linter.unusedSimpArgs false
open Go.RowKit Go.Shelf Go.Sort
attribute [local go_sem] Oper.semAt_some wide_fn wide_depth
set_option linter.unusedVariables false

def ItemQ (w0 : World) (ts : List Tk) (tv : Value) (g : Nat) (own : List Nat) (st : PS) (d : Nat) (w : World) (en : Ending) (w' : World) : Prop := ∃ r, ItemR ts d st r ∧ AtomQ w0 ts tv g own d w r en w'
def ItemsQ (w0 : World) (ts : List Tk) (tv : Value) (g : Nat) (own : List Nat) (st : PS) (d : Nat) (w : World) (en : Ending) (w' : World) : Prop := ∃ r, ItemsR ts d st r ∧ AtomQ w0 ts tv g own d w r en w'
/-- Items at a depth are read as they ought to. -/
def ItemsOK (w0 : World) (ts : List Tk) (tv : Value) (g : Nat) (d : Nat) : Prop := ∀ (own : List Nat) (st : PS) (w : World), RdP w0 ts tv g own st d (edgesOf st.atoms) w → Bd st → st.atoms.length ≤ 39 →
    Calls Try.prog 51 #[.pointer (some ⟨g, 0, none⟩)] w (ItemsQ w0 ts tv g own st d w)
theorem itemQ_mk {w0 : World} {ts : List Tk} {tv : Value} {g : Nat} {own : List Nat} {st : PS} {d : Nat} {w : World} {en : Ending} {w' : World} {r : Except Nat PS} (h : ItemR ts d st r) (h' : AtomQ w0 ts tv g own d w r en w') : ItemQ w0 ts tv g own st d w en w' := ⟨r, h, h'⟩
set_option maxRecDepth 100000 in
set_option maxHeartbeats 2000000 in
theorem item_any {w0 : World} {ts : List Tk} {tv : Value} {g : Nat} {own : List Nat} {p : Nat} {atoms : List Atm} {vars : List ByteArray} {d : Nat} {w : World} (h : RdP w0 ts tv g own ⟨p, atoms, vars⟩ d (edgesOf atoms) w) (hl : ts.length ≤ 1000000) (hb : Bd ⟨p, atoms, vars⟩) (ha : atoms.length ≤ 39) (hd : d ≤ 4)
    (hi : d ≠ 4 → ItemsOK w0 ts tv g (d + 1)) :
    Calls Try.prog 77 #[.pointer (some ⟨g, 0, none⟩)] w (ItemQ w0 ts tv g own ⟨p, atoms, vars⟩ d w) := by
  obtain ⟨av, vv, m, hj⟩ := h
  have HJ := Lib.hid hj
  have HI := Lib.hid hi
  have HBD := Lib.hid hb
  have HC : Hid (Chg own w own w) := Lib.hid (Chg.refl own w)
  clear hj hi hb
  by_cases k4 : kindAt ts p = 4
  · have K4 := Lib.hid k4
    clear k4
    go_enter Try.func77, Try.ntmps77
    go_wp2_with fail
    refine (take_yes HJ.out K4.out (by decide) hl).mono ?_
    rintro en w1 ⟨rfl, hj9, hc9⟩
    replace HC := Lib.hid (HC.out.trans hc9)
    clear HJ
    have HJ := Lib.hid hj9
    have HK := Lib.hid (kind_any hj9.rd)
    clear hj9 hc9
    by_cases k44 : kindAt ts (p + 1) = 4
    · have hkb : (kindAt ts (p + 1) != 4) = false := by simp [k44]
      have K44 := Lib.hid k44
      dsimp only at HK
      rw [k44] at HK
      clear k44 hkb
      go_wp2_with fail
      refine HK.out.mono ?_
      rintro en w2 ⟨rfl, hx2⟩
      replace HC := Lib.hid (HC.out.trans (Chg.ext hx2))
      have hj9 := HJ.out.grow hx2
      clear HJ HK
      have HJ := Lib.hid hj9
      clear hj9 hx2
      have g10 : w2.cell? ⟨g, 10, none⟩ = some (.int .i64 d) := HJ.out.rd.row.cell (i := 10) rfl
      by_cases hd4 : d = 4
      · have hdb : ((d : Int) == 4) = true := by simp [hd4]
        have HD4 := Lib.hid hd4
        clear hd4
        go_wp2_with fail
        refine (bad_at HJ.out 0 (Nat.zero_le _) hl).mono ?_
        rintro en w9 hbad
        have HBAD := Lib.hid (BadI.from_ HC.out hbad)
        obtain ⟨rfl, hb2⟩ := hbad
        clear hb2
        unfold wrongE
        go_wp2_with fail
        exact ⟨rfl, itemQ_mk (.deep K4.out K44.out HD4.out) HBAD.out⟩
      · have hdb : ((d : Int) == 4) = false := by simp; omega
        have HD4 := Lib.hid hd4
        clear hd4
        have g10f := HJ.out.rd.row.frozen 10
        obtain ⟨hj9, hc9⟩ := HJ.out.depth (d + 1)
        have hcast : ((d + 1 : Nat) : Int) = (d : Int) + 1 := by omega
        rw [hcast] at hj9 hc9
        replace HC := Lib.hid (HC.out.trans hc9)
        clear HJ
        have HJ := Lib.hid hj9
        clear hj9 hc9 hcast
        go_upto_region 6 with fail
        clear g10 g10f hdb
        generalize w2.setCell ⟨g, 10, none⟩ (.int .i64 ((d : Int) + 1)) = w3 at *
        have HIT := Lib.hid (HI.out HD4.out own ⟨p + 1, atoms, vars⟩ w3 ⟨_, _, _, HJ.out⟩ HBD.out ha)
        go_wp2_with fail
        refine HIT.out.mono ?_
        rintro en w4 ⟨r, hir, haq⟩
        clear HIT HI
        cases r with
        | error q =>
          have HBAD := Lib.hid (BadI.from_ HC.out haq)
          have HIR := Lib.hid hir
          obtain ⟨rfl, hb2⟩ := haq
          clear hb2 hir
          unfold wrongE
          go_wp2_with fail
          exact ⟨rfl, itemQ_mk (.bad K4.out K44.out HD4.out HIR.out) HBAD.out⟩
        | ok s =>
          obtain ⟨p5, atoms5, vars5⟩ := s
          obtain ⟨rfl, own5, ⟨av5, vv5, m5, hj9⟩, hc9⟩ := haq
          have HIR := Lib.hid hir
          replace HC := Lib.hid (HC.out.trans hc9)
          clear HJ hir
          have HJ := Lib.hid hj9
          clear hj9 hc9
          have g10 : w4.cell? ⟨g, 10, none⟩ = some (.int .i64 (d + 1 : Nat)) := HJ.out.rd.row.cell (i := 10) rfl
          have g10f := HJ.out.rd.row.frozen 10
          obtain ⟨hj9, hc9⟩ := HJ.out.depth d
          have hcast : ((d + 1 : Nat) : Int) = (d : Int) + 1 := by omega
          rw [hcast] at g10
          replace HC := Lib.hid (HC.out.trans hc9)
          clear HJ
          have HJ := Lib.hid hj9
          clear hj9 hc9 hcast
          have hsub : (d : Int) + 1 - 1 = d := by omega
          have hwr : IntKind.i64.wrap (d : Int) = (d : Int) := IntWalk.i64_in _ (by omega)
          go_wp2_with fail
          clear g10 g10f hsub hwr
          generalize w4.setCell ⟨g, 10, none⟩ (.int .i64 (d : Int)) = w5 at *
          by_cases k5 : kindAt ts p5 = 5
          · have K5 := Lib.hid k5
            clear k5
            refine (take_yes HJ.out K5.out (by decide) hl).mono ?_
            rintro en w6 ⟨rfl, hj9, hc9⟩
            have HC6 := Lib.hid (HC.out.trans hc9)
            have HJ6 := Lib.hid hj9
            clear hj9 hc9 HJ HC
            go_wp2_with fail
            go_end0
            exact itemQ_mk (.group K4.out K44.out HD4.out HIR.out) (atomQ_ok (by unfold takeP; dsimp only; rw [if_pos K5.out]; rfl) rfl HJ6.out HC6.out)
          · have K5 := Lib.hid k5
            clear k5
            refine (take_no HJ.out K5.out (by decide) hl).mono ?_
            rintro en w9 hbad
            have HBAD := Lib.hid (BadI.from_ HC.out hbad)
            obtain ⟨rfl, hb2⟩ := hbad
            clear hb2
            unfold wrongE
            go_wp2_with fail
            exact ⟨rfl, itemQ_mk (.group K4.out K44.out HD4.out HIR.out) (atomQ_bad (by unfold takeP; dsimp only; rw [if_neg K5.out]; rfl) HBAD.out)⟩
    · have hkb : (kindAt ts (p + 1) != 4) = true := by simp [k44]
      have K44 := Lib.hid k44
      dsimp only at HK
      generalize kindAt ts (p + 1) = kk at HK hkb
      clear k44
      go_wp2_with fail
      refine HK.out.mono ?_
      rintro en w2 ⟨rfl, hx2⟩
      replace HC := Lib.hid (HC.out.trans (Chg.ext hx2))
      have hj9 := HJ.out.grow hx2
      clear HJ HK
      have HJ := Lib.hid hj9
      clear hj9 hx2
      have HAT := Lib.hid (atom_any (p := p + 1) ⟨_, _, _, HJ.out⟩ hl HBD.out.1 ha HBD.out.2)
      cases hap : atomP ts ⟨p + 1, atoms, vars⟩ with
      | error q =>
        have HAP := Lib.hid hap
        rw [hap] at HAT
        clear hap
        go_wp2_with fail
        refine HAT.out.mono ?_
        rintro en w9 hbad
        have HBAD := Lib.hid (BadI.from_ HC.out (show BadI w0 ts tv g own w2 q en w9 from hbad))
        obtain ⟨rfl, hb2⟩ := HBAD.out
        clear hb2 hbad
        unfold wrongE
        go_wp2_with fail
        exact ⟨rfl, itemQ_mk (.atom K4.out K44.out) (atomQ_bad HAP.out HBAD.out)⟩
      | ok s =>
        have HAP := Lib.hid hap
        rw [hap] at HAT
        clear hap
        go_wp2_with fail
        refine HAT.out.mono ?_
        rintro en w4 haq
        obtain ⟨rfl, own5, ⟨av5, vv5, m5, hj9⟩, hc9⟩ := haq
        have HC6 := Lib.hid (HC.out.trans hc9)
        have HJ6 := Lib.hid hj9
        clear hj9 hc9 HJ HC HAT
        go_wp2_with fail
        go_end0
        exact itemQ_mk (.atom K4.out K44.out) (atomQ_ok HAP.out rfl HJ6.out HC6.out)
  · have K4 := Lib.hid k4
    clear k4
    go_enter Try.func77, Try.ntmps77
    go_wp2_with fail
    refine (take_no HJ.out K4.out (by decide) hl).mono ?_
    rintro en w9 hbad
    have HBAD := Lib.hid (BadI.from_ HC.out hbad)
    obtain ⟨rfl, hb2⟩ := hbad
    clear hb2
    unfold wrongE
    go_wp2_with fail
    exact ⟨rfl, itemQ_mk (.no K4.out) (atomQ_bad rfl HBAD.out)⟩
end Go.Proofs.Ytngnplghjaojhaa

/- Items are read, at every depth. -/
namespace Go.Proofs.Ytngnplghjaojhaa
set_option maxRecDepth 100000
set_option maxHeartbeats 2000000
set_option linter.unusedSimpArgs false
open Go.RowKit Go.Shelf Go.Sort
attribute [local go_sem] Oper.semAt_some wide_fn wide_depth
set_option linter.unusedVariables false

theorem itemsQ_mk {w0 : World} {ts : List Tk} {tv : Value} {g : Nat} {own : List Nat} {st : PS} {d : Nat} {w : World} {en : Ending} {w' : World} {r : Except Nat PS} (h : ItemsR ts d st r) (h' : AtomQ w0 ts tv g own d w r en w') : ItemsQ w0 ts tv g own st d w en w' := ⟨r, h, h'⟩
/-- Where a round of items stands. -/
structure ItI (w0 : World) (ts : List Tk) (tv : Value) (g : Nat) (own : List Nat) (st : PS) (d : Nat) (w : World) (own1 : List Nat) (s : PS) (W : World) : Prop where
  rd : RdP w0 ts tv g own1 s d (edgesOf s.atoms) W
  chg : Chg own w own1 W
  so : ∀ r, ItemsR ts d s r → ItemsR ts d st r
  bd : Bd s
  few : s.atoms.length ≤ 39
set_option maxRecDepth 100000 in
set_option maxHeartbeats 2000000 in
theorem items_at {w0 : World} {ts : List Tk} {tv : Value} {g : Nat} {d : Nat} (hl : ts.length ≤ 1000000) (hd : d ≤ 4) (hi : d ≠ 4 → ItemsOK w0 ts tv g (d + 1)) : ItemsOK w0 ts tv g d := by
  intro own st w h hb ha
  have hst : ItI w0 ts tv g own st d w own st w := ⟨h, Chg.refl own w, fun r hr => hr, hb, ha⟩
  have HST := Lib.hid hst
  have HI := Lib.hid hi
  have hp0 : st.p ≤ ts.length := by obtain ⟨_, _, _, hj⟩ := h; exact hj.rd.le
  clear h hb ha hst hi
  go_enter Try.func51, Try.ntmps51
  go_wp2_with fail
  go_step3
  go_wp2_with fail
  go_step3
  go_wp2_with fail
  go_loopg [5] (ts.length - st.p) (fun gg s5 wi => ∃ (own1 : List Nat) (s : PS), s.p ≤ ts.length ∧ gg = ts.length - s.p ∧ Hid (ItI w0 ts tv g own st d w own1 s wi))
  case atStart => exact ⟨own, st, hp0, rfl, HST⟩
  case round =>
    obtain ⟨own1, ⟨p, atoms, vars⟩, hp, hgg, hh⟩ := hrel
    have Hg := Lib.hid hgg
    dsimp only at hp Hg
    clear hgg HST
    have HIT := Lib.hid (item_any hh.out.rd hl hh.out.bd hh.out.few hd HI.out)
    go_wp2_with fail
    refine HIT.out.mono ?_
    rintro en w1 ⟨r, hir, haq⟩
    clear HIT
    cases r with
    | error q =>
      have HBAD := Lib.hid (BadI.from_ hh.out.chg (show BadI w0 ts tv g own1 wr q en w1 from haq))
      have HIR := Lib.hid hir
      obtain ⟨rfl, hb2⟩ := HBAD.out
      clear hb2 hir haq
      unfold wrongE
      go_wp2_with fail
      exact ⟨rfl, itemsQ_mk (hh.out.so _ (.bad HIR.out)) (atomQ_bad rfl HBAD.out)⟩
    | ok s =>
      obtain ⟨p5, atoms5, vars5⟩ := s
      obtain ⟨rfl, own5, ⟨av5, vv5, m5, hj9⟩, hc9⟩ := haq
      obtain ⟨hg1, hg2, hg3⟩ := hir.good rfl hh.out.bd hh.out.few
      dsimp only at hj9 hg1 hg3
      have HIR := Lib.hid hir
      have HG2 := Lib.hid hg2
      have HJ := Lib.hid hj9
      have HC := Lib.hid (hh.out.chg.trans hc9)
      obtain ⟨ava, avc, rfl⟩ := own_vw hj9.atoms
      clear hir hg2 hj9 hc9
      have f0 : w1.cell? ⟨g, 0, none⟩ = some (.slice ava atoms5.length avc) := HJ.out.rd.row.cell (i := 0) rfl
      by_cases h40 : atoms5.length = 40
      · have h40b : ((atoms5.length : Int) == 40) = true := by rw [h40]; rfl
        have H40 := Lib.hid h40
        clear h40
        go_wp2_with fail
        go_end0
        exact itemsQ_mk (hh.out.so _ (.last HIR.out (.inl H40.out))) (atomQ_ok rfl rfl HJ.out HC.out)
      · have h40b : ((atoms5.length : Int) == 40) = false := by simp; omega
        have H40 := Lib.hid h40
        by_cases k6 : kindAt ts p5 = 6
        · have K6 := Lib.hid k6
          have hlt6 : p5 < ts.length := takeP_lt (by decide) k6
          have hfew : atoms5.length ≤ 39 := by omega
          clear k6 h40
          go_wp2_with fail
          refine (may_yes HJ.out K6.out (by decide) hl).mono ?_
          rintro en w2 ⟨rfl, hj9, hc9⟩
          have HNX : Hid (ItI w0 ts tv g own st d w own5 ⟨p5 + 1, atoms5, vars5⟩ w2) := Lib.hid ⟨⟨_, _, _, hj9⟩, HC.out.trans hc9, fun r hr => hh.out.so r (.more HIR.out (fun h => h.elim H40.out (fun h => h K6.out)) hr), HG2.out, hfew⟩
          clear hj9 hc9 f0
          go_wp2_with fail
          go_roundg (ts.length - (p5 + 1))
          case measure => have := Hg.out; omega
          case rel => exact ⟨own5, ⟨p5 + 1, atoms5, vars5⟩, by dsimp only; omega, rfl, HNX⟩
        · have K6 := Lib.hid k6
          clear k6 h40
          go_wp2_with fail
          refine (may_no HJ.out K6.out (by decide) hl).mono ?_
          rintro en w2 ⟨rfl, hj9, hc9⟩
          have HJ2 := Lib.hid hj9
          have HC2 := Lib.hid (HC.out.trans hc9)
          clear hj9 hc9 f0
          go_wp2_with fail
          go_end0
          exact itemsQ_mk (hh.out.so _ (.last HIR.out (.inr K6.out))) (atomQ_ok rfl rfl HJ2.out HC2.out)
theorem items_any {w0 : World} {ts : List Tk} {tv : Value} {g : Nat} (hl : ts.length ≤ 1000000) : ∀ k d, d + k = 4 → ItemsOK w0 ts tv g d
  | 0, d, h => items_at hl (by omega) (fun hn => absurd (by omega) hn)
  | k + 1, d, h => items_at hl (by omega) (fun _ => items_any hl k (d + 1) (by omega))
end Go.Proofs.Ytngnplghjaojhaa
