/- Items are read. -/
import Derived.Test.YthoneahamnmjlaaGreatDoorGp12
import Derived.Test.YthoneahamnmjlaaGreatDoorGp11
import Derived.Test.YthoneahamnmjlaaGreatDoorGp08
import Derived.Test.YthoneahamnmjlaaGreatDoorGp06
import Derived.Test.YthoneahamnmjlaaGreatDoorGp02
import Derived.Test.YthoneahamnmjlaaGreatDoorGp00
import Derived.Test.YthoneahamnmjlaaGreatDoorGp03
import Derived.Test.YthoneahamnmjlaaGreatDoorGp07
import Derived.Test.YthoneahamnmjlaaGreatDoorGp09
import Derived.Laws.StructEq
namespace Go.Proofs.YthoneahamnmjlaaGreatDoor
set_option maxRecDepth 100000
set_option maxHeartbeats 2000000
set_option linter.unusedSimpArgs false
open Go.RowKit Go.Shelf Go.Sort
attribute [local go_sem] Oper.semAt_some wide_fn wide_depth
set_option linter.unusedVariables false

def ItemQ (w0 : World) (ts : List Tk) (tv : Value) (g : Nat) (own : List Nat) (st : PS) (d : Nat) (w : World) (en : Ending) (w' : World) : Prop := ∃ r, ItemR ts d st r ∧ AtomQ w0 ts tv g own d w r en w'
def ItemsQ (w0 : World) (ts : List Tk) (tv : Value) (g : Nat) (own : List Nat) (st : PS) (d : Nat) (w : World) (en : Ending) (w' : World) : Prop := ∃ r, ItemsR ts d st r ∧ AtomQ w0 ts tv g own d w r en w'
/-- Items at a depth are read as they ought to. -/
def ItemsOK (w0 : World) (ts : List Tk) (tv : Value) (g : Nat) (d : Nat) : Prop := ∀ (own : List Nat) (st : PS) (w : World), RdP w0 ts tv g own st d (edgesOf st.atoms) w → Bd st → st.atoms.length ≤ 39 →
    Calls Tryz.prog 96 #[.pointer (some ⟨g, 0, none⟩)] w (ItemsQ w0 ts tv g own st d w)
theorem itemQ_mk {w0 : World} {ts : List Tk} {tv : Value} {g : Nat} {own : List Nat} {st : PS} {d : Nat} {w : World} {en : Ending} {w' : World} {r : Except Nat PS} (h : ItemR ts d st r) (h' : AtomQ w0 ts tv g own d w r en w') : ItemQ w0 ts tv g own st d w en w' := ⟨r, h, h'⟩
set_option maxRecDepth 100000 in
set_option maxHeartbeats 2000000 in
theorem item_any {w0 : World} {ts : List Tk} {tv : Value} {g : Nat} {own : List Nat} {p : Nat} {atoms : List Atm} {vars : List ByteArray} {d : Nat} {w : World} (h : RdP w0 ts tv g own ⟨p, atoms, vars⟩ d (edgesOf atoms) w) (hl : ts.length ≤ 1000000) (hb : Bd ⟨p, atoms, vars⟩) (ha : atoms.length ≤ 39) (hd : d ≤ 4)
    (hi : d ≠ 4 → ItemsOK w0 ts tv g (d + 1)) :
    Calls Tryz.prog 116 #[.pointer (some ⟨g, 0, none⟩)] w (ItemQ w0 ts tv g own ⟨p, atoms, vars⟩ d w) := by
  obtain ⟨av, vv, m, hj⟩ := h
  have HJ := Lib.hid hj
  have HI := Lib.hid hi
  have HBD := Lib.hid hb
  have HC : Hid (Chg own w own w) := Lib.hid (Chg.refl own w)
  clear hj hi hb
  by_cases k4 : kindAt ts p = 4
  · have K4 := Lib.hid k4
    clear k4
    go_enter Tryz.func116, Tryz.ntmps116
    go_wp2_with fail
    refine (take_yes HJ.out K4.out (by decide) hl).mono ?_
    rintro en w1 ⟨rfl, hj9, hc9⟩
    replace HC := Lib.hid (HC.out.trans hc9)
    clear HJ
    have HJ := Lib.hid hj9
    have HK := Lib.hid (kind_any hj9.rd)
    clear hj9 hc9
    by_cases k44 : kindAt ts (p + 1) = 4
    · have hkb : (kindAt ts (p + 1) != 4) = false := by simp [k44]
      have K44 := Lib.hid k44
      dsimp only at HK
      rw [k44] at HK
      clear k44 hkb
      go_wp2_with fail
      refine HK.out.mono ?_
      rintro en w2 ⟨rfl, hx2⟩
      replace HC := Lib.hid (HC.out.trans (Chg.ext hx2))
      have hj9 := HJ.out.grow hx2
      clear HJ HK
      have HJ := Lib.hid hj9
      clear hj9 hx2
      have g10 : w2.cell? ⟨g, 10, none⟩ = some (.int .i64 d) := HJ.out.rd.row.cell (i := 10) rfl
      by_cases hd4 : d = 4
      · have hdb : ((d : Int) == 4) = true := by simp [hd4]
        have HD4 := Lib.hid hd4
        clear hd4
        go_wp2_with fail
        refine (bad_at HJ.out 0 (Nat.zero_le _) hl).mono ?_
        rintro en w9 hbad
        have HBAD := Lib.hid (BadI.from_ HC.out hbad)
        obtain ⟨rfl, hb2⟩ := hbad
        clear hb2
        unfold wrongE
        go_wp2_with fail
        exact ⟨rfl, itemQ_mk (.deep K4.out K44.out HD4.out) HBAD.out⟩
      · have hdb : ((d : Int) == 4) = false := by simp; omega
        have HD4 := Lib.hid hd4
        clear hd4
        have g10f := HJ.out.rd.row.frozen 10
        obtain ⟨hj9, hc9⟩ := HJ.out.depth (d + 1)
        have hcast : ((d + 1 : Nat) : Int) = (d : Int) + 1 := by omega
        rw [hcast] at hj9 hc9
        replace HC := Lib.hid (HC.out.trans hc9)
        clear HJ
        have HJ := Lib.hid hj9
        clear hj9 hc9 hcast
        go_upto_region 6 with fail
        clear g10 g10f hdb
        generalize w2.setCell ⟨g, 10, none⟩ (.int .i64 ((d : Int) + 1)) = w3 at *
        have HIT := Lib.hid (HI.out HD4.out own ⟨p + 1, atoms, vars⟩ w3 ⟨_, _, _, HJ.out⟩ HBD.out ha)
        go_wp2_with fail
        refine HIT.out.mono ?_
        rintro en w4 ⟨r, hir, haq⟩
        clear HIT HI
        cases r with
        | error q =>
          have HBAD := Lib.hid (BadI.from_ HC.out haq)
          have HIR := Lib.hid hir
          obtain ⟨rfl, hb2⟩ := haq
          clear hb2 hir
          unfold wrongE
          go_wp2_with fail
          exact ⟨rfl, itemQ_mk (.bad K4.out K44.out HD4.out HIR.out) HBAD.out⟩
        | ok s =>
          obtain ⟨p5, atoms5, vars5⟩ := s
          obtain ⟨rfl, own5, ⟨av5, vv5, m5, hj9⟩, hc9⟩ := haq
          have HIR := Lib.hid hir
          replace HC := Lib.hid (HC.out.trans hc9)
          clear HJ hir
          have HJ := Lib.hid hj9
          clear hj9 hc9
          have g10 : w4.cell? ⟨g, 10, none⟩ = some (.int .i64 (d + 1 : Nat)) := HJ.out.rd.row.cell (i := 10) rfl
          have g10f := HJ.out.rd.row.frozen 10
          obtain ⟨hj9, hc9⟩ := HJ.out.depth d
          have hcast : ((d + 1 : Nat) : Int) = (d : Int) + 1 := by omega
          rw [hcast] at g10
          replace HC := Lib.hid (HC.out.trans hc9)
          clear HJ
          have HJ := Lib.hid hj9
          clear hj9 hc9 hcast
          have hsub : (d : Int) + 1 - 1 = d := by omega
          have hwr : IntKind.i64.wrap (d : Int) = (d : Int) := IntWalk.i64_in _ (by omega)
          go_wp2_with fail
          clear g10 g10f hsub hwr
          generalize w4.setCell ⟨g, 10, none⟩ (.int .i64 (d : Int)) = w5 at *
          by_cases k5 : kindAt ts p5 = 5
          · have K5 := Lib.hid k5
            clear k5
            refine (take_yes HJ.out K5.out (by decide) hl).mono ?_
            rintro en w6 ⟨rfl, hj9, hc9⟩
            have HC6 := Lib.hid (HC.out.trans hc9)
            have HJ6 := Lib.hid hj9
            clear hj9 hc9 HJ HC
            go_wp2_with fail
            go_end0
            exact itemQ_mk (.group K4.out K44.out HD4.out HIR.out) (atomQ_ok (by unfold takeP; dsimp only; rw [if_pos K5.out]; rfl) rfl HJ6.out HC6.out)
          · have K5 := Lib.hid k5
            clear k5
            refine (take_no HJ.out K5.out (by decide) hl).mono ?_
            rintro en w9 hbad
            have HBAD := Lib.hid (BadI.from_ HC.out hbad)
            obtain ⟨rfl, hb2⟩ := hbad
            clear hb2
            unfold wrongE
            go_wp2_with fail
            exact ⟨rfl, itemQ_mk (.group K4.out K44.out HD4.out HIR.out) (atomQ_bad (by unfold takeP; dsimp only; rw [if_neg K5.out]; rfl) HBAD.out)⟩
    · have hkb : (kindAt ts (p + 1) != 4) = true := by simp [k44]
      have K44 := Lib.hid k44
      dsimp only at HK
      generalize kindAt ts (p + 1) = kk at HK hkb
      clear k44
      go_wp2_with fail
      refine HK.out.mono ?_
      rintro en w2 ⟨rfl, hx2⟩
      replace HC := Lib.hid (HC.out.trans (Chg.ext hx2))
      have hj9 := HJ.out.grow hx2
      clear HJ HK
      have HJ := Lib.hid hj9
      clear hj9 hx2
      have HAT := Lib.hid (atom_any (p := p + 1) ⟨_, _, _, HJ.out⟩ hl HBD.out.1 ha HBD.out.2)
      cases hap : atomP ts ⟨p + 1, atoms, vars⟩ with
      | error q =>
        have HAP := Lib.hid hap
        rw [hap] at HAT
        clear hap
        go_wp2_with fail
        refine HAT.out.mono ?_
        rintro en w9 hbad
        have HBAD := Lib.hid (BadI.from_ HC.out (show BadI w0 ts tv g own w2 q en w9 from hbad))
        obtain ⟨rfl, hb2⟩ := HBAD.out
        clear hb2 hbad
        unfold wrongE
        go_wp2_with fail
        exact ⟨rfl, itemQ_mk (.atom K4.out K44.out) (atomQ_bad HAP.out HBAD.out)⟩
      | ok s =>
        have HAP := Lib.hid hap
        rw [hap] at HAT
        clear hap
        go_wp2_with fail
        refine HAT.out.mono ?_
        rintro en w4 haq
        obtain ⟨rfl, own5, ⟨av5, vv5, m5, hj9⟩, hc9⟩ := haq
        have HC6 := Lib.hid (HC.out.trans hc9)
        have HJ6 := Lib.hid hj9
        clear hj9 hc9 HJ HC HAT
        go_wp2_with fail
        go_end0
        exact itemQ_mk (.atom K4.out K44.out) (atomQ_ok HAP.out rfl HJ6.out HC6.out)
  · have K4 := Lib.hid k4
    clear k4
    go_enter Tryz.func116, Tryz.ntmps116
    go_wp2_with fail
    refine (take_no HJ.out K4.out (by decide) hl).mono ?_
    rintro en w9 hbad
    have HBAD := Lib.hid (BadI.from_ HC.out hbad)
    obtain ⟨rfl, hb2⟩ := hbad
    clear hb2
    unfold wrongE
    go_wp2_with fail
    exact ⟨rfl, itemQ_mk (.no K4.out) (atomQ_bad rfl HBAD.out)⟩
end Go.Proofs.YthoneahamnmjlaaGreatDoor

/- Items are read, at every depth. -/
namespace Go.Proofs.YthoneahamnmjlaaGreatDoor
set_option maxRecDepth 100000
set_option maxHeartbeats 2000000
set_option linter.unusedSimpArgs false
open Go.RowKit Go.Shelf Go.Sort
attribute [local go_sem] Oper.semAt_some wide_fn wide_depth
set_option linter.unusedVariables false

theorem itemsQ_mk {w0 : World} {ts : List Tk} {tv : Value} {g : Nat} {own : List Nat} {st : PS} {d : Nat} {w : World} {en : Ending} {w' : World} {r : Except Nat PS} (h : ItemsR ts d st r) (h' : AtomQ w0 ts tv g own d w r en w') : ItemsQ w0 ts tv g own st d w en w' := ⟨r, h, h'⟩
/-- Where a round of items stands. -/
structure ItI (w0 : World) (ts : List Tk) (tv : Value) (g : Nat) (own : List Nat) (st : PS) (d : Nat) (w : World) (own1 : List Nat) (s : PS) (W : World) : Prop where
  rd : RdP w0 ts tv g own1 s d (edgesOf s.atoms) W
  chg : Chg own w own1 W
  so : ∀ r, ItemsR ts d s r → ItemsR ts d st r
  bd : Bd s
  few : s.atoms.length ≤ 39
set_option maxRecDepth 100000 in
set_option maxHeartbeats 2000000 in
theorem items_at {w0 : World} {ts : List Tk} {tv : Value} {g : Nat} {d : Nat} (hl : ts.length ≤ 1000000) (hd : d ≤ 4) (hi : d ≠ 4 → ItemsOK w0 ts tv g (d + 1)) : ItemsOK w0 ts tv g d := by
  intro own st w h hb ha
  have hst : ItI w0 ts tv g own st d w own st w := ⟨h, Chg.refl own w, fun r hr => hr, hb, ha⟩
  have HST := Lib.hid hst
  have HI := Lib.hid hi
  have hp0 : st.p ≤ ts.length := by obtain ⟨_, _, _, hj⟩ := h; exact hj.rd.le
  clear h hb ha hst hi
  go_enter Tryz.func96, Tryz.ntmps96
  go_wp2_with fail
  go_step3
  go_wp2_with fail
  go_step3
  go_wp2_with fail
  go_loopg [5] (ts.length - st.p) (fun gg s5 wi => ∃ (own1 : List Nat) (s : PS), s.p ≤ ts.length ∧ gg = ts.length - s.p ∧ Hid (ItI w0 ts tv g own st d w own1 s wi))
  case atStart => exact ⟨own, st, hp0, rfl, HST⟩
  case round =>
    obtain ⟨own1, ⟨p, atoms, vars⟩, hp, hgg, hh⟩ := hrel
    have Hg := Lib.hid hgg
    dsimp only at hp Hg
    clear hgg HST
    have HIT := Lib.hid (item_any hh.out.rd hl hh.out.bd hh.out.few hd HI.out)
    go_wp2_with fail
    refine HIT.out.mono ?_
    rintro en w1 ⟨r, hir, haq⟩
    clear HIT
    cases r with
    | error q =>
      have HBAD := Lib.hid (BadI.from_ hh.out.chg (show BadI w0 ts tv g own1 wr q en w1 from haq))
      have HIR := Lib.hid hir
      obtain ⟨rfl, hb2⟩ := HBAD.out
      clear hb2 hir haq
      unfold wrongE
      go_wp2_with fail
      exact ⟨rfl, itemsQ_mk (hh.out.so _ (.bad HIR.out)) (atomQ_bad rfl HBAD.out)⟩
    | ok s =>
      obtain ⟨p5, atoms5, vars5⟩ := s
      obtain ⟨rfl, own5, ⟨av5, vv5, m5, hj9⟩, hc9⟩ := haq
      obtain ⟨hg1, hg2, hg3⟩ := hir.good rfl hh.out.bd hh.out.few
      dsimp only at hj9 hg1 hg3
      have HIR := Lib.hid hir
      have HG2 := Lib.hid hg2
      have HJ := Lib.hid hj9
      have HC := Lib.hid (hh.out.chg.trans hc9)
      obtain ⟨ava, avc, rfl⟩ := own_vw hj9.atoms
      clear hir hg2 hj9 hc9
      have f0 : w1.cell? ⟨g, 0, none⟩ = some (.slice ava atoms5.length avc) := HJ.out.rd.row.cell (i := 0) rfl
      by_cases h40 : atoms5.length = 40
      · have h40b : ((atoms5.length : Int) == 40) = true := by rw [h40]; rfl
        have H40 := Lib.hid h40
        clear h40
        go_wp2_with fail
        go_end0
        exact itemsQ_mk (hh.out.so _ (.last HIR.out (.inl H40.out))) (atomQ_ok rfl rfl HJ.out HC.out)
      · have h40b : ((atoms5.length : Int) == 40) = false := by simp; omega
        have H40 := Lib.hid h40
        by_cases k6 : kindAt ts p5 = 6
        · have K6 := Lib.hid k6
          have hlt6 : p5 < ts.length := takeP_lt (by decide) k6
          have hfew : atoms5.length ≤ 39 := by omega
          clear k6 h40
          go_wp2_with fail
          refine (may_yes HJ.out K6.out (by decide) hl).mono ?_
          rintro en w2 ⟨rfl, hj9, hc9⟩
          have HNX : Hid (ItI w0 ts tv g own st d w own5 ⟨p5 + 1, atoms5, vars5⟩ w2) := Lib.hid ⟨⟨_, _, _, hj9⟩, HC.out.trans hc9, fun r hr => hh.out.so r (.more HIR.out (fun h => h.elim H40.out (fun h => h K6.out)) hr), HG2.out, hfew⟩
          clear hj9 hc9 f0
          go_wp2_with fail
          go_roundg (ts.length - (p5 + 1))
          case measure => have := Hg.out; omega
          case rel => exact ⟨own5, ⟨p5 + 1, atoms5, vars5⟩, by dsimp only; omega, rfl, HNX⟩
        · have K6 := Lib.hid k6
          clear k6 h40
          go_wp2_with fail
          refine (may_no HJ.out K6.out (by decide) hl).mono ?_
          rintro en w2 ⟨rfl, hj9, hc9⟩
          have HJ2 := Lib.hid hj9
          have HC2 := Lib.hid (HC.out.trans hc9)
          clear hj9 hc9 f0
          go_wp2_with fail
          go_end0
          exact itemsQ_mk (hh.out.so _ (.last HIR.out (.inr K6.out))) (atomQ_ok rfl rfl HJ2.out HC2.out)
theorem items_any {w0 : World} {ts : List Tk} {tv : Value} {g : Nat} (hl : ts.length ≤ 1000000) : ∀ k d, d + k = 4 → ItemsOK w0 ts tv g d
  | 0, d, h => items_at hl (by omega) (fun hn => absurd (by omega) hn)
  | k + 1, d, h => items_at hl (by omega) (fun _ => items_any hl k (d + 1) (by omega))
end Go.Proofs.YthoneahamnmjlaaGreatDoor

/- The document's state: the kind of a token, and taking it. -/
namespace Go.Proofs.YthoneahamnmjlaaGreatDoor
set_option maxRecDepth 100000
set_option maxHeartbeats 2000000
set_option linter.unusedSimpArgs false
open Go.RowKit Go.Shelf Go.Sort
attribute [local go_sem] Oper.semAt_some wide_fn wide_depth
set_option linter.unusedVariables false

end Go.Proofs.YthoneahamnmjlaaGreatDoor

/- The document's state: a token is taken. -/
namespace Go.Proofs.YthoneahamnmjlaaGreatDoor
set_option maxRecDepth 100000
set_option maxHeartbeats 2000000
set_option linter.unusedSimpArgs false
open Go.RowKit Go.Shelf Go.Sort
attribute [local go_sem] Oper.semAt_some wide_fn wide_depth
set_option linter.unusedVariables false

end Go.Proofs.YthoneahamnmjlaaGreatDoor

/- The document's state: the token that is looked for is taken. -/
namespace Go.Proofs.YthoneahamnmjlaaGreatDoor
set_option maxRecDepth 100000
set_option maxHeartbeats 2000000
set_option linter.unusedSimpArgs false
open Go.RowKit Go.Shelf Go.Sort
attribute [local go_sem] Oper.semAt_some wide_fn wide_depth
set_option linter.unusedVariables false
end Go.Proofs.YthoneahamnmjlaaGreatDoor

/- The document's state: is a word told here? -/
namespace Go.Proofs.YthoneahamnmjlaaGreatDoor
set_option maxRecDepth 100000
set_option maxHeartbeats 2000000
set_option linter.unusedSimpArgs false
open Go.RowKit Go.Shelf Go.Sort
attribute [local go_sem] Oper.semAt_some wide_fn wide_depth
set_option linter.unusedVariables false
theorem str_dec (x y : ByteArray) : (x.toList == y.toList) = decide (x = y) := by
  by_cases h : x = y
  · rw [str_yes h, decide_eq_true h]
  · rw [str_no h, decide_eq_false h]
end Go.Proofs.YthoneahamnmjlaaGreatDoor

/- The document: is a text among others? -/
namespace Go.Proofs.YthoneahamnmjlaaGreatDoor
set_option maxRecDepth 100000
set_option maxHeartbeats 2000000
set_option linter.unusedSimpArgs false
open Go.RowKit Go.Shelf Go.Sort
attribute [local go_sem] Oper.semAt_some wide_fn wide_depth
set_option linter.unusedVariables false
end Go.Proofs.YthoneahamnmjlaaGreatDoor

/- A new row of another's elements and one more, made in any order. -/
namespace Go.Proofs.YthoneahamnmjlaaGreatDoor
set_option maxRecDepth 100000
set_option maxHeartbeats 2000000
set_option linter.unusedSimpArgs false
open Go.RowKit Go.Shelf Go.Sort
attribute [local go_sem] Oper.semAt_some wide_fn wide_depth
set_option linter.unusedVariables false
section
variable {w0 : World} {e : TypeId} {sz n : Nat} {xs ys : List Value} {v px nm : Value} {S : Nat → Bool} {us : List Value} {u0 u1 u2 u3 u4 u5 u6 u7 : Value} {W : World}
end
end Go.Proofs.YthoneahamnmjlaaGreatDoor

/- The document: variables with that of a term. -/
namespace Go.Proofs.YthoneahamnmjlaaGreatDoor
set_option maxRecDepth 100000
set_option maxHeartbeats 2000000
set_option linter.unusedSimpArgs false
open Go.RowKit Go.Shelf Go.Sort
attribute [local go_sem] Oper.semAt_some wide_fn wide_depth
set_option linter.unusedVariables false
theorem nil_yes {x : ByteArray} (h : x = nilB) : x.toList.isEmpty = true := by rw [ByteArray.toList_eq, h]; rfl
theorem nil_no {x : ByteArray} (h : x ≠ nilB) : x.toList.isEmpty = false := by
  rw [ByteArray.toList_eq]
  cases hd : x.data.toList with
  | nil => exact absurd (bts_inj (show bts x = bts nilB from hd)) h
  | cons a r => rfl
def termS (T : List ByteArray) (t : Bool × ByteArray) : List ByteArray := if t.1 = true ∨ t.2 = nilB ∨ hasB t.2 T = true then T else T ++ [t.2]
end Go.Proofs.YthoneahamnmjlaaGreatDoor

/- The document: how many atoms are edges. -/
namespace Go.Proofs.YthoneahamnmjlaaGreatDoor
set_option maxRecDepth 100000
set_option maxHeartbeats 2000000
set_option linter.unusedSimpArgs false
open Go.RowKit Go.Shelf Go.Sort
attribute [local go_sem] Oper.semAt_some wide_fn wide_depth
set_option linter.unusedVariables false
/-- Atoms in memory. -/
def Ats (w : World) (v : Value) (l : List Atm) : Prop := Sl w v l.length (l.flatMap atCells)
theorem Ats.ext {w w' : World} {v : Value} {l : List Atm} (h : Ats w v l) (hx : Ext w w') : Ats w' v l := Sl.ext h hx
theorem Ats.shape {w : World} {v : Value} {l : List Atm} (h : Ats w v l) : ∃ a c, v = .slice a l.length c ∧ l.length ≤ c ∧ c ≤ 9223372036854775807 := Sl.shape h
theorem Ats.at_ {w : World} {a : Option Addr} {n c : Nat} {l : List Atm} (h : Ats w (.slice a n c) l) {k : Nat} (hk : k < l.length) : ∃ b o, a = some ⟨b, o, none⟩ ∧
    w.cell? ⟨b, o + k * 7, none⟩ = some (.int .i64 l[k].kind) ∧ w.cell? ⟨b, o + k * 7 + 1, none⟩ = some (.bool l[k].fk) ∧ w.cell? ⟨b, o + k * 7 + 2, none⟩ = some (.string l[k].fn) ∧
    w.cell? ⟨b, o + k * 7 + 3, none⟩ = some (.string l[k].name) ∧ w.cell? ⟨b, o + k * 7 + 4, none⟩ = some (.string l[k].value) ∧ w.cell? ⟨b, o + k * 7 + 5, none⟩ = some (.bool l[k].tk) ∧ w.cell? ⟨b, o + k * 7 + 6, none⟩ = some (.string l[k].tn) := by
  obtain ⟨a', c', e, _, _, hc⟩ := id h
  simp only [Value.slice.injEq] at e
  obtain ⟨rfl, _, rfl⟩ := e
  have hlen := flatMap_len atCells 7 (fun _ => rfl) l
  obtain ⟨b, o, rfl, hcell⟩ := hc (by omega)
  have hh := fun j (hj : j < 7) => flatMap_at atCells 7 (fun _ => rfl) l k j hk hj
  exact ⟨b, o, rfl, hcell _ _ (hh 0 (by omega)), by rw [Nat.add_assoc]; exact hcell _ _ (hh 1 (by omega)), by rw [Nat.add_assoc]; exact hcell _ _ (hh 2 (by omega)), by rw [Nat.add_assoc]; exact hcell _ _ (hh 3 (by omega)), by rw [Nat.add_assoc]; exact hcell _ _ (hh 4 (by omega)), by rw [Nat.add_assoc]; exact hcell _ _ (hh 5 (by omega)), by rw [Nat.add_assoc]; exact hcell _ _ (hh 6 (by omega))⟩
theorem edgesOf_take (l : List Atm) (j : Nat) (h : j < l.length) : edgesOf (l.take (j + 1)) = edgesOf (l.take j) + (if l[j].kind = 4 then 1 else 0) := by
  unfold edgesOf
  rw [List.take_succ_eq_append_getElem h, List.filter_append, List.length_append]
  by_cases h4 : l[j].kind = 4 <;> simp [h4]
end Go.Proofs.YthoneahamnmjlaaGreatDoor

/- The document: the variables of atoms. -/
namespace Go.Proofs.YthoneahamnmjlaaGreatDoor
set_option maxRecDepth 100000
set_option maxHeartbeats 2000000
set_option linter.unusedSimpArgs false
open Go.RowKit Go.Shelf Go.Sort
attribute [local go_sem] Oper.semAt_some wide_fn wide_depth
set_option linter.unusedVariables false
def varsS (l : List Atm) : List ByteArray := l.foldl (fun T a => termS (termS T (a.fk, a.fn)) (a.tk, a.tn)) []
theorem termS_len (T : List ByteArray) (t : Bool × ByteArray) : (termS T t).length ≤ T.length + 1 := by
  unfold termS
  split
  · omega
  · simp
theorem varsS_take (l : List Atm) (j : Nat) (h : j < l.length) : varsS (l.take (j + 1)) = termS (termS (varsS (l.take j)) (l[j].fk, l[j].fn)) (l[j].tk, l[j].tn) := by
  unfold varsS
  rw [List.take_succ_eq_append_getElem h, List.foldl_append]
  rfl
theorem varsS_take_len (l : List Atm) : ∀ j, j ≤ l.length → (varsS (l.take j)).length ≤ 2 * j
  | 0, _ => by simp [varsS]
  | j + 1, h => by
    have ih := varsS_take_len l j (by omega)
    have h1 := termS_len (varsS (l.take j)) (l[j].fk, l[j].fn)
    have h2 := termS_len (termS (varsS (l.take j)) (l[j].fk, l[j].fn)) (l[j].tk, l[j].tn)
    rw [varsS_take l j h]
    omega
end Go.Proofs.YthoneahamnmjlaaGreatDoor

/- Words. -/
namespace Go.Proofs.YthoneahamnmjlaaGreatDoor
set_option maxRecDepth 100000
set_option maxHeartbeats 2000000
set_option linter.unusedSimpArgs false
open Go.RowKit Go.Shelf Go.Sort
attribute [local go_sem] Oper.semAt_some wide_fn wide_depth
set_option linter.unusedVariables false

def wordB (s : ByteArray) : Bool := Tk.check ⟨1, s, 0⟩
def worthB (s : ByteArray) : Bool := Tk.check ⟨3, s, 0⟩
theorem wordB_all (s : ByteArray) : allB letterC 1 32 (bts s) = wordB s := by
  unfold wordB Tk.check
  rw [← right_check]
  unfold rightB
  simp
theorem worthB_all (s : ByteArray) : allB quotedC 0 40 (bts s) = worthB s := by
  unfold worthB Tk.check
  rw [← right_check]
  unfold rightB
  simp
theorem notWord_any (s : ByteArray) (w : World) (hs : s.size ≤ 9223372036854775800) :
    Calls Tryz.prog 86 #[.string s] w fun e w' => e = .returned (.bool (!wordB s)) ∧ Ext w w' := by
  cases hb : wordB s with
  | true =>
    have HC := Lib.hid (check_yes (t := ⟨1, s, 0⟩) w hs hb)
    unfold tkV at HC
    dsimp only at HC
    clear hb
    go_enter Tryz.func86, Tryz.ntmps86
    go_wp2_with fail
    refine HC.out.mono ?_
    rintro e w' ⟨rfl, hx⟩
    go_wp2
    go_ret
    exact ⟨rfl, hx⟩
  | false =>
    have HC := Lib.hid (check_no (t := ⟨1, s, 0⟩) w hs hb)
    unfold tkV at HC
    dsimp only at HC
    clear hb
    go_enter Tryz.func86, Tryz.ntmps86
    go_wp2_with fail
    refine HC.out.mono ?_
    rintro e w' ⟨rfl, hx⟩
    go_wp2
    go_ret
    exact ⟨rfl, hx⟩
/-- An index, or none. -/
def IdxQ (w : World) (b : Bool) (e : Ending) (w' : World) : Prop := ∃ n : Int, e = .returned (.int .i64 n) ∧ decide (0 ≤ n) = b ∧ -1 ≤ n ∧ n ≤ 9223372036854775807 ∧ Ext w w'
theorem idxW_any (v : Value) (l : List ByteArray) (w : World) (hv : Strs w v l) (hs : ∀ s ∈ l, s.size ≤ 9223372036854775800) :
    Calls Tryz.prog 103 #[v, .func (.func 86) #[] #[]] w (IdxQ w (!l.all wordB)) := by
  obtain ⟨a, c, rfl, hc1, hc2⟩ := Sl.shape hv
  have HV := Lib.hid hv
  have HS := Lib.hid hs
  clear hv hs
  go_enter Tryz.func103, Tryz.ntmps103
  go_wp2_with fail
  go_loopg [8] l.length (fun g i wr => ∃ k : Nat, k ≤ l.length ∧ g = l.length - k ∧ i = .int .i64 k ∧ Ext w wr ∧ Hid (∀ x ∈ l.take k, wordB x = true))
  case atStart => exact ⟨0, Nat.zero_le _, rfl, rfl, Ext.refl _, Lib.hid (by simp)⟩
  case round =>
    obtain ⟨k, hk, hg, rfl, hx, hall⟩ := hrel
    have Hg := Lib.hid hg
    have HX := Lib.hid hx
    clear hg
    by_cases hlt : k < l.length
    · obtain ⟨b, o, rfl, c0⟩ := Strs.at_ (Strs.ext HV.out hx) hlt
      have HC := Lib.hid (notWord_any l[k] wr (HS.out _ (List.getElem_mem hlt)))
      have hsn : l.take (k + 1) = l.take k ++ [l[k]] := List.take_succ_eq_append_getElem hlt
      have hmem := List.getElem_mem hlt
      generalize l[k] = x at *
      have HSN := Lib.hid hsn
      have HM := Lib.hid hmem
      clear hsn hmem hx
      cases hb : wordB x with
      | true =>
        rw [hb] at HC
        have HB := Lib.hid hb
        clear hb
        go_wp2_with fail
        refine HC.out.mono ?_
        rintro e w2 ⟨rfl, hx2⟩
        have HX2 := Lib.hid (HX.out.trans hx2)
        clear hx2 HC c0
        go_wp2_with fail
        go_roundg (l.length - (k + 1))
        case measure => have := Hg.out; omega
        case rel => exact ⟨k + 1, by omega, rfl, by go_num, HX2.out, Lib.hid (by rw [HSN.out]; intro y hy; rcases List.mem_append.1 hy with h | h; exact hall.out y h; rw [List.mem_singleton.1 h]; exact HB.out)⟩
      | false =>
        rw [hb] at HC
        have HB := Lib.hid hb
        clear hb
        go_wp2_with fail
        refine HC.out.mono ?_
        rintro e w2 ⟨rfl, hx2⟩
        have HX2 := Lib.hid (HX.out.trans hx2)
        clear hx2 HC c0
        go_wp2_with fail
        go_ret
        refine ⟨k, rfl, ?_, by omega, by omega, HX2.out⟩
        rw [show l.all wordB = false from List.all_eq_false.2 ⟨x, HM.out, by rw [HB.out]; decide⟩]
        simp
    · have he : k = l.length := by omega
      subst he
      go_wp2_with fail
      go_ret
      refine ⟨-1, rfl, ?_, by omega, by omega, HX.out⟩
      have h := hall.out
      rw [List.take_length] at h
      rw [List.all_eq_true.2 h]
      rfl
theorem hasNotWord_any (v : Value) (l : List ByteArray) (w : World) (hv : Strs w v l) (hs : ∀ s ∈ l, s.size ≤ 9223372036854775800) :
    Calls Tryz.prog 85 #[v, .func (.func 86) #[] #[]] w fun e w' => e = .returned (.bool (!l.all wordB)) ∧ Ext w w' := by
  have HC := Lib.hid (idxW_any v l w hv hs)
  obtain ⟨a, c, rfl, hc1, hc2⟩ := Sl.shape hv
  clear hv hs
  go_enter Tryz.func85, Tryz.ntmps85
  go_wp2_with fail
  refine HC.out.mono ?_
  rintro e w2 ⟨n, rfl, hb, h1, h2, hx2⟩
  have HB := Lib.hid hb
  clear hb
  go_wp2_with fail
  go_ret
  exact ⟨by rw [← HB.out]; rfl, hx2⟩
theorem words_any (v : Value) (l : List ByteArray) (w : World) (hv : Strs w v l) (hs : ∀ s ∈ l, s.size ≤ 9223372036854775800) :
    Calls Tryz.prog 63 #[v] w fun e w' => e = .returned (.bool (l.all wordB)) ∧ Ext w w' := by
  have HC := Lib.hid (hasNotWord_any v l w hv hs)
  obtain ⟨a, c, rfl, hc1, hc2⟩ := Sl.shape hv
  clear hv hs
  go_enter Tryz.func63, Tryz.ntmps63
  go_wp2_with fail
  refine HC.out.mono ?_
  rintro e w2 ⟨rfl, hx2⟩
  go_wp2_with fail
  go_ret
  exact ⟨by simp, hx2⟩
end Go.Proofs.YthoneahamnmjlaaGreatDoor

/- Atoms: held against one another; which may be. -/
namespace Go.Proofs.YthoneahamnmjlaaGreatDoor
set_option maxRecDepth 100000
set_option maxHeartbeats 2000000
set_option linter.unusedSimpArgs false
open Go.RowKit Go.Shelf Go.Sort
set_option linter.unusedVariables false

def Atm.eqB (x y : Atm) : Bool := x.kind == y.kind && ((x.fk == y.fk && x.fn.toList == y.fn.toList) && (x.name.toList == y.name.toList && (x.value.toList == y.value.toList && (x.tk == y.tk && x.tn.toList == y.tn.toList))))
theorem Atm.eqB_iff (x y : Atm) : x.eqB y = true ↔ x = y := by
  obtain ⟨a, b, c, d, e, f, g⟩ := x
  obtain ⟨a', b', c', d', e', f', g'⟩ := y
  unfold Atm.eqB
  simp only [Bool.and_eq_true, str_beq]
  simp [and_assoc]
theorem Atm.eqB_dec (x y : Atm) : x.eqB y = decide (x = y) := by
  by_cases h : x = y
  · rw [decide_eq_true h, (Atm.eqB_iff x y).2 h]
  · rw [decide_eq_false h]
    cases hh : x.eqB y
    · rfl
    · exact absurd ((Atm.eqB_iff x y).1 hh) h
def atV (a : Atm) : Value := .agg #[.int .i64 a.kind, .bool a.fk, .string a.fn, .string a.name, .string a.value, .bool a.tk, .string a.tn]
theorem at_eql (x y : Atm) (w : World) : (Op.equalIn 10000 40 (atV x) (atV y)).run Tryz.prog w = .ok (x.eqB y) w := by
  unfold Atm.eqB atV
  rw [show (10000 : Nat) = 9999 + 1 from rfl, run_equalIn_struct (P := Tryz.prog) w 9999 40 _ _ (by kernel_rfl) (by kernel_rfl)]
  have hf : (Tryz.prog.fieldsOf 40).toList = _ := congrArg Array.toList (show Tryz.prog.fieldsOf 40 = _ by unfold Program.fieldsOf; rw [Tryz.underlying40])
  have hf2 : (Tryz.prog.fieldsOf 38).toList = _ := congrArg Array.toList (show Tryz.prog.fieldsOf 38 = _ by unfold Program.fieldsOf; rw [Tryz.underlying38])
  rw [hf]
  simp [Op.eqFields, go_sem, run_equalIn_int, run_equalIn_string]
  by_cases h1 : x.kind = y.kind
  case neg => simp [h1]
  by_cases h2 : x.fk = y.fk
  case neg => simp [h1, h2]
  by_cases h3 : x.fn.toList = y.fn.toList
  case neg => simp [h1, h2, h3]
  by_cases h4 : x.name.toList = y.name.toList
  case neg => simp [h1, h2, h3, h4]
  by_cases h5 : x.value.toList = y.value.toList
  case neg => simp [h1, h2, h3, h4, h5]
  by_cases h6 : x.tk = y.tk
  case neg => simp [h1, h2, h3, h4, h5, h6]
  by_cases h7 : x.tn.toList = y.tn.toList <;> simp [h1, h2, h3, h4, h5, h6, h7]
theorem at_eqlB (x y : Atm) (w : World) : (binOp .eql 40 (atV x) (atV y)).run Tryz.prog w = .ok (.bool (decide (x = y))) w := by
  rw [← Atm.eqB_dec]
  have h := at_eql x y w
  unfold atV at h ⊢
  rw [run_eql_struct, h]; rfl
theorem at_neqB (x y : Atm) (w : World) : (binOp .neq 40 (atV x) (atV y)).run Tryz.prog w = .ok (.bool (!decide (x = y))) w := by
  rw [← Atm.eqB_dec]
  have h := at_eql x y w
  unfold atV at h ⊢
  rw [run_neq_struct, h]; rfl
/-- May an atom be? -/
def atomB (a : Atm) : Bool :=
  if a.kind = 1 then decide (a.name = nilB) && (decide (a.value = nilB) && (!a.tk && (decide (a.tn = nilB) && wordB a.fn)))
  else if a.kind = 2 then decide (a.value = nilB) && (!a.tk && (decide (a.tn = nilB) && (wordB a.fn && wordB a.name)))
  else if a.kind = 3 then !a.tk && (decide (a.tn = nilB) && (wordB a.fn && (wordB a.name && worthB a.value)))
  else if a.kind = 4 then decide (a.value = nilB) && (wordB a.fn && (wordB a.name && wordB a.tn))
  else false
end Go.Proofs.YthoneahamnmjlaaGreatDoor
