/- Items are read. -/
import Derived.Test.YthoneahamnmjlaaGreatDoorGp12
import Derived.Test.YthoneahamnmjlaaGreatDoorGp11
import Derived.Test.YthoneahamnmjlaaGreatDoorGp08
import Derived.Test.YthoneahamnmjlaaGreatDoorGp06
import Derived.Test.YthoneahamnmjlaaGreatDoorGp02
import Derived.Test.YthoneahamnmjlaaGreatDoorGp00
import Derived.Test.YthoneahamnmjlaaGreatDoorGp03
namespace Go.Proofs.YthoneahamnmjlaaGreatDoor
set_option maxRecDepth 100000
set_option maxHeartbeats 2000000
set_option linter.unusedSimpArgs false
open Go.RowKit Go.Shelf Go.Sort
attribute [local go_sem] Oper.semAt_some wide_fn wide_depth
set_option linter.unusedVariables false

def ItemQ (w0 : World) (ts : List Tk) (tv : Value) (g : Nat) (own : List Nat) (st : PS) (d : Nat) (w : World) (en : Ending) (w' : World) : Prop := ∃ r, ItemR ts d st r ∧ AtomQ w0 ts tv g own d w r en w'
def ItemsQ (w0 : World) (ts : List Tk) (tv : Value) (g : Nat) (own : List Nat) (st : PS) (d : Nat) (w : World) (en : Ending) (w' : World) : Prop := ∃ r, ItemsR ts d st r ∧ AtomQ w0 ts tv g own d w r en w'
/-- Items at a depth are read as they ought to. -/
def ItemsOK (w0 : World) (ts : List Tk) (tv : Value) (g : Nat) (d : Nat) : Prop := ∀ (own : List Nat) (st : PS) (w : World), RdP w0 ts tv g own st d (edgesOf st.atoms) w → Bd st → st.atoms.length ≤ 39 →
    Calls Tryz.prog 96 #[.pointer (some ⟨g, 0, none⟩)] w (ItemsQ w0 ts tv g own st d w)
theorem itemQ_mk {w0 : World} {ts : List Tk} {tv : Value} {g : Nat} {own : List Nat} {st : PS} {d : Nat} {w : World} {en : Ending} {w' : World} {r : Except Nat PS} (h : ItemR ts d st r) (h' : AtomQ w0 ts tv g own d w r en w') : ItemQ w0 ts tv g own st d w en w' := ⟨r, h, h'⟩
set_option maxRecDepth 100000 in
set_option maxHeartbeats 2000000 in
theorem item_any {w0 : World} {ts : List Tk} {tv : Value} {g : Nat} {own : List Nat} {p : Nat} {atoms : List Atm} {vars : List ByteArray} {d : Nat} {w : World} (h : RdP w0 ts tv g own ⟨p, atoms, vars⟩ d (edgesOf atoms) w) (hl : ts.length ≤ 1000000) (hb : Bd ⟨p, atoms, vars⟩) (ha : atoms.length ≤ 39) (hd : d ≤ 4)
    (hi : d ≠ 4 → ItemsOK w0 ts tv g (d + 1)) :
    Calls Tryz.prog 116 #[.pointer (some ⟨g, 0, none⟩)] w (ItemQ w0 ts tv g own ⟨p, atoms, vars⟩ d w) := by
  obtain ⟨av, vv, m, hj⟩ := h
  have HJ := Lib.hid hj
  have HI := Lib.hid hi
  have HBD := Lib.hid hb
  have HC : Hid (Chg own w own w) := Lib.hid (Chg.refl own w)
  clear hj hi hb
  by_cases k4 : kindAt ts p = 4
  · have K4 := Lib.hid k4
    clear k4
    go_enter Tryz.func116, Tryz.ntmps116
    go_wp2_with fail
    refine (take_yes HJ.out K4.out (by decide) hl).mono ?_
    rintro en w1 ⟨rfl, hj9, hc9⟩
    replace HC := Lib.hid (HC.out.trans hc9)
    clear HJ
    have HJ := Lib.hid hj9
    have HK := Lib.hid (kind_any hj9.rd)
    clear hj9 hc9
    by_cases k44 : kindAt ts (p + 1) = 4
    · have hkb : (kindAt ts (p + 1) != 4) = false := by simp [k44]
      have K44 := Lib.hid k44
      dsimp only at HK
      rw [k44] at HK
      clear k44 hkb
      go_wp2_with fail
      refine HK.out.mono ?_
      rintro en w2 ⟨rfl, hx2⟩
      replace HC := Lib.hid (HC.out.trans (Chg.ext hx2))
      have hj9 := HJ.out.grow hx2
      clear HJ HK
      have HJ := Lib.hid hj9
      clear hj9 hx2
      have g10 : w2.cell? ⟨g, 10, none⟩ = some (.int .i64 d) := HJ.out.rd.row.cell (i := 10) rfl
      by_cases hd4 : d = 4
      · have hdb : ((d : Int) == 4) = true := by simp [hd4]
        have HD4 := Lib.hid hd4
        clear hd4
        go_wp2_with fail
        refine (bad_at HJ.out 0 (Nat.zero_le _) hl).mono ?_
        rintro en w9 hbad
        have HBAD := Lib.hid (BadI.from_ HC.out hbad)
        obtain ⟨rfl, hb2⟩ := hbad
        clear hb2
        unfold wrongE
        go_wp2_with fail
        exact ⟨rfl, itemQ_mk (.deep K4.out K44.out HD4.out) HBAD.out⟩
      · have hdb : ((d : Int) == 4) = false := by simp; omega
        have HD4 := Lib.hid hd4
        clear hd4
        have g10f := HJ.out.rd.row.frozen 10
        obtain ⟨hj9, hc9⟩ := HJ.out.depth (d + 1)
        have hcast : ((d + 1 : Nat) : Int) = (d : Int) + 1 := by omega
        rw [hcast] at hj9 hc9
        replace HC := Lib.hid (HC.out.trans hc9)
        clear HJ
        have HJ := Lib.hid hj9
        clear hj9 hc9 hcast
        go_upto_region 6 with fail
        clear g10 g10f hdb
        generalize w2.setCell ⟨g, 10, none⟩ (.int .i64 ((d : Int) + 1)) = w3 at *
        have HIT := Lib.hid (HI.out HD4.out own ⟨p + 1, atoms, vars⟩ w3 ⟨_, _, _, HJ.out⟩ HBD.out ha)
        go_wp2_with fail
        refine HIT.out.mono ?_
        rintro en w4 ⟨r, hir, haq⟩
        clear HIT HI
        cases r with
        | error q =>
          have HBAD := Lib.hid (BadI.from_ HC.out haq)
          have HIR := Lib.hid hir
          obtain ⟨rfl, hb2⟩ := haq
          clear hb2 hir
          unfold wrongE
          go_wp2_with fail
          exact ⟨rfl, itemQ_mk (.bad K4.out K44.out HD4.out HIR.out) HBAD.out⟩
        | ok s =>
          obtain ⟨p5, atoms5, vars5⟩ := s
          obtain ⟨rfl, own5, ⟨av5, vv5, m5, hj9⟩, hc9⟩ := haq
          have HIR := Lib.hid hir
          replace HC := Lib.hid (HC.out.trans hc9)
          clear HJ hir
          have HJ := Lib.hid hj9
          clear hj9 hc9
          have g10 : w4.cell? ⟨g, 10, none⟩ = some (.int .i64 (d + 1 : Nat)) := HJ.out.rd.row.cell (i := 10) rfl
          have g10f := HJ.out.rd.row.frozen 10
          obtain ⟨hj9, hc9⟩ := HJ.out.depth d
          have hcast : ((d + 1 : Nat) : Int) = (d : Int) + 1 := by omega
          rw [hcast] at g10
          replace HC := Lib.hid (HC.out.trans hc9)
          clear HJ
          have HJ := Lib.hid hj9
          clear hj9 hc9 hcast
          have hsub : (d : Int) + 1 - 1 = d := by omega
          have hwr : IntKind.i64.wrap (d : Int) = (d : Int) := IntWalk.i64_in _ (by omega)
          go_wp2_with fail
          clear g10 g10f hsub hwr
          generalize w4.setCell ⟨g, 10, none⟩ (.int .i64 (d : Int)) = w5 at *
          by_cases k5 : kindAt ts p5 = 5
          · have K5 := Lib.hid k5
            clear k5
            refine (take_yes HJ.out K5.out (by decide) hl).mono ?_
            rintro en w6 ⟨rfl, hj9, hc9⟩
            have HC6 := Lib.hid (HC.out.trans hc9)
            have HJ6 := Lib.hid hj9
            clear hj9 hc9 HJ HC
            go_wp2_with fail
            go_end0
            exact itemQ_mk (.group K4.out K44.out HD4.out HIR.out) (atomQ_ok (by unfold takeP; dsimp only; rw [if_pos K5.out]; rfl) rfl HJ6.out HC6.out)
          · have K5 := Lib.hid k5
            clear k5
            refine (take_no HJ.out K5.out (by decide) hl).mono ?_
            rintro en w9 hbad
            have HBAD := Lib.hid (BadI.from_ HC.out hbad)
            obtain ⟨rfl, hb2⟩ := hbad
            clear hb2
            unfold wrongE
            go_wp2_with fail
            exact ⟨rfl, itemQ_mk (.group K4.out K44.out HD4.out HIR.out) (atomQ_bad (by unfold takeP; dsimp only; rw [if_neg K5.out]; rfl) HBAD.out)⟩
    · have hkb : (kindAt ts (p + 1) != 4) = true := by simp [k44]
      have K44 := Lib.hid k44
      dsimp only at HK
      generalize kindAt ts (p + 1) = kk at HK hkb
      clear k44
      go_wp2_with fail
      refine HK.out.mono ?_
      rintro en w2 ⟨rfl, hx2⟩
      replace HC := Lib.hid (HC.out.trans (Chg.ext hx2))
      have hj9 := HJ.out.grow hx2
      clear HJ HK
      have HJ := Lib.hid hj9
      clear hj9 hx2
      have HAT := Lib.hid (atom_any (p := p + 1) ⟨_, _, _, HJ.out⟩ hl HBD.out.1 ha HBD.out.2)
      cases hap : atomP ts ⟨p + 1, atoms, vars⟩ with
      | error q =>
        have HAP := Lib.hid hap
        rw [hap] at HAT
        clear hap
        go_wp2_with fail
        refine HAT.out.mono ?_
        rintro en w9 hbad
        have HBAD := Lib.hid (BadI.from_ HC.out (show BadI w0 ts tv g own w2 q en w9 from hbad))
        obtain ⟨rfl, hb2⟩ := HBAD.out
        clear hb2 hbad
        unfold wrongE
        go_wp2_with fail
        exact ⟨rfl, itemQ_mk (.atom K4.out K44.out) (atomQ_bad HAP.out HBAD.out)⟩
      | ok s =>
        have HAP := Lib.hid hap
        rw [hap] at HAT
        clear hap
        go_wp2_with fail
        refine HAT.out.mono ?_
        rintro en w4 haq
        obtain ⟨rfl, own5, ⟨av5, vv5, m5, hj9⟩, hc9⟩ := haq
        have HC6 := Lib.hid (HC.out.trans hc9)
        have HJ6 := Lib.hid hj9
        clear hj9 hc9 HJ HC HAT
        go_wp2_with fail
        go_end0
        exact itemQ_mk (.atom K4.out K44.out) (atomQ_ok HAP.out rfl HJ6.out HC6.out)
  · have K4 := Lib.hid k4
    clear k4
    go_enter Tryz.func116, Tryz.ntmps116
    go_wp2_with fail
    refine (take_no HJ.out K4.out (by decide) hl).mono ?_
    rintro en w9 hbad
    have HBAD := Lib.hid (BadI.from_ HC.out hbad)
    obtain ⟨rfl, hb2⟩ := hbad
    clear hb2
    unfold wrongE
    go_wp2_with fail
    exact ⟨rfl, itemQ_mk (.no K4.out) (atomQ_bad rfl HBAD.out)⟩
end Go.Proofs.YthoneahamnmjlaaGreatDoor

/- Items are read, at every depth. -/
namespace Go.Proofs.YthoneahamnmjlaaGreatDoor
set_option maxRecDepth 100000
set_option maxHeartbeats 2000000
set_option linter.unusedSimpArgs false
open Go.RowKit Go.Shelf Go.Sort
attribute [local go_sem] Oper.semAt_some wide_fn wide_depth
set_option linter.unusedVariables false

theorem itemsQ_mk {w0 : World} {ts : List Tk} {tv : Value} {g : Nat} {own : List Nat} {st : PS} {d : Nat} {w : World} {en : Ending} {w' : World} {r : Except Nat PS} (h : ItemsR ts d st r) (h' : AtomQ w0 ts tv g own d w r en w') : ItemsQ w0 ts tv g own st d w en w' := ⟨r, h, h'⟩
/-- Where a round of items stands. -/
structure ItI (w0 : World) (ts : List Tk) (tv : Value) (g : Nat) (own : List Nat) (st : PS) (d : Nat) (w : World) (own1 : List Nat) (s : PS) (W : World) : Prop where
  rd : RdP w0 ts tv g own1 s d (edgesOf s.atoms) W
  chg : Chg own w own1 W
  so : ∀ r, ItemsR ts d s r → ItemsR ts d st r
  bd : Bd s
  few : s.atoms.length ≤ 39
set_option maxRecDepth 100000 in
set_option maxHeartbeats 2000000 in
theorem items_at {w0 : World} {ts : List Tk} {tv : Value} {g : Nat} {d : Nat} (hl : ts.length ≤ 1000000) (hd : d ≤ 4) (hi : d ≠ 4 → ItemsOK w0 ts tv g (d + 1)) : ItemsOK w0 ts tv g d := by
  intro own st w h hb ha
  have hst : ItI w0 ts tv g own st d w own st w := ⟨h, Chg.refl own w, fun r hr => hr, hb, ha⟩
  have HST := Lib.hid hst
  have HI := Lib.hid hi
  have hp0 : st.p ≤ ts.length := by obtain ⟨_, _, _, hj⟩ := h; exact hj.rd.le
  clear h hb ha hst hi
  go_enter Tryz.func96, Tryz.ntmps96
  go_wp2_with fail
  go_step3
  go_wp2_with fail
  go_step3
  go_wp2_with fail
  go_loopg [5] (ts.length - st.p) (fun gg s5 wi => ∃ (own1 : List Nat) (s : PS), s.p ≤ ts.length ∧ gg = ts.length - s.p ∧ Hid (ItI w0 ts tv g own st d w own1 s wi))
  case atStart => exact ⟨own, st, hp0, rfl, HST⟩
  case round =>
    obtain ⟨own1, ⟨p, atoms, vars⟩, hp, hgg, hh⟩ := hrel
    have Hg := Lib.hid hgg
    dsimp only at hp Hg
    clear hgg HST
    have HIT := Lib.hid (item_any hh.out.rd hl hh.out.bd hh.out.few hd HI.out)
    go_wp2_with fail
    refine HIT.out.mono ?_
    rintro en w1 ⟨r, hir, haq⟩
    clear HIT
    cases r with
    | error q =>
      have HBAD := Lib.hid (BadI.from_ hh.out.chg (show BadI w0 ts tv g own1 wr q en w1 from haq))
      have HIR := Lib.hid hir
      obtain ⟨rfl, hb2⟩ := HBAD.out
      clear hb2 hir haq
      unfold wrongE
      go_wp2_with fail
      exact ⟨rfl, itemsQ_mk (hh.out.so _ (.bad HIR.out)) (atomQ_bad rfl HBAD.out)⟩
    | ok s =>
      obtain ⟨p5, atoms5, vars5⟩ := s
      obtain ⟨rfl, own5, ⟨av5, vv5, m5, hj9⟩, hc9⟩ := haq
      obtain ⟨hg1, hg2, hg3⟩ := hir.good rfl hh.out.bd hh.out.few
      dsimp only at hj9 hg1 hg3
      have HIR := Lib.hid hir
      have HG2 := Lib.hid hg2
      have HJ := Lib.hid hj9
      have HC := Lib.hid (hh.out.chg.trans hc9)
      obtain ⟨ava, avc, rfl⟩ := own_vw hj9.atoms
      clear hir hg2 hj9 hc9
      have f0 : w1.cell? ⟨g, 0, none⟩ = some (.slice ava atoms5.length avc) := HJ.out.rd.row.cell (i := 0) rfl
      by_cases h40 : atoms5.length = 40
      · have h40b : ((atoms5.length : Int) == 40) = true := by rw [h40]; rfl
        have H40 := Lib.hid h40
        clear h40
        go_wp2_with fail
        go_end0
        exact itemsQ_mk (hh.out.so _ (.last HIR.out (.inl H40.out))) (atomQ_ok rfl rfl HJ.out HC.out)
      · have h40b : ((atoms5.length : Int) == 40) = false := by simp; omega
        have H40 := Lib.hid h40
        by_cases k6 : kindAt ts p5 = 6
        · have K6 := Lib.hid k6
          have hlt6 : p5 < ts.length := takeP_lt (by decide) k6
          have hfew : atoms5.length ≤ 39 := by omega
          clear k6 h40
          go_wp2_with fail
          refine (may_yes HJ.out K6.out (by decide) hl).mono ?_
          rintro en w2 ⟨rfl, hj9, hc9⟩
          have HNX : Hid (ItI w0 ts tv g own st d w own5 ⟨p5 + 1, atoms5, vars5⟩ w2) := Lib.hid ⟨⟨_, _, _, hj9⟩, HC.out.trans hc9, fun r hr => hh.out.so r (.more HIR.out (fun h => h.elim H40.out (fun h => h K6.out)) hr), HG2.out, hfew⟩
          clear hj9 hc9 f0
          go_wp2_with fail
          go_roundg (ts.length - (p5 + 1))
          case measure => have := Hg.out; omega
          case rel => exact ⟨own5, ⟨p5 + 1, atoms5, vars5⟩, by dsimp only; omega, rfl, HNX⟩
        · have K6 := Lib.hid k6
          clear k6 h40
          go_wp2_with fail
          refine (may_no HJ.out K6.out (by decide) hl).mono ?_
          rintro en w2 ⟨rfl, hj9, hc9⟩
          have HJ2 := Lib.hid hj9
          have HC2 := Lib.hid (HC.out.trans hc9)
          clear hj9 hc9 f0
          go_wp2_with fail
          go_end0
          exact itemsQ_mk (hh.out.so _ (.last HIR.out (.inr K6.out))) (atomQ_ok rfl rfl HJ2.out HC2.out)
theorem items_any {w0 : World} {ts : List Tk} {tv : Value} {g : Nat} (hl : ts.length ≤ 1000000) : ∀ k d, d + k = 4 → ItemsOK w0 ts tv g d
  | 0, d, h => items_at hl (by omega) (fun hn => absurd (by omega) hn)
  | k + 1, d, h => items_at hl (by omega) (fun _ => items_any hl k (d + 1) (by omega))
end Go.Proofs.YthoneahamnmjlaaGreatDoor

/- The document's state: the kind of a token, and taking it. -/
namespace Go.Proofs.YthoneahamnmjlaaGreatDoor
set_option maxRecDepth 100000
set_option maxHeartbeats 2000000
set_option linter.unusedSimpArgs false
open Go.RowKit Go.Shelf Go.Sort
attribute [local go_sem] Oper.semAt_some wide_fn wide_depth
set_option linter.unusedVariables false

end Go.Proofs.YthoneahamnmjlaaGreatDoor

/- The document's state: a token is taken. -/
namespace Go.Proofs.YthoneahamnmjlaaGreatDoor
set_option maxRecDepth 100000
set_option maxHeartbeats 2000000
set_option linter.unusedSimpArgs false
open Go.RowKit Go.Shelf Go.Sort
attribute [local go_sem] Oper.semAt_some wide_fn wide_depth
set_option linter.unusedVariables false

end Go.Proofs.YthoneahamnmjlaaGreatDoor

/- The document's state: the token that is looked for is taken. -/
namespace Go.Proofs.YthoneahamnmjlaaGreatDoor
set_option maxRecDepth 100000
set_option maxHeartbeats 2000000
set_option linter.unusedSimpArgs false
open Go.RowKit Go.Shelf Go.Sort
attribute [local go_sem] Oper.semAt_some wide_fn wide_depth
set_option linter.unusedVariables false
end Go.Proofs.YthoneahamnmjlaaGreatDoor

/- The document's state: is a word told here? -/
namespace Go.Proofs.YthoneahamnmjlaaGreatDoor
set_option maxRecDepth 100000
set_option maxHeartbeats 2000000
set_option linter.unusedSimpArgs false
open Go.RowKit Go.Shelf Go.Sort
attribute [local go_sem] Oper.semAt_some wide_fn wide_depth
set_option linter.unusedVariables false
theorem str_dec (x y : ByteArray) : (x.toList == y.toList) = decide (x = y) := by
  by_cases h : x = y
  · rw [str_yes h, decide_eq_true h]
  · rw [str_no h, decide_eq_false h]
end Go.Proofs.YthoneahamnmjlaaGreatDoor

/- The document: is a text among others? -/
namespace Go.Proofs.YthoneahamnmjlaaGreatDoor
set_option maxRecDepth 100000
set_option maxHeartbeats 2000000
set_option linter.unusedSimpArgs false
open Go.RowKit Go.Shelf Go.Sort
attribute [local go_sem] Oper.semAt_some wide_fn wide_depth
set_option linter.unusedVariables false
theorem hasB_take (s : ByteArray) (T : List ByteArray) (i : Nat) (h : i < T.length) : hasB s (T.take (i + 1)) = (hasB s (T.take i) || decide (T[i] = s)) := by
  unfold hasB
  rw [List.take_succ_eq_append_getElem h, List.any_append]; simp
theorem hasB_mem {s : ByteArray} {T : List ByteArray} {i : Nat} (h : i < T.length) (hb : T[i] = s) : hasB s T = true := by
  rw [hasB_iff]
  exact hb ▸ List.getElem_mem h
set_option maxHeartbeats 1000000 in
theorem hasS_any (s : ByteArray) (v : Value) (T : List ByteArray) (w : World) (hT : Strs w v T) :
    Calls Tryz.prog 75 #[v, .string s] w fun e w' => e = .returned (.bool (hasB s T)) ∧ Ext w w' := by
  obtain ⟨a, c, rfl, hc1, hc2⟩ := Sl.shape hT
  have HT := Lib.hid hT
  clear hT
  go_enter Tryz.func75, Tryz.ntmps75
  go_wp2_with fail
  go_loopg [9] T.length (fun g i wr => ∃ j : Nat, j ≤ T.length ∧ g = T.length - j ∧ i = .int .i64 j ∧ hasB s (T.take j) = false ∧ Ext w wr)
  case atStart => exact ⟨0, Nat.zero_le _, rfl, rfl, rfl, Ext.refl _⟩
  case round =>
    obtain ⟨j, hj, hg, rfl, hb, hxr⟩ := hrel
    have Hg := Lib.hid hg
    have HB := Lib.hid hb
    clear hg hb
    by_cases hlt : j < T.length
    · obtain ⟨b, o, rfl, c0⟩ := (HT.out.ext hxr).at_ hlt
      have hsn := hasB_take s T j hlt
      have hmem := fun h => hasB_mem (s := s) hlt h
      rw [HB.out, Bool.false_or] at hsn
      generalize T[j] = x at *
      have HSN := Lib.hid hsn
      have HMEM := Lib.hid hmem
      clear hsn hmem
      by_cases hxs : x = s
      · have hs : (x.toList == s.toList) = true := str_yes hxs
        have HF := Lib.hid (HMEM.out hxs)
        clear hxs
        go_wp2_with fail
        go_ret
        exact ⟨by rw [HF.out]; rfl, hxr⟩
      · have hs : (x.toList == s.toList) = false := str_no hxs
        have HD := Lib.hid hxs
        clear hxs
        go_wp2_with fail
        go_roundg (T.length - (j + 1))
        case measure => have := Hg.out; omega
        case rel => exact ⟨j + 1, by omega, rfl, by go_num, by rw [HSN.out]; exact decide_eq_false HD.out, hxr⟩
    · have he : j = T.length := by omega
      subst he
      go_wp2_with fail
      go_ret
      exact ⟨by rw [← HB.out, List.take_length]; rfl, hxr⟩
end Go.Proofs.YthoneahamnmjlaaGreatDoor

/- A new row of another's elements and one more, made in any order. -/
namespace Go.Proofs.YthoneahamnmjlaaGreatDoor
set_option maxRecDepth 100000
set_option maxHeartbeats 2000000
set_option linter.unusedSimpArgs false
open Go.RowKit Go.Shelf Go.Sort
attribute [local go_sem] Oper.semAt_some wide_fn wide_depth
set_option linter.unusedVariables false
/-- What stands while 'append(append([]T{}, l...), x)' is carried out: 0 the empty row, 1 the old, 2 its copy, 3 and 4 the element, 5 the row of one, 6 both, 7 it is handed on. -/
structure AppF (w0 : World) (e : TypeId) (sz n : Nat) (xs ys : List Value) (v px nm : Value) (S : Nat → Bool) (u0 u1 u2 u3 u4 u5 u6 u7 : Value) (W : World) : Prop where
  ext : Ext w0 W
  a0 : S 0 = true → S 2 = false → W.ownsRow w0.heap.size e sz u0 0 []
  a1 : S 1 = true → u1 = v
  a2 : S 2 = true → S 6 = false → W.ownsRow w0.heap.size e sz u2 n xs
  a3 : S 3 = true → u3 = px
  a4 : S 4 = true → u4 = nm
  a5 : S 5 = true → S 6 = false → W.ownsRow w0.heap.size e sz u5 1 ys
  ne : S 0 = true → S 2 = false → S 5 = true → ∀ b, u5.ownBlock = some b → u0.ownBlock ≠ some b
  a6 : S 6 = true → W.ownsRow w0.heap.size e sz u6 (n + 1) (xs ++ ys)
  a7 : S 7 = true → W.ownsRow w0.heap.size e sz u7 (n + 1) (xs ++ ys)
  d2 : S 2 = true → S 0 = true
  d6 : S 6 = true → S 2 = true ∧ S 5 = true
  d7 : S 7 = true → S 6 = true
def AppG (w0 : World) (e : TypeId) (sz n : Nat) (xs ys : List Value) (v px nm : Value) (S : Nat → Bool) (us : List Value) (W : World) : Prop :=
  ∃ u0 u1 u2 u3 u4 u5 u6 u7, us = [u0, u1, u2, u3, u4, u5, u6, u7] ∧ AppF w0 e sz n xs ys v px nm S u0 u1 u2 u3 u4 u5 u6 u7 W
theorem own_in {W : World} {B : Nat} {e : TypeId} {sz n b : Nat} {v : Value} {xs : List Value} (h : W.ownsRow B e sz v n xs) (hb : v.ownBlock = some b) : b < W.heap.size := by
  rcases h.2 with ⟨rfl, _⟩ | ⟨g, cap, cur, rfl, h1, h2, _⟩
  · cases hb
  · cases hb
    exact (Array.getElem?_eq_some_iff.1 h2).1
theorem own_far {w w' : World} {B size n : Nat} {ty : TypeId} {v : Value} {xs : List Value} {row : Option Nat} (h : w.ownsRow B ty size v n xs) (hg : w.grownBy w' row) (hv : ∀ b, v.ownBlock = some b → row ≠ some b) : w'.ownsRow B ty size v n xs := by
  refine ⟨h.1, ?_⟩
  rcases h.2 with hn | ⟨g', cap, cur, rfl, hbg, hgg, rest⟩
  · exact .inl hn
  · exact .inr ⟨g', cap, cur, rfl, hbg, (hg.block g' (Array.getElem?_eq_some_iff.1 hgg).1 (fun e => hv g' rfl e.symm)).trans hgg, rest⟩
def depA : Nat → List Nat
  | 2 => [0, 1]
  | 4 => [3]
  | 5 => [4]
  | 6 => [2, 5]
  | 7 => [6]
  | _ => []
section
variable {w0 : World} {e : TypeId} {sz n : Nat} {xs ys : List Value} {v px nm : Value} {S : Nat → Bool} {us : List Value} {u0 u1 u2 u3 u4 u5 u6 u7 : Value} {W : World}
theorem AppG.start (hl : us.length = 8) (hx : Ext w0 W) : AppG w0 e sz n xs ys v px nm (fun _ => false) us W := by
  match us, hl with
  | [u0, u1, u2, u3, u4, u5, u6, u7], _ => exact ⟨u0, u1, u2, u3, u4, u5, u6, u7, rfl, hx, nofun, nofun, nofun, nofun, nofun, nofun, nofun, nofun, nofun, nofun, nofun, nofun⟩
theorem AppF.g (h : AppF w0 e sz n xs ys v px nm S u0 u1 u2 u3 u4 u5 u6 u7 W) : AppG w0 e sz n xs ys v px nm S [u0, u1, u2, u3, u4, u5, u6, u7] W := ⟨_, _, _, _, _, _, _, _, rfl, h⟩
theorem AppF.s0 (h : AppF w0 e sz n xs ys v px nm S u0 u1 u2 u3 u4 u5 u6 u7 W) (hn : S 0 = false) :
    AppG w0 e sz n xs ys v px nm (updB S 0) [.slice (some ⟨W.heap.size, 0, none⟩) 0 0, u1, u2, u3, u4, u5, u6, u7] (W.alloc (.cells #[] e)) := by
  have hx := Ext.alloc W (.cells #[] e)
  have h2 : ¬ S 2 = true := fun e => by have := h.d2 e; rw [hn] at this; cases this
  have h6 : ¬ S 6 = true := fun e => h2 (h.d6 e).1
  refine AppF.g ⟨h.ext.trans hx, fun _ _ => own_new _ _ _ _ _ _ h.ext.size (by simp) (Nat.zero_le _), h.a1, fun e => absurd e h2, h.a3, h.a4, fun e e' => own_ext (h.a5 e e') hx, fun _ _ e5 b hb hh => ?_, fun e => absurd e h6, fun e => absurd (h.d7 e) h6, fun _ => rfl, fun e => absurd e h6, h.d7⟩
  have hlt := own_in (h.a5 e5 (by simpa using h6)) hb
  have : W.heap.size = b := Option.some.inj hh
  omega
theorem AppF.s1 (h : AppF w0 e sz n xs ys v px nm S u0 u1 u2 u3 u4 u5 u6 u7 W) : AppG w0 e sz n xs ys v px nm (updB S 1) [u0, v, u2, u3, u4, u5, u6, u7] W :=
  AppF.g ⟨h.ext, h.a0, fun _ => rfl, h.a2, h.a3, h.a4, h.a5, h.ne, h.a6, h.a7, h.d2, h.d6, h.d7⟩
theorem AppF.s2 (h : AppF w0 e sz n xs ys v px nm S u0 u1 u2 u3 u4 u5 u6 u7 W) (h0 : S 0 = true) (hn : S 2 = false) {W' : World} {u : Value} (hb : Below w0.heap.size W W') (hg : W.grownBy W' u0.ownBlock) (ho : W'.ownsRow w0.heap.size e sz u n xs) :
    AppG w0 e sz n xs ys v px nm (updB S 2) [u0, u1, u, u3, u4, u5, u6, u7] W' := by
  have h6 : ¬ S 6 = true := fun e => by have := (h.d6 e).1; rw [hn] at this; cases this
  exact AppF.g ⟨Below.trans h.ext hb, fun _ e => (by cases e), h.a1, fun _ _ => ho, h.a3, h.a4, fun e e' => own_far (h.a5 e e') hg (fun b hv => h.ne h0 hn e b hv), fun _ e => (by cases e), fun e => absurd e h6, fun e => absurd (h.d7 e) h6, fun _ => h0, fun e => absurd e h6, h.d7⟩
theorem AppF.s3 (h : AppF w0 e sz n xs ys v px nm S u0 u1 u2 u3 u4 u5 u6 u7 W) : AppG w0 e sz n xs ys v px nm (updB S 3) [u0, u1, u2, px, u4, u5, u6, u7] W :=
  AppF.g ⟨h.ext, h.a0, h.a1, h.a2, fun _ => rfl, h.a4, h.a5, h.ne, h.a6, h.a7, h.d2, h.d6, h.d7⟩
theorem AppF.s4 (h : AppF w0 e sz n xs ys v px nm S u0 u1 u2 u3 u4 u5 u6 u7 W) : AppG w0 e sz n xs ys v px nm (updB S 4) [u0, u1, u2, u3, nm, u5, u6, u7] W :=
  AppF.g ⟨h.ext, h.a0, h.a1, h.a2, h.a3, fun _ => rfl, h.a5, h.ne, h.a6, h.a7, h.d2, h.d6, h.d7⟩
theorem AppF.s5 (h : AppF w0 e sz n xs ys v px nm S u0 u1 u2 u3 u4 u5 u6 u7 W) (hn : S 5 = false) (hy : ys.length = sz) :
    AppG w0 e sz n xs ys v px nm (updB S 5) [u0, u1, u2, u3, u4, .slice (some ⟨W.heap.size, 0, none⟩) 1 1, u6, u7] (W.alloc (.cells ys.toArray e)) := by
  have hx := Ext.alloc W (.cells ys.toArray e)
  have h6 : ¬ S 6 = true := fun e => by have := (h.d6 e).2; rw [hn] at this; cases this
  refine AppF.g ⟨h.ext.trans hx, fun e e' => own_ext (h.a0 e e') hx, h.a1, fun e e' => own_ext (h.a2 e e') hx, h.a3, h.a4, fun _ _ => own_new _ _ ys.toArray _ _ _ h.ext.size (by simp [hy]) (by unfold maxLen; omega), fun e0 e2 _ b hb hh => ?_, fun e => absurd e h6, fun e => absurd (h.d7 e) h6, h.d2, fun e => absurd e h6, h.d7⟩
  have hlt := own_in (h.a0 e0 e2) hh
  have : W.heap.size = b := Option.some.inj hb
  omega
theorem AppF.s6 (h : AppF w0 e sz n xs ys v px nm S u0 u1 u2 u3 u4 u5 u6 u7 W) (h2 : S 2 = true) (h5 : S 5 = true) (hn : S 6 = false) {W' : World} {u : Value} (hb : Below w0.heap.size W W') (ho : W'.ownsRow w0.heap.size e sz u (n + 1) (xs ++ ys)) :
    AppG w0 e sz n xs ys v px nm (updB S 6) [u0, u1, u2, u3, u4, u5, u, u7] W' := by
  have h7 : ¬ S 7 = true := fun e => by have := h.d7 e; rw [hn] at this; cases this
  exact AppF.g ⟨Below.trans h.ext hb, fun _ e => (by have e' : S 2 = false := e; rw [h2] at e'; cases e'), h.a1, fun _ e => (by cases e), h.a3, h.a4, fun _ e => (by cases e), fun _ e => (by have e' : S 2 = false := e; rw [h2] at e'; cases e'), fun _ => ho, fun e => absurd e h7, h.d2, fun _ => ⟨h2, h5⟩, fun e => absurd e h7⟩
theorem AppF.s7 (h : AppF w0 e sz n xs ys v px nm S u0 u1 u2 u3 u4 u5 u6 u7 W) (h6 : S 6 = true) : AppG w0 e sz n xs ys v px nm (updB S 7) [u0, u1, u2, u3, u4, u5, u6, u6] W :=
  AppF.g ⟨h.ext, h.a0, h.a1, h.a2, h.a3, h.a4, h.a5, h.ne, h.a6, fun _ => h.a6 h6, h.d2, h.d6, fun _ => h6⟩
end
end Go.Proofs.YthoneahamnmjlaaGreatDoor

/- The document: variables with that of a term. -/
namespace Go.Proofs.YthoneahamnmjlaaGreatDoor
set_option maxRecDepth 100000
set_option maxHeartbeats 2000000
set_option linter.unusedSimpArgs false
open Go.RowKit Go.Shelf Go.Sort
attribute [local go_sem] Oper.semAt_some wide_fn wide_depth
set_option linter.unusedVariables false
theorem nil_yes {x : ByteArray} (h : x = nilB) : x.toList.isEmpty = true := by rw [ByteArray.toList_eq, h]; rfl
theorem nil_no {x : ByteArray} (h : x ≠ nilB) : x.toList.isEmpty = false := by
  rw [ByteArray.toList_eq]
  cases hd : x.data.toList with
  | nil => exact absurd (bts_inj (show bts x = bts nilB from hd)) h
  | cons a r => rfl
theorem strs_one (T : List ByteArray) : ∀ x ∈ T.map Value.string, x.oneCell' = true := by
  intro x hx
  obtain ⟨y, _, rfl⟩ := List.mem_map.1 hx
  rfl
def termS (T : List ByteArray) (t : Bool × ByteArray) : List ByteArray := if t.1 = true ∨ t.2 = nilB ∨ hasB t.2 T = true then T else T ++ [t.2]
set_option maxHeartbeats 1000000 in
theorem termS_own (v : Value) (T : List ByteArray) (key : Bool) (name : ByteArray) (w : World) (hT : Strs w v T) (hl : T.length ≤ 1000000000) :
    Calls Tryz.prog 72 #[v, .agg #[.bool key, .string name]] w fun e w' => ∃ u, e = .returned u ∧ (u = v ∧ termS T (key, name) = T ∨ w'.ownsRow w.heap.size 9 1 u (termS T (key, name)).length ((termS T (key, name)).map Value.string)) ∧ Ext w w' := by
  have hmo : Tryz.prog.follows .mixedOrders = true := by kernel_rfl
  obtain ⟨a, c, rfl, hc1, hc2⟩ := Sl.shape hT
  have hx0 := Ext.alloc w (.cells #[.bool key, .string name] 38)
  have hb0 : RowAt (w.alloc (.cells #[.bool key, .string name] 38)) w.heap.size 38 [.bool key, .string name] := RowAt.new _ _ _
  have HX := Lib.hid hx0
  have HB := Lib.hid hb0
  have HT := Lib.hid hT
  clear hT hx0 hb0
  cases key with
  | true =>
    have hres : termS T (true, name) = T := by unfold termS; simp
    rw [hres]
    clear hres
    go_enter Tryz.func72, Tryz.ntmps72
    go_wp2_with fail
    go_ret
    exact ⟨_, rfl, .inl ⟨rfl, by trivial⟩, HX.out⟩
  | false =>
    by_cases hnm : name = nilB
    · have hs : name.toList.isEmpty = true := nil_yes hnm
      have hres : termS T (false, name) = T := by unfold termS; rw [if_pos (.inr (.inl hnm))]
      rw [hres]
      clear hres hnm
      go_enter Tryz.func72, Tryz.ntmps72
      go_wp2_with fail
      go_ret
      exact ⟨_, rfl, .inl ⟨rfl, by trivial⟩, HX.out⟩
    · have hs : name.toList.isEmpty = false := nil_no hnm
      have hha := hasS_any name _ T _ (HT.out.ext HX.out)
      have HH := Lib.hid hha
      clear hha
      by_cases hin : hasB name T = true
      · have hres : termS T (false, name) = T := by unfold termS; rw [if_pos (.inr (.inr hin))]
        rw [hres]
        rw [hin] at HH
        clear hres hnm hin
        go_enter Tryz.func72, Tryz.ntmps72
        go_wp2_with fail
        refine HH.out.mono ?_
        rintro e w1 ⟨rfl, hx1⟩
        go_wp2_with fail
        go_ret
        exact ⟨_, rfl, .inl ⟨rfl, by trivial⟩, HX.out.trans hx1⟩
      · have hres : termS T (false, name) = T ++ [name] := by unfold termS; rw [if_neg (by simp only [hnm, hin]; simp)]
        have hf : hasB name T = false := by simpa using hin
        rw [hres]
        rw [hf] at HH
        clear hres hnm hin hf
        go_enter Tryz.func72, Tryz.ntmps72
        go_wp2_with fail
        refine HH.out.mono ?_
        rintro e w1 ⟨rfl, hx1⟩
        have HX1 := Lib.hid (HX.out.trans hx1)
        have HB1 := Lib.hid (HB.out.ext hx1)
        have HT1 := Lib.hid (HT.out.ext HX1.out)
        clear hx1
        go_upto_region 3 with fail
        clear hs
        obtain ⟨x, hx⟩ : ∃ x, w.heap.size = x := ⟨_, rfl⟩
        rw [hx] at HB1
        try simp only [hx]
        clear hx
        refine wp_region_inv [19, 20, 21, 22, 23, 24, 25, 4] _ depA (AppG w1 9 1 T.length (T.map Value.string) [.string name] (.slice a T.length c) (.pointer (some ⟨x, 1, none⟩)) (.string name)) hmo (by kernel_rfl) (by kernel_rfl) (puts_self _ _) (AppG.start rfl (Ext.drewN w1 1)) ?_ ?_
        · refine ⟨?_, ?_, ?_, ?_, ?_, ?_, ?_, ?_, trivial⟩
          all_goals
            rintro S us wq hd hn ⟨u0, u1, u2, u3, u4, u5, u6, u7, rfl, hF⟩ K hK
            have hK' := fun u0 u1 u2 u3 u4 u5 u6 u7 w' h => hK [u0, u1, u2, u3, u4, u5, u6, u7] w' h
            clear hK
            simp only [puts, Act.put, List.setIfInBounds_toArray, List.set_cons_succ, List.set_cons_zero] at hK' ⊢
            have HK := Lib.hid hK'
            have HF := Lib.hid hF
            have HN := Lib.hid hn
            have HD := Lib.hid hd
            clear hK' hF hn hd
          · have hk := HK.out _ u1 u2 u3 u4 u5 u6 u7 _ (HF.out.s0 HN.out)
            go_simp
            exact hk
          · have hk := HK.out u0 _ u2 u3 u4 u5 u6 u7 _ HF.out.s1
            go_simp
            exact hk
          · have h0 := HD.out 0 (by decide)
            have hv := HF.out.a1 (HD.out 1 (by decide))
            have ho := HF.out.a0 h0 HN.out
            have hsl := HT1.out.ext HF.out.ext
            rw [← hv] at hsl
            have HO := Lib.hid ho
            have HS := Lib.hid hsl
            have H0 := Lib.hid h0
            clear hv ho hsl h0
            rw [if_pos (show Region.wanted _ _ = true from rfl)]
            refine wp_append_sl wq _ _ 23 rfl elStr rfl HO.out rfl HS.out (by simp) (strs_one T) (by omega) (by unfold maxLen; omega) HF.out.ext.size ?_
            intro v' w' ho hb hg _
            simp only [Act.put, List.setIfInBounds_toArray, List.set_cons_succ, List.set_cons_zero]
            rw [Nat.zero_add, List.nil_append] at ho
            exact HK.out u0 u1 v' u3 u4 u5 u6 u7 w' (HF.out.s2 H0.out HN.out hb hg ho)
          · have hk := HK.out u0 u1 u2 _ u4 u5 u6 u7 _ HF.out.s3
            go_simp
            exact hk
          · have hu := HF.out.a3 (HD.out 3 (by decide))
            have hk := HK.out u0 u1 u2 u3 _ u5 u6 u7 _ HF.out.s4
            have d1 := (HB1.out.ext HF.out.ext).cell (i := 1) rfl
            subst hu
            go_simp
            exact hk
          · have hu := HF.out.a4 (HD.out 4 (by decide))
            have hk := HK.out u0 u1 u2 u3 u4 _ u6 u7 _ (HF.out.s5 HN.out rfl)
            subst hu
            go_simp
            exact hk
          · have h2 := HD.out 2 (by decide)
            have h5 := HD.out 5 (by decide)
            have ho := HF.out.a2 h2 HN.out
            have hsl := Sl.of_own (HF.out.a5 h5 HN.out)
            rw [if_pos (show Region.wanted _ _ = true from rfl)]
            refine wp_append_sl wq _ _ 23 rfl elStr rfl ho rfl hsl (by simp) (strs_one [name]) (by omega) (by unfold maxLen; omega) HF.out.ext.size ?_
            intro v' w' ho hb hg _
            simp only [Act.put, List.setIfInBounds_toArray, List.set_cons_succ, List.set_cons_zero]
            exact HK.out u0 u1 u2 u3 u4 u5 v' u7 w' (HF.out.s6 h2 h5 HN.out hb ho)
          · have h6 := HD.out 6 (by decide)
            have hk := HK.out u0 u1 u2 u3 u4 u5 u6 _ _ (HF.out.s7 h6)
            go_simp
            exact hk
        · rintro S us wq hS ⟨u0, u1, u2, u3, u4, u5, u6, u7, rfl, hF⟩
          have ho := hF.a7 (hS 7 (by decide))
          have HXF := Lib.hid (HX1.out.trans hF.ext)
          have HO := Lib.hid ho
          clear ho hF hS
          simp only [puts, Act.put, List.setIfInBounds_toArray, List.set_cons_succ, List.set_cons_zero]
          go_wp2_with fail
          go_ret
          refine ⟨_, rfl, .inr ?_, HXF.out⟩
          rw [List.length_append, List.map_append]
          exact own_base HO.out HX1.out.size
theorem termS_any (v : Value) (T : List ByteArray) (key : Bool) (name : ByteArray) (w : World) (hT : Strs w v T) (hl : T.length ≤ 1000000000) :
    Calls Tryz.prog 72 #[v, .agg #[.bool key, .string name]] w fun e w' => ∃ u, e = .returned u ∧ Strs w' u (termS T (key, name)) ∧ Ext w w' := by
  refine (termS_own v T key name w hT hl).mono ?_
  rintro e w' ⟨u, rfl, ⟨rfl, hr⟩ | ho, hx⟩
  · exact ⟨_, rfl, by rw [hr]; exact hT.ext hx, hx⟩
  · exact ⟨_, rfl, Sl.of_own ho, hx⟩
/-- Texts that lie in memory from B on. -/
def Fresh (B : Nat) (v : Value) (l : List ByteArray) : Prop := 0 < l.length → ∃ g o n c, v = .slice (some ⟨g, o, none⟩) n c ∧ B ≤ g
theorem Fresh.own {w : World} {B : Nat} {e : TypeId} {v : Value} {l : List ByteArray} (h : w.ownsRow B e 1 v l.length (l.map Value.string)) : Fresh B v l := fun hn => by
  obtain ⟨hl, ⟨rfl, h0⟩ | ⟨g, cap, cur, rfl, hg, _⟩⟩ := h
  · omega
  · exact ⟨g, 0, _, cap, rfl, hg⟩
theorem Fresh.low {A B : Nat} {v : Value} {l : List ByteArray} (h : Fresh B v l) (hA : A ≤ B) : Fresh A v l := fun hn => by
  obtain ⟨g, o, n, c, e, hg⟩ := h hn
  exact ⟨g, o, n, c, e, by omega⟩
theorem termS_frs (v : Value) (T : List ByteArray) (key : Bool) (name : ByteArray) (w : World) (B : Nat) (hT : Strs w v T) (hf : Fresh B v T) (hB : B ≤ w.heap.size) (hl : T.length ≤ 1000000000) :
    Calls Tryz.prog 72 #[v, .agg #[.bool key, .string name]] w fun e w' => ∃ u, e = .returned u ∧ (Strs w' u (termS T (key, name)) ∧ Fresh B u (termS T (key, name))) ∧ Ext w w' := by
  refine (termS_own v T key name w hT hl).mono ?_
  rintro e w' ⟨u, rfl, ⟨rfl, hr⟩ | ho, hx⟩
  · exact ⟨_, rfl, by rw [hr]; exact ⟨hT.ext hx, hf⟩, hx⟩
  · exact ⟨_, rfl, ⟨Sl.of_own ho, Fresh.low (Fresh.own ho) hB⟩, hx⟩
end Go.Proofs.YthoneahamnmjlaaGreatDoor
