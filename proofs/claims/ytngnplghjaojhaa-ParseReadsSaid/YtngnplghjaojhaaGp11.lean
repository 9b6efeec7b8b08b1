/- A term is taken. -/
import Derived.Test.YtngnplghjaojhaaGp10
namespace Go.Proofs.Ytngnplghjaojhaa
set_option maxRecDepth 100000
set_option maxHeartbeats 2000000
set_option linter.unusedSimpArgs false
open Go.RowKit Go.Shelf Go.Sort
attribute [local go_sem] Oper.semAt_some wide_fn wide_depth
set_option linter.unusedVariables false

def TermQ (w0 : World) (ts : List Tk) (tv : Value) (g : Nat) (own : List Nat) (st : PS) (d e : Nat) (w : World) (r : Except Nat ((Bool × ByteArray) × List ByteArray × Nat)) (en : Ending) (w' : World) : Prop := match r with
  | .ok (t, vars, q) => en = .returned (.agg #[.bool t.1, .string t.2]) ∧ ∃ own', RdP w0 ts tv g own' ⟨q, st.atoms, vars⟩ d e w' ∧ Chg own w own' w'
  | .error q => BadI w0 ts tv g own w q en w'
theorem metKv_yes {vars : List ByteArray} {s : ByteArray} (h : s ∈ vars) : ∃ j : Nat, (metKv vars)[j]? = some (.string s, .int .i64 1) := by
  obtain ⟨j, hj, rfl⟩ := List.getElem_of_mem h
  exact ⟨j, by unfold metKv; rw [List.getElem?_map, List.getElem?_eq_getElem hj]; rfl⟩
theorem metKv_no {vars : List ByteArray} {s : ByteArray} (h : s ∉ vars) : ∀ p ∈ metKv vars, p.1 ≠ .string s := fun p hp e => by
  obtain ⟨x, hx, rfl⟩ := List.mem_map.1 hp
  simp only [Value.string.injEq] at e
  exact h (e ▸ hx)
theorem metKv_snoc (vars : List ByteArray) (s : ByteArray) : metKv (vars ++ [s]) = metKv vars ++ [(.string s, .int .i64 1)] := by unfold metKv; rw [List.map_append]; rfl
set_option maxHeartbeats 2000000 in
theorem term_any {w0 : World} {ts : List Tk} {tv : Value} {g : Nat} {own : List Nat} {st : PS} {d e : Nat} {w : World} (h : RdP w0 ts tv g own st d e w) (hl : ts.length ≤ 1000000) (hv : st.vars.length ≤ 32) :
    Calls Try.prog 112 #[.pointer (some ⟨g, 0, none⟩)] w (TermQ w0 ts tv g own st d e w (termP ts st.vars st.p)) := by
  obtain ⟨av, vv, m, hj⟩ := h
  obtain ⟨p, atoms, vars⟩ := st
  dsimp only at hv ⊢
  have hx0 := Ext.alloc w (.cells #[.bool false, .string ⟨#[]⟩] 62)
  have hb1 : RowAt (w.alloc (.cells #[.bool false, .string ⟨#[]⟩] 62)) w.heap.size 62 [.bool false, .string ⟨#[]⟩] := RowAt.new _ _ _
  have hj1 := hj.grow hx0
  have hxo : w.heap.size ∉ own := fun hm => by have := (hj.lo _ hm).2; omega
  have hx00 : w0.heap.size ≤ w.heap.size := hj.rd.ext.size
  have HX0 := Lib.hid hx0
  have HB1 := Lib.hid hb1
  have HJ1 := Lib.hid hj1
  have HXO := Lib.hid hxo
  have HX00 := Lib.hid hx00
  have HGI : Hid (g ∈ own) := Lib.hid hj.gin
  obtain ⟨x, hx⟩ : ∃ x, w.heap.size = x := ⟨_, rfl⟩
  rw [hx] at HB1 HXO HX00
  have HXE := Lib.hid hx
  clear hj hx0 hb1 hj1 hxo hx00
  have hk1 := kind_any HJ1.out.rd
  by_cases hk2 : kindAt ts p = 2
  · have htp : takeP ts 2 p = .ok (textAt ts p, p + 1) := by unfold takeP; rw [if_pos hk2]
    have hres : termP ts vars p = .ok ((true, textAt ts p), vars, p + 1) := by unfold termP; rw [if_pos hk2]
    rw [hres]
    dsimp only at hk1
    rw [hk2] at hk1
    have HK1 := Lib.hid hk1
    have HTP := Lib.hid htp
    clear hk1 hk2 htp hres
    generalize textAt ts p = s at *
    go_enter Try.func112, Try.ntmps112
    go_upto_region 1 with fail
    generalize w.alloc (.cells #[.bool false, .string ⟨#[]⟩] 62) = w1 at *
    try simp only [hx]
    clear hx
    go_wp2_with fail
    refine HK1.out.mono ?_
    rintro en w2 ⟨rfl, hx2⟩
    have HJ2 := Lib.hid (HJ1.out.grow hx2)
    have HB2 := Lib.hid (HB1.out.ext hx2)
    have HC2 : Hid (Chg own w own w2) := Lib.hid (Chg.ext (HX0.out.trans hx2))
    have htk := take_any HJ2.out.rd 2 (by decide) hl
    dsimp only at htk
    rw [HTP.out] at htk
    have HTK := Lib.hid htk
    clear hx2 HK1 HJ1 HB1 htk HTP
    go_wp2_with fail
    refine HTK.out.mono ?_
    rintro en w3 ⟨rfl, hr3, hg3⟩
    have HJ3 := Lib.hid (HJ2.out.turn hr3 hg3)
    have hb3 := HB2.out.chg (Chg.grown hg3 HGI.out) HXO.out
    have HC3 := Lib.hid (HC2.out.trans (Chg.grown hg3 HGI.out))
    have HB3 := Lib.hid hb3.1
    clear hr3 hg3 hb3 HTK HJ2 HB2 HC2
    have HXO3 := HXO
    obtain ⟨p0, p1, q0, q1⟩ := HB3.out.facts2
    go_wp2_with fail
    have hb4 := ((HB3.out.set 0 (.bool true)).set 1 (.string s)).facts2
    obtain ⟨p2, p3, _, _⟩ := hb4
    have hg4 := grown_set w3 x 0 (.bool true)
    have hg5 := grown_set (w3.setCell ⟨x, 0, none⟩ (.bool true)) x 1 (.string s)
    refine bodyPost_ret (v := .agg #[.bool true, .string s]) (by simp [results, Try.results112, go_sem, p2, p3]) rfl ⟨rfl, _, ⟨_, _, _, (HJ3.out.side hg4 HXO3.out HX00.out).side hg5 HXO3.out HX00.out⟩, (HC3.out.side hg4 (Nat.le_of_eq HXE.out)).side hg5 (Nat.le_of_eq HXE.out)⟩
  · have hk2b : (kindAt ts p == 2) = false := by simp [hk2]
    have htk2 := fun W (hj : RdJ w0 ts tv g own ⟨p, atoms, vars⟩ d e av vv m W) => take_any hj.rd 1 (by decide) hl
    dsimp only at hk1 htk2
    by_cases hk3 : kindAt ts p = 1
    · have htp : takeP ts 1 p = .ok (textAt ts p, p + 1) := by unfold takeP; rw [if_pos hk3]
      have hres : termP ts vars p = if hasB (textAt ts p) vars = true then .ok ((false, textAt ts p), vars, p + 1) else if vars.length = 32 then .error p else .ok ((false, textAt ts p), vars ++ [textAt ts p], p + 1) := by
        unfold termP; rw [if_neg hk2, if_pos hk3]
      rw [hres]
      rw [htp] at htk2
      rw [hk3] at hk1 hk2b
      have HK1 := Lib.hid hk1
      have HTK := Lib.hid htk2
      clear hk1 htk2 hk2 hk3 htp hres
      generalize textAt ts p = s at *
      by_cases hin : hasB s vars = true
      · -- it has been met
        rw [if_pos hin]
        have HIN := Lib.hid hin
        clear hin
        go_enter Try.func112, Try.ntmps112
        go_upto_region 1 with fail
        generalize w.alloc (.cells #[.bool false, .string ⟨#[]⟩] 62) = w1 at *
        try simp only [hx]
        clear hx
        go_wp2_with fail
        refine HK1.out.mono ?_
        rintro en w2 ⟨rfl, hx2⟩
        have HJ2 := Lib.hid (HJ1.out.grow hx2)
        have HB2 := Lib.hid (HB1.out.ext hx2)
        have HC2 : Hid (Chg own w own w2) := Lib.hid (Chg.ext (HX0.out.trans hx2))
        have HTK2 := Lib.hid (HTK.out w2 HJ2.out)
        clear hx2 HK1 HJ1 HB1 HTK
        go_wp2_with fail
        refine HTK2.out.mono ?_
        rintro en w3 ⟨rfl, hr3, hg3⟩
        have HJ3 := Lib.hid (HJ2.out.turn hr3 hg3)
        have hb3 := HB2.out.chg (Chg.grown hg3 HGI.out) HXO.out
        have HC3 := Lib.hid (HC2.out.trans (Chg.grown hg3 HGI.out))
        have HB3 := Lib.hid hb3.1
        have HXO3 := HXO
        clear hr3 hg3 hb3 HTK2 HJ2 HB2 HC2
        obtain ⟨jm, hjm⟩ := metKv_yes (hasB_iff.1 HIN.out)
        have hlk := run_get_yes Try.underlying66 Try.underlying9 HJ3.out.met (isKey_str s) hjm false
        rw [if_neg (by simp)] at hlk
        have f13 : w3.cell? ⟨g, 13, none⟩ = some (.map (some m)) := HJ3.out.rd.row.cell (i := 13) rfl
        obtain ⟨p0, p1, q0, q1⟩ := HB3.out.facts2
        clear hjm
        go_wp2_with fail
        have hb4 := ((HB3.out.set 0 (.bool false)).set 1 (.string s)).facts2
        obtain ⟨p2, p3, _, _⟩ := hb4
        have hg4 := grown_set w3 x 0 (.bool false)
        have hg5 := grown_set (w3.setCell ⟨x, 0, none⟩ (.bool false)) x 1 (.string s)
        refine bodyPost_ret (v := .agg #[.bool false, .string s]) (by simp [results, Try.results112, go_sem, p2, p3]) rfl ⟨rfl, _, ⟨_, _, _, (HJ3.out.side hg4 HXO3.out HX00.out).side hg5 HXO3.out HX00.out⟩, (HC3.out.side hg4 (Nat.le_of_eq HXE.out)).side hg5 (Nat.le_of_eq HXE.out)⟩
      · rw [if_neg hin]
        have hno : s ∉ vars := fun h => hin (hasB_iff.2 h)
        have HNO := Lib.hid hno
        clear hin hno
        by_cases h32 : vars.length = 32
        · -- there is no room
          rw [if_pos h32]
          have H32 := Lib.hid h32
          clear h32
          go_enter Try.func112, Try.ntmps112
          go_upto_region 1 with fail
          generalize w.alloc (.cells #[.bool false, .string ⟨#[]⟩] 62) = w1 at *
          try simp only [hx]
          clear hx
          go_wp2_with fail
          refine HK1.out.mono ?_
          rintro en w2 ⟨rfl, hx2⟩
          have HJ2 := Lib.hid (HJ1.out.grow hx2)
          have HB2 := Lib.hid (HB1.out.ext hx2)
          have HC2 : Hid (Chg own w own w2) := Lib.hid (Chg.ext (HX0.out.trans hx2))
          have HTK2 := Lib.hid (HTK.out w2 HJ2.out)
          clear hx2 HK1 HJ1 HB1 HTK
          go_wp2_with fail
          refine HTK2.out.mono ?_
          rintro en w3 ⟨rfl, hr3, hg3⟩
          have HJ3 := Lib.hid (HJ2.out.turn hr3 hg3)
          have hb3 := HB2.out.chg (Chg.grown hg3 HGI.out) HXO.out
          have HC3 := Lib.hid (HC2.out.trans (Chg.grown hg3 HGI.out))
          have HB3 := Lib.hid hb3.1
          have HXO3 := HXO
          clear hr3 hg3 hb3 HTK2 HJ2 HB2 HC2
          have hlk := run_get_no (z := .int .i64 0) Try.underlying66 Try.underlying9 HJ3.out.met (isKey_str s) (metKv_no HNO.out) (by rfl) false
          rw [if_neg (by simp)] at hlk
          obtain ⟨vva, vvc, rfl⟩ := own_vw HJ3.out.vars
          have f13 : w3.cell? ⟨g, 13, none⟩ = some (.map (some m)) := HJ3.out.rd.row.cell (i := 13) rfl
          have f12 : w3.cell? ⟨g, 12, none⟩ = some (.slice vva vars.length vvc) := HJ3.out.rd.row.cell (i := 12) rfl
          obtain ⟨p0, p1, q0, q1⟩ := HB3.out.facts2
          have h32 := H32.out
          have hlen : ((vars.length : Int) == 32) = true := by rw [h32]; rfl
          clear h32
          have HB := Lib.hid (bad_any HJ3.out.rd 1 (Nat.succ_le_succ (Nat.zero_le p)) (by omega))
          go_wp2_with fail
          refine HB.out.mono ?_
          rintro en w4 ⟨rfl, hr4, hg4⟩
          have HR4 : Hid (RdT w0 ts tv g (rcI av (.slice vva vars.length vvc) m d e) p w4) := Lib.hid hr4
          have HC4 := Lib.hid (HC3.out.trans (Chg.grown hg4 HGI.out))
          clear hr4 hg4
          unfold wrongE
          go_wp2_with fail
          exact ⟨rfl, rfl, ⟨_, HR4.out⟩, _, HC4.out⟩
        · -- it is new
          rw [if_neg h32]
          have H32 := Lib.hid h32
          clear h32
          go_enter Try.func112, Try.ntmps112
          go_upto_region 1 with fail
          generalize w.alloc (.cells #[.bool false, .string ⟨#[]⟩] 62) = w1 at *
          try simp only [hx]
          clear hx
          go_wp2_with fail
          refine HK1.out.mono ?_
          rintro en w2 ⟨rfl, hx2⟩
          have HJ2 := Lib.hid (HJ1.out.grow hx2)
          have HB2 := Lib.hid (HB1.out.ext hx2)
          have HC2 : Hid (Chg own w own w2) := Lib.hid (Chg.ext (HX0.out.trans hx2))
          have HTK2 := Lib.hid (HTK.out w2 HJ2.out)
          clear hx2 HK1 HJ1 HB1 HTK
          go_wp2_with fail
          refine HTK2.out.mono ?_
          rintro en w3 ⟨rfl, hr3, hg3⟩
          have HJ3 := Lib.hid (HJ2.out.turn hr3 hg3)
          have hb3 := HB2.out.chg (Chg.grown hg3 HGI.out) HXO.out
          have HC3 := Lib.hid (HC2.out.trans (Chg.grown hg3 HGI.out))
          have HB3 := Lib.hid hb3.1
          have HXO3 := HXO
          clear hr3 hg3 hb3 HTK2 HJ2 HB2 HC2
          have hlk := run_get_no (z := .int .i64 0) Try.underlying66 Try.underlying9 HJ3.out.met (isKey_str s) (metKv_no HNO.out) (by rfl) false
          rw [if_neg (by simp)] at hlk
          obtain ⟨vva, vvc, rfl⟩ := own_vw HJ3.out.vars
          have f13 : w3.cell? ⟨g, 13, none⟩ = some (.map (some m)) := HJ3.out.rd.row.cell (i := 13) rfl
          have f12 : w3.cell? ⟨g, 12, none⟩ = some (.slice vva vars.length vvc) := HJ3.out.rd.row.cell (i := 12) rfl
          obtain ⟨p0, p1, q0, q1⟩ := HB3.out.facts2
          have hlen : ((vars.length : Int) == 32) = false := by have := H32.out; simp; omega
          have HVL : Hid (vars.length ≤ 32) := Lib.hid hv
          go_upto_region 7 with fail
          go_wp2_with (first
            | (refine wpList_put_new (b := m) (k := .string s) (v := .int .i64 1) _ rfl _ _ _ _ rfl Try.underlying66 Try.underlying9 rfl rfl rfl HJ3.out.met (isKey_str s) (metKv_no HNO.out) ?_; intro w4 hM4 hg4 hs4; have HM4 := Lib.hid hM4; have HG4 := Lib.hid hg4; clear hM4 hg4 hs4 f12 f13 hlk p0 p1 q0 q1; obtain ⟨how4, hrow4⟩ := HJ3.out.newOwn HG4.out; have HO4 := Lib.hid how4; have f12 : w4.cell? ⟨g, 12, none⟩ = some (.slice vva vars.length vvc) := hrow4.cell (i := 12) rfl; clear how4 hrow4)
            | (at_builtin; refine wpList_append_sl _ rfl _ _ 22 rfl elSt rfl (own_ext HO4.out (Ext.alloc _ _)) rfl (Sl.new _ #[.string s] 9 1 1 (Nat.le_refl _) ?_) rfl ?_ ?_ ?_ ?_ ?_))
          · unfold maxLen; omega
          · rfl
          · have := HVL.out; omega
          · have := HVL.out; unfold maxLen; omega
          · have h1 := HJ3.out.rd.ext.size; have h2 := HG4.out.size; simp; omega
          intro v' w6 how6 hb6 hg6 happ6
          obtain ⟨va, vc, rfl⟩ := own_vw how6
          obtain ⟨own', hj7, hc7⟩ := HJ3.out.newVar HM4.out HG4.out (Ext.alloc _ _) how6 hg6 happ6
          have hrow6 := HJ3.out.newRow HM4.out HG4.out (Ext.alloc _ _) hg6
          have f12' : w6.cell? ⟨g, 12, none⟩ = some (.slice vva vars.length vvc) := hrow6.cell (i := 12) rfl
          have f12f := hrow6.frozen 12
          have hb7 := HB3.out.chg hc7 HXO3.out
          have HJ7 := Lib.hid hj7
          have HC7 := Lib.hid (HC3.out.trans hc7)
          replace HB3 := Lib.hid hb7.1
          replace HXO3 := Lib.hid hb7.2
          clear HJ3 HC3 HM4 HG4 HO4 f12 how6 hb6 hg6 happ6 hj7 hc7 hrow6 hb7
          have HJ3 := HJ7
          have HC3 := HC7
          clear HJ7 HC7
          obtain ⟨p0, p1, q0, q1⟩ := HB3.out.facts2
          go_wp2_with fail
          have hb4 := ((HB3.out.set 0 (.bool false)).set 1 (.string s)).facts2
          obtain ⟨p2, p3, _, _⟩ := hb4
          have hg4 := grown_set (w6.setCell ⟨g, 12, none⟩ (.slice va (vars.length + 1) vc)) x 0 (.bool false)
          have hg5 := grown_set ((w6.setCell ⟨g, 12, none⟩ (.slice va (vars.length + 1) vc)).setCell ⟨x, 0, none⟩ (.bool false)) x 1 (.string s)
          refine bodyPost_ret (v := .agg #[.bool false, .string s]) (by simp [results, Try.results112, go_sem, p2, p3]) rfl ⟨rfl, _, ⟨_, _, _, (HJ3.out.side hg4 HXO3.out HX00.out).side hg5 HXO3.out HX00.out⟩, (HC3.out.side hg4 (Nat.le_of_eq HXE.out)).side hg5 (Nat.le_of_eq HXE.out)⟩
    · have htp : takeP ts 1 p = .error p := by unfold takeP; rw [if_neg hk3]
      have hres : termP ts vars p = .error p := by unfold termP; rw [if_neg hk2, if_neg hk3]
      rw [hres]
      rw [htp] at htk2
      generalize kindAt ts p = kk at *
      have HK1 := Lib.hid hk1
      have HTK := Lib.hid htk2
      clear hk1 htk2 hk2 hk3 htp hres
      go_enter Try.func112, Try.ntmps112
      go_upto_region 1 with fail
      generalize w.alloc (.cells #[.bool false, .string ⟨#[]⟩] 62) = w1 at *
      try simp only [hx]
      clear hx
      go_wp2_with fail
      refine HK1.out.mono ?_
      rintro en w2 ⟨rfl, hx2⟩
      have HTK2 := Lib.hid (HTK.out w2 (HJ1.out.grow hx2))
      have HC2 : Hid (Chg own w own w2) := Lib.hid (Chg.ext (HX0.out.trans hx2))
      clear hx2 HK1 HJ1 HB1 HTK
      go_wp2_with fail
      refine HTK2.out.mono ?_
      rintro en w3 ⟨rfl, hr3, hg3⟩
      have HR3 := Lib.hid hr3
      have HC3 := Lib.hid (HC2.out.trans (Chg.grown hg3 HGI.out))
      clear hr3 hg3 HTK2
      unfold wrongE
      go_wp2_with fail
      exact ⟨rfl, rfl, ⟨_, HR3.out⟩, _, HC3.out⟩
end Go.Proofs.Ytngnplghjaojhaa

/- Two tokens are taken, one behind the other. -/
namespace Go.Proofs.Ytngnplghjaojhaa
set_option maxRecDepth 100000
set_option maxHeartbeats 2000000
set_option linter.unusedSimpArgs false
open Go.RowKit Go.Shelf Go.Sort
attribute [local go_sem] Oper.semAt_some wide_fn wide_depth
set_option linter.unusedVariables false

def takesP (ts : List Tk) : List Int → Nat → Except Nat (Unit × Nat)
  | [], p => .ok ((), p)
  | k :: ks, p => (takeP ts k p).bind fun (_, p) => takesP ts ks p
set_option maxHeartbeats 1000000 in
theorem takes_two {w0 : World} {ts : List Tk} {tv : Value} {g : Nat} {c : Rc} {p : Nat} {w : World} (h : RdT w0 ts tv g c p w) (k0 k1 : Int) (hk0 : k0 ≠ 0) (hk1 : k1 ≠ 0) (hl : ts.length ≤ 1000000) {b : Nat} (hb : RowAt w b 3 [.int .i64 k0, .int .i64 k1]) (hbg : b ≠ g) :
    Calls Try.prog 113 #[.pointer (some ⟨g, 0, none⟩), .slice (some ⟨b, 0, none⟩) 2 2] w (OutT w0 ts tv g c w (fun _ => .tuple #[]) (takesP ts [k0, k1] p)) := by
  have H := Lib.hid h
  have HB := Lib.hid hb
  have HBG := Lib.hid hbg
  clear h hb hbg
  go_enter Try.func113, Try.ntmps113
  go_wp2_with fail
  go_loopg [5, 8] 2 (fun gg s5 i wi => ∃ (j q : Nat), j ≤ 2 ∧ gg = 2 - j ∧ i = .int .i64 j ∧ Hid (takesP ts [k0, k1] p = takesP ts ([k0, k1].drop j) q ∧ RdT w0 ts tv g c q wi ∧ w.grownBy wi (some g)))
  case atStart => exact ⟨0, p, Nat.zero_le _, rfl, rfl, Lib.hid ⟨rfl, H.out, grown_of_ext (Ext.refl _) g⟩⟩
  case round =>
    obtain ⟨j, q, hj, hgg, rfl, hh⟩ := hrel
    have Hg := Lib.hid hgg
    clear hgg
    obtain ⟨h1, h2, h3⟩ := hh.out
    have HQ := Lib.hid h1
    have HR := Lib.hid h2
    have HG := Lib.hid h3
    clear h1 h2 h3 hh
    have hbr := HB.out.kept HG.out (fun e => HBG.out (Option.some.inj e).symm)
    by_cases hlt : j < 2
    · have hd : ∃ k : Int, k ≠ 0 ∧ [k0, k1].drop j = k :: [k0, k1].drop (j + 1) ∧ wr.cell? ⟨b, j, none⟩ = some (.int .i64 k) := by
        have hc : j = 0 ∨ j = 1 := by omega
        rcases hc with rfl | rfl
        · exact ⟨k0, hk0, rfl, hbr.cell (i := 0) rfl⟩
        · exact ⟨k1, hk1, rfl, hbr.cell (i := 1) rfl⟩
      obtain ⟨k, hk, hdk, hck⟩ := hd
      have htk := take_any HR.out k hk hl
      rw [hdk] at HQ
      have HTK := Lib.hid htk
      clear hdk htk hk hbr
      by_cases hkk : kindAt ts q = k
      · have htp : takeP ts k q = .ok (textAt ts q, q + 1) := by unfold takeP; rw [if_pos hkk]
        rw [htp] at HTK
        have HQ2 : Hid (takesP ts [k0, k1] p = takesP ts ([k0, k1].drop (j + 1)) (q + 1)) := Lib.hid (by rw [HQ.out]; show (takeP ts k q).bind _ = _; rw [htp]; rfl)
        clear hkk htp
        go_wp2_with fail
        refine HTK.out.mono ?_
        rintro en w2 ⟨rfl, hr2, hg2⟩
        have HF := Lib.hid (⟨HQ2.out, hr2, HG.out.trans hg2⟩ : takesP ts [k0, k1] p = takesP ts ([k0, k1].drop (j + 1)) (q + 1) ∧ RdT w0 ts tv g c (q + 1) w2 ∧ w.grownBy w2 (some g))
        clear hr2 hg2 HTK
        go_wp2_with fail
        go_roundg (2 - (j + 1))
        case measure => have := Hg.out; omega
        case rel => exact ⟨j + 1, q + 1, by omega, rfl, by go_num, HF⟩
      · have htp : takeP ts k q = .error q := by unfold takeP; rw [if_neg hkk]
        rw [htp] at HTK
        have HQ2 : Hid (takesP ts [k0, k1] p = .error q) := Lib.hid (by rw [HQ.out]; show (takeP ts k q).bind _ = _; rw [htp]; rfl)
        clear hkk htp
        go_wp2_with fail
        refine HTK.out.mono ?_
        rintro en w2 ⟨rfl, hr2, hg2⟩
        have HR2 := Lib.hid hr2
        have HG2 := Lib.hid (HG.out.trans hg2)
        clear hr2 hg2 HTK
        unfold wrongE
        go_wp2_with fail
        refine ⟨rfl, ?_⟩
        rw [HQ2.out]
        exact ⟨rfl, HR2.out, HG2.out⟩
    · have HQ2 : Hid (takesP ts [k0, k1] p = .ok ((), q)) := Lib.hid (by
        have hj2 : j = 2 := by omega
        have := HQ.out
        rw [hj2] at this
        exact this)
      clear hbr
      go_wp2_with fail
      go_end0
      rw [HQ2.out]
      exact ⟨rfl, HR.out, HG.out⟩
end Go.Proofs.Ytngnplghjaojhaa

/- The reader's small steps, in its own words; what an atom's box owes. -/
namespace Go.Proofs.Ytngnplghjaojhaa
set_option maxRecDepth 100000
set_option maxHeartbeats 2000000
set_option linter.unusedSimpArgs false
open Go.RowKit Go.Shelf Go.Sort
set_option linter.unusedVariables false

section
variable {w0 : World} {ts : List Tk} {tv : Value} {g : Nat} {own : List Nat} {p : Nat} {atoms : List Atm} {vars : List ByteArray} {d e : Nat} {av vv : Value} {m : Nat} {W : World}
theorem may_yes (h : RdJ w0 ts tv g own ⟨p, atoms, vars⟩ d e av vv m W) {k : Int} (hk : kindAt ts p = k) (hk0 : k ≠ 0) (hl : ts.length ≤ 1000000) :
    Calls Try.prog 78 #[.pointer (some ⟨g, 0, none⟩), .int .i64 k] W fun en w' => en = .returned (.bool true) ∧ RdJ w0 ts tv g own ⟨p + 1, atoms, vars⟩ d e av vv m w' ∧ Chg own W own w' :=
  (may_any' h.rd k hk0 hl).mono fun en w' ⟨h1, h2, h3⟩ => by
    rw [decide_eq_true hk] at h1 h2
    exact ⟨h1, h.turn h2 h3, Chg.grown h3 h.gin⟩
theorem may_no (h : RdJ w0 ts tv g own ⟨p, atoms, vars⟩ d e av vv m W) {k : Int} (hk : kindAt ts p ≠ k) (hk0 : k ≠ 0) (hl : ts.length ≤ 1000000) :
    Calls Try.prog 78 #[.pointer (some ⟨g, 0, none⟩), .int .i64 k] W fun en w' => en = .returned (.bool false) ∧ RdJ w0 ts tv g own ⟨p, atoms, vars⟩ d e av vv m w' ∧ Chg own W own w' :=
  (may_any' h.rd k hk0 hl).mono fun en w' ⟨h1, h2, h3⟩ => by
    rw [decide_eq_false hk] at h1 h2
    exact ⟨h1, h.turn h2 h3, Chg.grown h3 h.gin⟩
theorem take_yes (h : RdJ w0 ts tv g own ⟨p, atoms, vars⟩ d e av vv m W) {k : Int} (hk : kindAt ts p = k) (hk0 : k ≠ 0) (hl : ts.length ≤ 1000000) :
    Calls Try.prog 101 #[.pointer (some ⟨g, 0, none⟩), .int .i64 k] W fun en w' => en = .returned (.string (textAt ts p)) ∧ RdJ w0 ts tv g own ⟨p + 1, atoms, vars⟩ d e av vv m w' ∧ Chg own W own w' :=
  (take_any h.rd k hk0 hl).mono fun en w' h' => by
    unfold takeP at h'
    rw [if_pos hk] at h'
    obtain ⟨h1, h2, h3⟩ := h'
    exact ⟨h1, h.turn h2 h3, Chg.grown h3 h.gin⟩
theorem take_no (h : RdJ w0 ts tv g own ⟨p, atoms, vars⟩ d e av vv m W) {k : Int} (hk : kindAt ts p ≠ k) (hk0 : k ≠ 0) (hl : ts.length ≤ 1000000) :
    Calls Try.prog 101 #[.pointer (some ⟨g, 0, none⟩), .int .i64 k] W (BadI w0 ts tv g own W p) :=
  (take_any h.rd k hk0 hl).mono fun en w' h' => by
    unfold takeP at h'
    rw [if_neg hk] at h'
    obtain ⟨h1, h2, h3⟩ := h'
    exact ⟨h1, ⟨_, h2⟩, _, Chg.grown h3 h.gin⟩
theorem bad_at (h : RdJ w0 ts tv g own ⟨p, atoms, vars⟩ d e av vv m W) (k : Nat) (hk : k ≤ p) (hl : ts.length ≤ 1000000) :
    Calls Try.prog 53 #[.pointer (some ⟨g, 0, none⟩), .int .i64 k] W (BadI w0 ts tv g own W (p - k)) :=
  (bad_any h.rd k hk (by omega)).mono fun en w' ⟨h1, h2, h3⟩ => ⟨h1, ⟨_, h2⟩, _, Chg.grown h3 h.gin⟩
theorem BadI.from_ {own1 : List Nat} {w w1 : World} {q : Nat} {en : Ending} {w' : World} (hc : Chg own w own1 w1) (h : BadI w0 ts tv g own1 w1 q en w') : BadI w0 ts tv g own w q en w' :=
  ⟨h.1, h.2.1, by obtain ⟨o, h3⟩ := h.2.2; exact ⟨o, hc.trans h3⟩⟩
theorem RdJ.le0 (h : RdJ w0 ts tv g own ⟨p, atoms, vars⟩ d e av vv m W) : w0.heap.size ≤ W.heap.size := h.rd.ext.size
end
theorem termP_len {ts : List Tk} {vars vars' : List ByteArray} {p q : Nat} {t : Bool × ByteArray} (h : termP ts vars p = .ok (t, vars', q)) (hv : vars.length ≤ 32) : vars'.length ≤ 32 := by
  unfold termP at h
  split at h
  · cases h; exact hv
  · split at h
    · split at h
      · cases h; exact hv
      · split at h
        · cases h
        · rename_i h32
          cases h
          rw [List.length_append]
          simp
          omega
    · cases h
/-- An atom's box, kept by the call that reads it. -/
structure AtBox (w : World) (x : Nat) (own : List Nat) (a : Atm) (W : World) : Prop where
  row : RowAt W x 64 (atCells a)
  out : x ∉ own
  new : w.heap.size ≤ x
theorem AtBox.chg {w : World} {x : Nat} {own own' : List Nat} {a : Atm} {W W' : World} (h : AtBox w x own a W) (hc : Chg own W own' W') : AtBox w x own' a W' := ⟨(h.row.chg hc h.out).1, (h.row.chg hc h.out).2, h.new⟩
theorem AtBox.facts {w : World} {x : Nat} {own : List Nat} {a : Atm} {W : World} (h : AtBox w x own a W) : (W.cell? ⟨x, 0, none⟩ = some (.int .i64 a.kind) ∧ W.cell? ⟨x, 1, none⟩ = some (.bool a.fk) ∧ W.cell? ⟨x, 2, none⟩ = some (.string a.fn) ∧ W.cell? ⟨x, 3, none⟩ = some (.string a.name) ∧
    W.cell? ⟨x, 4, none⟩ = some (.string a.value) ∧ W.cell? ⟨x, 5, none⟩ = some (.bool a.tk) ∧ W.cell? ⟨x, 6, none⟩ = some (.string a.tn)) ∧ (∀ i, W.frozen? ⟨x, i, none⟩ = false) :=
  ⟨⟨h.row.cell (i := 0) rfl, h.row.cell (i := 1) rfl, h.row.cell (i := 2) rfl, h.row.cell (i := 3) rfl, h.row.cell (i := 4) rfl, h.row.cell (i := 5) rfl, h.row.cell (i := 6) rfl⟩, fun i => h.row.frozen i⟩
/-- What reading an atom comes to. -/
def AtomQ (w0 : World) (ts : List Tk) (tv : Value) (g : Nat) (own : List Nat) (d : Nat) (w : World) (r : Except Nat PS) (en : Ending) (w' : World) : Prop := match r with
  | .ok st => en = .returned (.tuple #[]) ∧ ∃ own', RdP w0 ts tv g own' st d (edgesOf st.atoms) w' ∧ Chg own w own' w'
  | .error q => BadI w0 ts tv g own w q en w'
theorem atomQ_bad {w0 : World} {ts : List Tk} {tv : Value} {g : Nat} {own : List Nat} {d : Nat} {w : World} {r : Except Nat PS} {en : Ending} {w' : World} {q : Nat} (hr : r = .error q) (h : BadI w0 ts tv g own w q en w') : AtomQ w0 ts tv g own d w r en w' := by
  rw [hr]; exact h
section
variable {w0 : World} {ts : List Tk} {tv : Value} {g : Nat} {own : List Nat} {st : PS} {d e : Nat} {av vv : Value} {m : Nat} {W : World}
theorem at_set {own0 : List Nat} {w : World} {x : Nat} {a : Atm} (hj : RdJ w0 ts tv g own st d e av vv m W) (hb : AtBox w x own a W) (hc : Chg own0 w own W) (h0 : w0.heap.size ≤ w.heap.size) (i : Nat) (v : Value) {a' : Atm} (ha : (atCells a).set i v = atCells a') :
    RdJ w0 ts tv g own st d e av vv m (W.setCell ⟨x, i, none⟩ v) ∧ AtBox w x own a' (W.setCell ⟨x, i, none⟩ v) ∧ Chg own0 w own (W.setCell ⟨x, i, none⟩ v) :=
  ⟨hj.side (grown_set W x i v) hb.out (Nat.le_trans h0 hb.new), ⟨ha ▸ hb.row.set i v, hb.out, hb.new⟩, hc.side (grown_set W x i v) hb.new⟩
theorem RdJ.newAtom (h : RdJ w0 ts tv g own st d e av vv m W) {a : Atm} {W2 W3 : World} {v' : Value} (hx : Ext W W2)
    (how : W3.ownsRow w0.heap.size 64 7 v' (st.atoms.length + 1) (st.atoms.flatMap atCells ++ atCells a)) (hg2 : W2.grownBy W3 av.ownBlock) (happ : v'.ownBlock = av.ownBlock ∨ v'.ownBlock = some W2.heap.size) :
    (∃ own', RdJ w0 ts tv g own' ⟨st.p, st.atoms ++ [a], st.vars⟩ d e v' vv m (W3.setCell ⟨g, 0, none⟩ v') ∧ Chg own W own' (W3.setCell ⟨g, 0, none⟩ v')) ∧ RowAt W3 g 68 (rdRowP (rcI av vv m d e) tv st.p) := by
  have hg3 := grown_set W3 g 0 v'
  have a2 := own_ext h.atoms hx
  have v2 := own_ext h.vars hx
  have r2 := h.rd.row.ext hx
  have m2 := h.met.ext hx
  have v3 := own_apart v2 hg2 (fun b hb e => own_ne_own v2 a2 (by decide) b hb e)
  have r3 : RowAt W3 g 68 (rdRowP (rcI av vv m d e) tv st.p) := r2.kept hg2 (fun e => own_ne_row a2 r2 (by decide) g e rfl)
  have m3 := m2.kept hg2 (fun e => own_ne_map a2 m2 m e rfl)
  have a4 := own_turn how r3 (by decide) hg3
  have v4 := own_turn v3 r3 (by decide) hg3
  have m4 := m3.kept hg3 (fun e => h.gm (Option.some.inj e))
  have r4 : RowAt (W3.setCell ⟨g, 0, none⟩ v') g 68 (rdRowP (rcI v' vv m d e) tv st.p) := r3.set 0 v'
  have c2 : Chg own W own W2 := Chg.ext (own := own) hx
  have c3 := c2.trans (Chg.row hg2 h.ain)
  have c4 := c3.trans (Chg.grown hg3 h.gin)
  have e4 : Ext w0 (W3.setCell ⟨g, 0, none⟩ v') := ⟨c4.os.trans h.rd.ext.os, c4.tape.trans h.rd.ext.tape, c4.output.trans h.rd.ext.output, Nat.le_trans h.rd.ext.size c4.size, fun b hb => (c4.block b (Nat.lt_of_lt_of_le hb h.rd.ext.size) (fun hm => by have := (h.lo b hm).1; omega)).trans (h.rd.ext.block b hb)⟩
  have rd4 : RdT w0 ts tv g (rcI v' vv m d e) st.p (W3.setCell ⟨g, 0, none⟩ v') := ⟨e4, h.rd.toks, h.rd.lo, r4, h.rd.le, h.rd.szs⟩
  have vl : ∀ b, v'.ownBlock = some b → w0.heap.size ≤ b ∧ b < (W3.setCell ⟨g, 0, none⟩ v').heap.size := fun b hb => a4.lt b hb
  refine ⟨⟨v'.ownBlock.toList ++ own, ⟨rd4, List.mem_append_right _ h.gin, List.mem_append_right _ h.min_, h.gm, fun b hb => ?_, ?_, fun b hb => List.mem_append_left _ (by rw [hb]; simp), v4, fun b hb => List.mem_append_right _ (h.vin b hb), m4⟩, ⟨c4.os, c4.tape, c4.output, c4.size, c4.block, fun b hb => ?_⟩⟩, r3⟩
  · rcases List.mem_append.1 hb with h1 | h1
    · exact vl b (by simpa using h1)
    · exact ⟨(h.lo b h1).1, Nat.lt_of_lt_of_le (h.lo b h1).2 c4.size⟩
  · rw [List.length_append, List.flatMap_append, List.flatMap_cons, List.flatMap_nil, List.append_nil]
    exact a4
  · rcases List.mem_append.1 hb with h1 | h1
    · rcases happ with h2 | h2
      · exact .inl (h.ain b (by rw [← h2]; simpa using h1))
      · rw [h2] at h1
        simp at h1
        exact .inr (by have := hx.size; omega)
    · exact .inl h1
end
theorem elAt : ElT Try.prog 24 64 (.agg #[.int .i64 0, .bool false, .string ⟨#[]⟩, .string ⟨#[]⟩, .string ⟨#[]⟩, .bool false, .string ⟨#[]⟩]) 7 88 := ⟨Try.underlying24, ⟨_, rfl, by kernel_rfl, by kernel_rfl, by kernel_rfl⟩, rfl, by decide⟩
theorem step_app {P : Program} {w : World} {ops : Array Oper} {o : Oper} {a : Act} {K : Act → World → Prop} {Q : Exit → Act → World → Prop} {E : Prop} (hgd : o.guard = none) (s x : Operand) (t : TypeId)
    (ho : o.op = .call { callee := .builtin .append, args := #[s, x], argTypes := #[t, t] })
    {base : Nat} {e : TypeId} {z : Value} {size bytes : Nat} (T : ElT P t e z size bytes) {v : Value} {n : Nat} {xs : List Value} (hs : a.eval s = v) (hown : w.ownsRow base e size v n xs)
    {u : Value} {m : Nat} {news : List Value} (hx : a.eval x = u) (hu : Sl w u m news) (hl : news.length = m * size)
    (h1 : ∀ x ∈ news, x.oneCell' = true) (hb : (n + m) * bytes ≤ 140737488355328) (h63 : n + m ≤ maxLen) (hbase : base ≤ w.heap.size)
    (h : ∀ v' w', w'.ownsRow base e size v' (n + m) (xs ++ news) → Below base w w' → w.grownBy w' v.ownBlock → AppAt v v' w → K (a.put o.dst v') w') :
    if Region.wanted o (yielded ops a.tmps) = true then Oper.wp P o a w K Q else E := by
  rw [if_pos (by simp [Region.wanted, hgd])]
  exact wp_append_sl w s x t ho T hs hown hx hu hl h1 hb h63 hbase h
theorem atomQ_ok {w0 : World} {ts : List Tk} {tv : Value} {g : Nat} {own own' : List Nat} {d e : Nat} {av vv : Value} {m : Nat} {w : World} {r : Except Nat PS} {w' : World} {st : PS} (hr : r = .ok st) (he : e = edgesOf st.atoms) (hj : RdJ w0 ts tv g own' st d e av vv m w') (hc : Chg own w own' w') :
    AtomQ w0 ts tv g own d w r (.returned (.tuple #[])) w' := by
  subst hr he
  exact ⟨rfl, own', ⟨av, vv, m, hj⟩, hc⟩
theorem edges_no (l : List Atm) (a : Atm) (h : a.kind ≠ 4) : edgesOf l = edgesOf (l ++ [a]) := by unfold edgesOf; rw [List.filter_append]; simp [h]
theorem edges_yes (l : List Atm) (a : Atm) (h : a.kind = 4) : edgesOf l + 1 = edgesOf (l ++ [a]) := by unfold edgesOf; rw [List.filter_append]; simp [h]
section
variable {w0 : World} {ts : List Tk} {tv : Value} {g : Nat} {own : List Nat} {p : Nat} {atoms : List Atm} {vars : List ByteArray} {d e : Nat} {av vv : Value} {m : Nat} {W : World}
theorem RdJ.edge (h : RdJ w0 ts tv g own ⟨p, atoms, vars⟩ d e av vv m W) : RdJ w0 ts tv g own ⟨p, atoms, vars⟩ d (e + 1) av vv m (W.setCell ⟨g, 11, none⟩ (.int .i64 (e + 1 : Nat))) ∧ Chg own W own (W.setCell ⟨g, 11, none⟩ (.int .i64 (e + 1 : Nat))) :=
  ⟨h.turn ⟨Ext.set_of h.rd.ext h.rd.lo _, h.rd.toks, h.rd.lo, h.rd.row.set 11 _, h.rd.le, h.rd.szs⟩ (grown_set W g 11 _), Chg.grown (grown_set W g 11 _) h.gin⟩
theorem RdJ.depth (h : RdJ w0 ts tv g own ⟨p, atoms, vars⟩ d e av vv m W) (d' : Nat) : RdJ w0 ts tv g own ⟨p, atoms, vars⟩ d' e av vv m (W.setCell ⟨g, 10, none⟩ (.int .i64 d')) ∧ Chg own W own (W.setCell ⟨g, 10, none⟩ (.int .i64 d')) :=
  ⟨h.turn ⟨Ext.set_of h.rd.ext h.rd.lo _, h.rd.toks, h.rd.lo, h.rd.row.set 10 _, h.rd.le, h.rd.szs⟩ (grown_set W g 10 _), Chg.grown (grown_set W g 10 _) h.gin⟩
theorem takes_yes (h : RdJ w0 ts tv g own ⟨p, atoms, vars⟩ d e av vv m W) {b : Nat} (hb : RowAt W b 3 [.int .i64 11, .int .i64 4]) (h1 : kindAt ts p = 11) (h2 : kindAt ts (p + 1) = 4) (hl : ts.length ≤ 1000000) :
    Calls Try.prog 113 #[.pointer (some ⟨g, 0, none⟩), .slice (some ⟨b, 0, none⟩) 2 2] W fun en w' => en = .returned (.tuple #[]) ∧ RdJ w0 ts tv g own ⟨p + 1 + 1, atoms, vars⟩ d e av vv m w' ∧ Chg own W own w' :=
  (takes_two h.rd 11 4 (by decide) (by decide) hl hb (fun e => by
    subst e
    have h1 := (show W.heap[b]? = _ from hb).symm.trans h.rd.row
    simp [rdRowP] at h1)).mono fun en w' h' => by
    have ht : takesP ts [11, 4] p = .ok ((), p + 1 + 1) := by unfold takesP takeP takesP takesP takeP; rw [if_pos h1]; simp [Except.bind, h2]
    dsimp only at h'
    rw [ht] at h'
    obtain ⟨a1, a2, a3⟩ := h'
    exact ⟨a1, h.turn a2 a3, Chg.grown a3 h.gin⟩
theorem takes_no (h : RdJ w0 ts tv g own ⟨p, atoms, vars⟩ d e av vv m W) {b : Nat} (hb : RowAt W b 3 [.int .i64 11, .int .i64 4]) {q : Nat} (hq : takesP ts [11, 4] p = .error q) (hl : ts.length ≤ 1000000) :
    Calls Try.prog 113 #[.pointer (some ⟨g, 0, none⟩), .slice (some ⟨b, 0, none⟩) 2 2] W (BadI w0 ts tv g own W q) :=
  (takes_two h.rd 11 4 (by decide) (by decide) hl hb (fun e => by
    subst e
    have h1 := (show W.heap[b]? = _ from hb).symm.trans h.rd.row
    simp [rdRowP] at h1)).mono fun en w' h' => by
    dsimp only at h'
    rw [hq] at h'
    obtain ⟨a1, a2, a3⟩ := h'
    exact ⟨a1, ⟨_, a2⟩, _, Chg.grown a3 h.gin⟩
end
end Go.Proofs.Ytngnplghjaojhaa
