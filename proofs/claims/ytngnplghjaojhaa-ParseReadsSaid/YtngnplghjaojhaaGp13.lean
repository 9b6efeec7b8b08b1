/- An atom is read. -/
import Derived.Test.YtngnplghjaojhaaGp11
namespace Go.Proofs.Ytngnplghjaojhaa
set_option maxRecDepth 100000
set_option maxHeartbeats 2000000
set_option linter.unusedSimpArgs false
open Go.RowKit Go.Shelf Go.Sort
attribute [local go_sem] Oper.semAt_some wide_fn wide_depth
set_option linter.unusedVariables false

def groA16 : Nat → Gro
  | 5 => .read
  | 6 => .read
  | 7 => .grow
  | 8 => .write
  | 12 => .write
  | _ => .pure
set_option maxRecDepth 100000 in
set_option maxHeartbeats 4000000 in
theorem atom_any {w0 : World} {ts : List Tk} {tv : Value} {g : Nat} {own : List Nat} {p : Nat} {atoms : List Atm} {vars : List ByteArray} {d : Nat} {w : World} (h : RdP w0 ts tv g own ⟨p, atoms, vars⟩ d (edgesOf atoms) w) (hl : ts.length ≤ 1000000) (hv : vars.length ≤ 32) (ha : atoms.length ≤ 39) (he : edgesOf atoms ≤ 6) :
    Calls Try.prog 103 #[.pointer (some ⟨g, 0, none⟩)] w (AtomQ w0 ts tv g own d w (atomP ts ⟨p, atoms, vars⟩)) := by
  have hmo : Try.prog.follows .mixedOrders = true := by kernel_rfl
  have hle0 : w0.heap.size ≤ w.heap.size := by obtain ⟨_, _, _, hj⟩ := h; exact hj.le0
  have HLE0 := Lib.hid hle0
  have htm := term_any h hl hv
  dsimp only at htm
  have HTM := Lib.hid htm
  clear h htm hle0
  cases ht : termP ts vars p with
  | error q =>
    have hres : atomP ts ⟨p, atoms, vars⟩ = .error q := by unfold atomP; rw [ht]; rfl
    rw [ht] at HTM
    rw [hres]
    clear ht hres
    go_enter Try.func103, Try.ntmps103
    go_wp2_with fail
    refine HTM.out.mono ?_
    rintro en w1 hb
    have HB := Lib.hid (show BadI w0 ts tv g own w q en w1 from hb)
    obtain ⟨rfl, hb2⟩ := HB.out
    clear hb hb2
    unfold wrongE
    go_wp2_with fail
    exact ⟨rfl, HB.out⟩
  | ok r =>
    obtain ⟨⟨fk, fn⟩, vars1, p1⟩ := r
    have hv1 := termP_len ht hv
    rw [ht] at HTM
    have HT := Lib.hid ht
    clear ht
    go_enter Try.func103, Try.ntmps103
    go_wp2_with fail
    refine HTM.out.mono ?_
    rintro en w1 ⟨rfl, own1, ⟨av, vv, m, hj⟩, hc⟩
    dsimp only at hj
    have hx1 := Ext.alloc w1 (.cells #[.int .i64 1, .bool fk, .string fn, .string ⟨#[]⟩, .string ⟨#[]⟩, .bool false, .string ⟨#[]⟩] 64)
    have hbx : AtBox w w1.heap.size own1 ⟨1, fk, fn, nilB, nilB, false, nilB⟩ (w1.alloc (.cells #[.int .i64 1, .bool fk, .string fn, .string ⟨#[]⟩, .string ⟨#[]⟩, .bool false, .string ⟨#[]⟩] 64)) := ⟨RowAt.new _ _ (atCells ⟨1, fk, fn, nilB, nilB, false, nilB⟩), fun hm => by have := (hj.lo _ hm).2; omega, hc.size⟩
    have HBX := Lib.hid hbx
    have HJ := Lib.hid (hj.grow hx1)
    have HC := Lib.hid (hc.trans (Chg.ext (own := own1) hx1))
    have H0 := HLE0
    obtain ⟨x, hx⟩ : ∃ x, w1.heap.size = x := ⟨_, rfl⟩
    clear hx1 hbx hj hc HTM
    go_upto_region 1 with fail
    generalize w1.alloc (.cells #[.int .i64 1, .bool fk, .string fn, .string ⟨#[]⟩, .string ⟨#[]⟩, .bool false, .string ⟨#[]⟩] 64) = w2 at *
    rw [hx] at HBX
    try simp only [hx]
    clear hx
    by_cases k7 : kindAt ts p1 = 7
    · have K7 := Lib.hid k7
      clear k7
      go_wp2_with fail
      refine (may_yes HJ.out K7.out (by decide) hl).mono ?_
      rintro en w3 ⟨rfl, hj9, hc9⟩
      replace HBX := Lib.hid (HBX.out.chg hc9)
      replace HC := Lib.hid (HC.out.trans hc9)
      clear HJ
      have HJ := Lib.hid hj9
      clear hj9 hc9
      by_cases k1 : kindAt ts (p1 + 1) = 1
      · have K1 := Lib.hid k1
        clear k1
        go_wp2_with fail
        refine (take_yes HJ.out K1.out (by decide) hl).mono ?_
        rintro en w4 ⟨rfl, hj9, hc9⟩
        replace HBX := Lib.hid (HBX.out.chg hc9)
        replace HC := Lib.hid (HC.out.trans hc9)
        clear HJ
        have HJ := Lib.hid hj9
        clear hj9 hc9
        generalize htx : textAt ts (p1 + 1) = nm at *
        have HNM := Lib.hid htx
        clear htx
        obtain ⟨⟨b0, b1, b2, b3, b4, b5, b6⟩, hbf⟩ := HBX.out.facts
        dsimp only at b0 b1 b2 b3 b4 b5 b6
        have f0 := hbf 0
        have f3 := hbf 3
        have f4 := hbf 4
        have f5 := hbf 5
        have f6 := hbf 6
        clear hbf
        obtain ⟨hj1, hb1', hc1⟩ := at_set HJ.out HBX.out HC.out H0.out 0 (.int .i64 2) (a' := ⟨2, fk, fn, nilB, nilB, false, nilB⟩) rfl
        obtain ⟨hj2, hb2', hc2⟩ := at_set hj1 hb1' hc1 H0.out 3 (.string nm) (a' := ⟨2, fk, fn, nm, nilB, false, nilB⟩) rfl
        replace HBX := Lib.hid hb2'
        replace HC := Lib.hid hc2
        clear HJ
        have HJ := Lib.hid hj2
        clear hj1 hj2 hb1' hb2' hc1 hc2
        go_upto_region 7 with fail
        clear b0 b1 b2 b3 b4 b5 b6 f0 f3 f4 f5 f6
        generalize (w4.setCell ⟨x, 0, none⟩ (.int .i64 2)).setCell ⟨x, 3, none⟩ (.string nm) = w5 at *
        by_cases k5 : kindAt ts (p1 + 1 + 1) = 5
        · have K5 := Lib.hid k5
          clear k5
          go_wp2_with fail
          refine (take_yes HJ.out K5.out (by decide) hl).mono ?_
          rintro en w7 ⟨rfl, hj9, hc9⟩
          replace HBX := Lib.hid (HBX.out.chg hc9)
          replace HC := Lib.hid (HC.out.trans hc9)
          clear HJ
          have HJ := Lib.hid hj9
          clear hj9 hc9
          obtain ⟨⟨b0, b1, b2, b3, b4, b5, b6⟩, hbf⟩ := HBX.out.facts
          dsimp only at b0 b1 b2 b3 b4 b5 b6
          have f0 := hbf 0
          have f3 := hbf 3
          have f4 := hbf 4
          have f5 := hbf 5
          have f6 := hbf 6
          clear hbf
          go_upto_region 16 with fail
          clear b0 b1 b2 b3 b4 b5 b6 f0 f3 f4 f5 f6
          go_upto_region 16 with fail
          refine wp_region_gro groA16 [0, 1, 2, 3, 4, 5, 6, 7, 8, 9, 10, 11, 12] hmo (by kernel_rfl) rfl (by kernel_rfl) (fun _ _ _ _ _ h => h) ?_
          have hdr : Ext w7 (w7).drew := Ext.drewN _ 1
          replace HBX := Lib.hid (HBX.out.chg (Chg.ext hdr))
          replace HC := Lib.hid (HC.out.trans (Chg.ext hdr))
          have hj9 := HJ.out.grow hdr
          clear HJ
          have HJ := Lib.hid hj9
          clear hj9 hdr
          generalize (w7).drew = wz at *
          obtain ⟨ava, avc, rfl⟩ := own_vw HJ.out.atoms
          have g0 : wz.cell? ⟨g, 0, none⟩ = some (.slice ava atoms.length avc) := HJ.out.rd.row.cell (i := 0) rfl
          obtain ⟨⟨b0, b1, b2, b3, b4, b5, b6⟩, hbf⟩ := HBX.out.facts
          dsimp only at b0 b1 b2 b3 b4 b5 b6
          have f0 := hbf 0
          have f3 := hbf 3
          have f4 := hbf 4
          have f5 := hbf 5
          have f6 := hbf 6
          clear hbf
          repeat (first
            | (refine groL_pure rfl rfl ?_; intro K hK; go_simp; refine hK _ ?_; clear hK K)
            | (refine groL_read rfl rfl ?_; intro K S hS hK; go_simp; refine hK _ ?_; clear hK K hS S)
            | (refine groL_read rfl rfl ?_; intro K S hS hK; go_simp; refine ⟨hS _ ?_, hK _ ?_⟩; (clear hK K hS S; intro w' hx'; have hce := ext_some hx'; go_simp); clear hK K hS S)
            | (refine groL_write rfl rfl ?_; intro K hK; go_simp; refine hK _ _ ?_; clear hK K))
          refine groL_grow rfl rfl ?_
          intro K hK
          go_simp
          refine hK _ _ ⟨Ext.alloc _ _, ?_⟩
          clear hK K
          refine groL_write rfl rfl ?_
          intro K hK
          refine step_app rfl _ _ 24 rfl elAt rfl (own_ext HJ.out.atoms (Ext.alloc _ _)) rfl (Sl.new wz (atCells ⟨2, fk, fn, nm, nilB, false, nilB⟩).toArray 64 1 1 (Nat.le_refl _) (by unfold maxLen; omega)) rfl ?_ ?_ ?_ ?_ ?_
          · intro u hu
            simp [atCells] at hu
            rcases hu with rfl | rfl | rfl | rfl | rfl | rfl | rfl <;> rfl
          · dsimp only; omega
          · dsimp only; unfold maxLen; omega
          · have h1 := HJ.out.le0; simp; omega
          intro v' w6 how6 hb6 hg6 happ6
          obtain ⟨va, vc, rfl⟩ := own_vw how6
          obtain ⟨⟨own', hj7, hc7⟩, hrow6⟩ := HJ.out.newAtom (a := ⟨2, fk, fn, nm, nilB, false, nilB⟩) (Ext.alloc _ _) how6 hg6 happ6
          clear b0 b1 b2 b3 b4 b5 b6 f0 f3 f4 f5 f6
          clear g0
          have g0 : w6.cell? ⟨g, 0, none⟩ = some (.slice ava atoms.length avc) := hrow6.cell (i := 0) rfl
          have g0f := hrow6.frozen 0
          have HJ7 := Lib.hid hj7
          have HC7 := Lib.hid (HC.out.trans hc7)
          refine hK _ _ ?_
          clear hK K hj7 hc7 hrow6 how6 hb6 hg6 happ6
          repeat (first
            | (refine groL_pure rfl rfl ?_; intro K hK; go_simp; refine hK _ ?_; clear hK K)
            | (refine groL_read rfl rfl ?_; intro K S hS hK; go_simp; refine hK _ ?_; clear hK K hS S)
            | (refine groL_read rfl rfl ?_; intro K S hS hK; go_simp; refine ⟨hS _ ?_, hK _ ?_⟩; (clear hK K hS S; intro w' hx'; have hce := ext_some hx'; go_simp); clear hK K hS S)
            | (refine groL_write rfl rfl ?_; intro K hK; go_simp; refine hK _ _ ?_; clear hK K))
          refine groL_nil ?_
          clear g0 g0f
          go_wp2_with fail
          go_end0
          exact atomQ_ok (by unfold atomP midP takeP; rw [HT.out]; simp [Except.bind, K7.out, K1.out, K5.out, HNM.out]) (edges_no _ _ (by show (2 : Int) ≠ 4; decide)) HJ7.out HC7.out
        · have K5 := Lib.hid k5
          clear k5
          go_wp2_with fail
          refine (take_no HJ.out K5.out (by decide) hl).mono ?_
          rintro en w9 hbad
          have HBAD := Lib.hid (BadI.from_ HC.out hbad)
          obtain ⟨rfl, hb2⟩ := hbad
          clear hb2
          unfold wrongE
          go_wp2_with fail
          refine ⟨rfl, ?_⟩
          exact atomQ_bad (by unfold atomP midP takeP; rw [HT.out]; simp [Except.bind, K7.out, K1.out, K5.out]) HBAD.out
      · have K1 := Lib.hid k1
        clear k1
        go_wp2_with fail
        refine (take_no HJ.out K1.out (by decide) hl).mono ?_
        rintro en w9 hbad
        have HBAD := Lib.hid (BadI.from_ HC.out hbad)
        obtain ⟨rfl, hb2⟩ := hbad
        clear hb2
        unfold wrongE
        go_wp2_with fail
        refine ⟨rfl, ?_⟩
        exact atomQ_bad (by unfold atomP midP takeP; rw [HT.out]; simp [Except.bind, K7.out, K1.out]) HBAD.out
    · have K7 := Lib.hid k7
      clear k7
      go_wp2_with fail
      refine (may_no HJ.out K7.out (by decide) hl).mono ?_
      rintro en w3 ⟨rfl, hj9, hc9⟩
      replace HBX := Lib.hid (HBX.out.chg hc9)
      replace HC := Lib.hid (HC.out.trans hc9)
      clear HJ
      have HJ := Lib.hid hj9
      clear hj9 hc9
      by_cases k8 : kindAt ts p1 = 8
      · have K8 := Lib.hid k8
        clear k8
        go_wp2_with fail
        refine (may_yes HJ.out K8.out (by decide) hl).mono ?_
        rintro en w3 ⟨rfl, hj9, hc9⟩
        replace HBX := Lib.hid (HBX.out.chg hc9)
        replace HC := Lib.hid (HC.out.trans hc9)
        clear HJ
        have HJ := Lib.hid hj9
        clear hj9 hc9
        by_cases k1 : kindAt ts (p1 + 1) = 1
        · have K1 := Lib.hid k1
          clear k1
          go_wp2_with fail
          refine (take_yes HJ.out K1.out (by decide) hl).mono ?_
          rintro en w4 ⟨rfl, hj9, hc9⟩
          replace HBX := Lib.hid (HBX.out.chg hc9)
          replace HC := Lib.hid (HC.out.trans hc9)
          clear HJ
          have HJ := Lib.hid hj9
          clear hj9 hc9
          generalize htx : textAt ts (p1 + 1) = nm at *
          have HNM := Lib.hid htx
          clear htx
          obtain ⟨⟨b0, b1, b2, b3, b4, b5, b6⟩, hbf⟩ := HBX.out.facts
          dsimp only at b0 b1 b2 b3 b4 b5 b6
          have f0 := hbf 0
          have f3 := hbf 3
          have f4 := hbf 4
          have f5 := hbf 5
          have f6 := hbf 6
          clear hbf
          obtain ⟨hj1, hb1', hc1⟩ := at_set HJ.out HBX.out HC.out H0.out 0 (.int .i64 3) (a' := ⟨3, fk, fn, nilB, nilB, false, nilB⟩) rfl
          obtain ⟨hj2, hb2', hc2⟩ := at_set hj1 hb1' hc1 H0.out 3 (.string nm) (a' := ⟨3, fk, fn, nm, nilB, false, nilB⟩) rfl
          replace HBX := Lib.hid hb2'
          replace HC := Lib.hid hc2
          clear HJ
          have HJ := Lib.hid hj2
          clear hj1 hj2 hb1' hb2' hc1 hc2
          go_upto_region 5 with fail
          clear b0 b1 b2 b3 b4 b5 b6 f0 f3 f4 f5 f6
          generalize (w4.setCell ⟨x, 0, none⟩ (.int .i64 3)).setCell ⟨x, 3, none⟩ (.string nm) = w5 at *
          by_cases k9 : kindAt ts (p1 + 1 + 1) = 9
          · have K9 := Lib.hid k9
            clear k9
            go_wp2_with fail
            refine (take_yes HJ.out K9.out (by decide) hl).mono ?_
            rintro en w6 ⟨rfl, hj9, hc9⟩
            replace HBX := Lib.hid (HBX.out.chg hc9)
            replace HC := Lib.hid (HC.out.trans hc9)
            clear HJ
            have HJ := Lib.hid hj9
            clear hj9 hc9
            by_cases k3 : kindAt ts (p1 + 1 + 1 + 1) = 3
            · have K3 := Lib.hid k3
              clear k3
              go_wp2_with fail
              refine (take_yes HJ.out K3.out (by decide) hl).mono ?_
              rintro en w8 ⟨rfl, hj9, hc9⟩
              replace HBX := Lib.hid (HBX.out.chg hc9)
              replace HC := Lib.hid (HC.out.trans hc9)
              clear HJ
              have HJ := Lib.hid hj9
              clear hj9 hc9
              generalize htx : textAt ts (p1 + 1 + 1 + 1) = vl at *
              have HVL := Lib.hid htx
              clear htx
              obtain ⟨⟨b0, b1, b2, b3, b4, b5, b6⟩, hbf⟩ := HBX.out.facts
              dsimp only at b0 b1 b2 b3 b4 b5 b6
              have f0 := hbf 0
              have f3 := hbf 3
              have f4 := hbf 4
              have f5 := hbf 5
              have f6 := hbf 6
              clear hbf
              obtain ⟨hj1, hb1', hc1⟩ := at_set HJ.out HBX.out HC.out H0.out 4 (.string vl) (a' := ⟨3, fk, fn, nm, vl, false, nilB⟩) rfl
              replace HBX := Lib.hid hb1'
              replace HC := Lib.hid hc1
              clear HJ
              have HJ := Lib.hid hj1
              clear hj1 hb1' hc1
              go_upto_region 7 with fail
              clear b0 b1 b2 b3 b4 b5 b6 f0 f3 f4 f5 f6
              generalize w8.setCell ⟨x, 4, none⟩ (.string vl) = w9 at *
              by_cases k5 : kindAt ts (p1 + 1 + 1 + 1 + 1) = 5
              · have K5 := Lib.hid k5
                clear k5
                go_wp2_with fail
                refine (take_yes HJ.out K5.out (by decide) hl).mono ?_
                rintro en w7 ⟨rfl, hj9, hc9⟩
                replace HBX := Lib.hid (HBX.out.chg hc9)
                replace HC := Lib.hid (HC.out.trans hc9)
                clear HJ
                have HJ := Lib.hid hj9
                clear hj9 hc9
                obtain ⟨⟨b0, b1, b2, b3, b4, b5, b6⟩, hbf⟩ := HBX.out.facts
                dsimp only at b0 b1 b2 b3 b4 b5 b6
                have f0 := hbf 0
                have f3 := hbf 3
                have f4 := hbf 4
                have f5 := hbf 5
                have f6 := hbf 6
                clear hbf
                go_upto_region 16 with fail
                clear b0 b1 b2 b3 b4 b5 b6 f0 f3 f4 f5 f6
                go_upto_region 16 with fail
                refine wp_region_gro groA16 [0, 1, 2, 3, 4, 5, 6, 7, 8, 9, 10, 11, 12] hmo (by kernel_rfl) rfl (by kernel_rfl) (fun _ _ _ _ _ h => h) ?_
                have hdr : Ext w7 (w7).drew := Ext.drewN _ 1
                replace HBX := Lib.hid (HBX.out.chg (Chg.ext hdr))
                replace HC := Lib.hid (HC.out.trans (Chg.ext hdr))
                have hj9 := HJ.out.grow hdr
                clear HJ
                have HJ := Lib.hid hj9
                clear hj9 hdr
                generalize (w7).drew = wz at *
                obtain ⟨ava, avc, rfl⟩ := own_vw HJ.out.atoms
                have g0 : wz.cell? ⟨g, 0, none⟩ = some (.slice ava atoms.length avc) := HJ.out.rd.row.cell (i := 0) rfl
                obtain ⟨⟨b0, b1, b2, b3, b4, b5, b6⟩, hbf⟩ := HBX.out.facts
                dsimp only at b0 b1 b2 b3 b4 b5 b6
                have f0 := hbf 0
                have f3 := hbf 3
                have f4 := hbf 4
                have f5 := hbf 5
                have f6 := hbf 6
                clear hbf
                repeat (first
                  | (refine groL_pure rfl rfl ?_; intro K hK; go_simp; refine hK _ ?_; clear hK K)
                  | (refine groL_read rfl rfl ?_; intro K S hS hK; go_simp; refine hK _ ?_; clear hK K hS S)
                  | (refine groL_read rfl rfl ?_; intro K S hS hK; go_simp; refine ⟨hS _ ?_, hK _ ?_⟩; (clear hK K hS S; intro w' hx'; have hce := ext_some hx'; go_simp); clear hK K hS S)
                  | (refine groL_write rfl rfl ?_; intro K hK; go_simp; refine hK _ _ ?_; clear hK K))
                refine groL_grow rfl rfl ?_
                intro K hK
                go_simp
                refine hK _ _ ⟨Ext.alloc _ _, ?_⟩
                clear hK K
                refine groL_write rfl rfl ?_
                intro K hK
                refine step_app rfl _ _ 24 rfl elAt rfl (own_ext HJ.out.atoms (Ext.alloc _ _)) rfl (Sl.new wz (atCells ⟨3, fk, fn, nm, vl, false, nilB⟩).toArray 64 1 1 (Nat.le_refl _) (by unfold maxLen; omega)) rfl ?_ ?_ ?_ ?_ ?_
                · intro u hu
                  simp [atCells] at hu
                  rcases hu with rfl | rfl | rfl | rfl | rfl | rfl | rfl <;> rfl
                · dsimp only; omega
                · dsimp only; unfold maxLen; omega
                · have h1 := HJ.out.le0; simp; omega
                intro v' w6 how6 hb6 hg6 happ6
                obtain ⟨va, vc, rfl⟩ := own_vw how6
                obtain ⟨⟨own', hj7, hc7⟩, hrow6⟩ := HJ.out.newAtom (a := ⟨3, fk, fn, nm, vl, false, nilB⟩) (Ext.alloc _ _) how6 hg6 happ6
                clear b0 b1 b2 b3 b4 b5 b6 f0 f3 f4 f5 f6
                clear g0
                have g0 : w6.cell? ⟨g, 0, none⟩ = some (.slice ava atoms.length avc) := hrow6.cell (i := 0) rfl
                have g0f := hrow6.frozen 0
                have HJ7 := Lib.hid hj7
                have HC7 := Lib.hid (HC.out.trans hc7)
                refine hK _ _ ?_
                clear hK K hj7 hc7 hrow6 how6 hb6 hg6 happ6
                repeat (first
                  | (refine groL_pure rfl rfl ?_; intro K hK; go_simp; refine hK _ ?_; clear hK K)
                  | (refine groL_read rfl rfl ?_; intro K S hS hK; go_simp; refine hK _ ?_; clear hK K hS S)
                  | (refine groL_read rfl rfl ?_; intro K S hS hK; go_simp; refine ⟨hS _ ?_, hK _ ?_⟩; (clear hK K hS S; intro w' hx'; have hce := ext_some hx'; go_simp); clear hK K hS S)
                  | (refine groL_write rfl rfl ?_; intro K hK; go_simp; refine hK _ _ ?_; clear hK K))
                refine groL_nil ?_
                clear g0 g0f
                go_wp2_with fail
                go_end0
                exact atomQ_ok (by unfold atomP midP takeP; rw [HT.out]; simp [Except.bind, K8.out, K1.out, K9.out, K3.out, K5.out, HNM.out, HVL.out]) (edges_no _ _ (by show (3 : Int) ≠ 4; decide)) HJ7.out HC7.out
              · have K5 := Lib.hid k5
                clear k5
                go_wp2_with fail
                refine (take_no HJ.out K5.out (by decide) hl).mono ?_
                rintro en w9 hbad
                have HBAD := Lib.hid (BadI.from_ HC.out hbad)
                obtain ⟨rfl, hb2⟩ := hbad
                clear hb2
                unfold wrongE
                go_wp2_with fail
                refine ⟨rfl, ?_⟩
                exact atomQ_bad (by unfold atomP midP takeP; rw [HT.out]; simp [Except.bind, K8.out, K1.out, K9.out, K3.out, K5.out]) HBAD.out
            · have K3 := Lib.hid k3
              clear k3
              go_wp2_with fail
              refine (take_no HJ.out K3.out (by decide) hl).mono ?_
              rintro en w9 hbad
              have HBAD := Lib.hid (BadI.from_ HC.out hbad)
              obtain ⟨rfl, hb2⟩ := hbad
              clear hb2
              unfold wrongE
              go_wp2_with fail
              refine ⟨rfl, ?_⟩
              exact atomQ_bad (by unfold atomP midP takeP; rw [HT.out]; simp [Except.bind, K8.out, K1.out, K9.out, K3.out]) HBAD.out
          · have K9 := Lib.hid k9
            clear k9
            go_wp2_with fail
            refine (take_no HJ.out K9.out (by decide) hl).mono ?_
            rintro en w9 hbad
            have HBAD := Lib.hid (BadI.from_ HC.out hbad)
            obtain ⟨rfl, hb2⟩ := hbad
            clear hb2
            unfold wrongE
            go_wp2_with fail
            refine ⟨rfl, ?_⟩
            exact atomQ_bad (by unfold atomP midP takeP; rw [HT.out]; simp [Except.bind, K8.out, K1.out, K9.out]) HBAD.out
        · have K1 := Lib.hid k1
          clear k1
          go_wp2_with fail
          refine (take_no HJ.out K1.out (by decide) hl).mono ?_
          rintro en w9 hbad
          have HBAD := Lib.hid (BadI.from_ HC.out hbad)
          obtain ⟨rfl, hb2⟩ := hbad
          clear hb2
          unfold wrongE
          go_wp2_with fail
          refine ⟨rfl, ?_⟩
          exact atomQ_bad (by unfold atomP midP takeP; rw [HT.out]; simp [Except.bind, K8.out, K1.out]) HBAD.out
      · have K8 := Lib.hid k8
        clear k8
        go_wp2_with fail
        refine (may_no HJ.out K8.out (by decide) hl).mono ?_
        rintro en w4 ⟨rfl, hj9, hc9⟩
        replace HBX := Lib.hid (HBX.out.chg hc9)
        replace HC := Lib.hid (HC.out.trans hc9)
        clear HJ
        have HJ := Lib.hid hj9
        clear hj9 hc9
        by_cases k5 : kindAt ts p1 = 5
        · have K5 := Lib.hid k5
          clear k5
          go_wp2_with fail
          refine (take_yes HJ.out K5.out (by decide) hl).mono ?_
          rintro en w5 ⟨rfl, hj9, hc9⟩
          replace HBX := Lib.hid (HBX.out.chg hc9)
          replace HC := Lib.hid (HC.out.trans hc9)
          clear HJ
          have HJ := Lib.hid hj9
          clear hj9 hc9
          obtain ⟨⟨b0, b1, b2, b3, b4, b5, b6⟩, hbf⟩ := HBX.out.facts
          dsimp only at b0 b1 b2 b3 b4 b5 b6
          have f0 := hbf 0
          have f3 := hbf 3
          have f4 := hbf 4
          have f5 := hbf 5
          have f6 := hbf 6
          clear hbf
          by_cases k10 : kindAt ts (p1 + 1) = 10
          · have K10 := Lib.hid k10
            clear k10
            go_wp2_with fail
            refine (may_yes HJ.out K10.out (by decide) hl).mono ?_
            rintro en w6 ⟨rfl, hj9, hc9⟩
            replace HBX := Lib.hid (HBX.out.chg hc9)
            replace HC := Lib.hid (HC.out.trans hc9)
            clear HJ
            have HJ := Lib.hid hj9
            clear hj9 hc9
            clear b0 b1 b2 b3 b4 b5 b6 f0 f3 f4 f5 f6
            have g11 : w6.cell? ⟨g, 11, none⟩ = some (.int .i64 (edgesOf atoms : Nat)) := HJ.out.rd.row.cell (i := 11) rfl
            by_cases h6 : edgesOf atoms = 6
            · have H6 := Lib.hid h6
              have hb6 : (((edgesOf atoms : Nat) : Int) == 6) = true := by rw [h6]; rfl
              clear h6
              go_wp2_with fail
              refine (bad_at HJ.out 1 (by omega) hl).mono ?_
              rintro en w9 hbad
              have HBAD := Lib.hid (BadI.from_ HC.out hbad)
              obtain ⟨rfl, hb2⟩ := hbad
              clear hb2
              unfold wrongE
              go_wp2_with fail
              refine ⟨rfl, ?_⟩
              exact atomQ_bad (by unfold atomP midP takeP; rw [HT.out]; simp [Except.bind, K7.out, K8.out, K5.out, K10.out, H6.out]) HBAD.out
            · have H6 := Lib.hid h6
              have hb6 : (((edgesOf atoms : Nat) : Int) == 6) = false := by simp; omega
              have g11f := HJ.out.rd.row.frozen 11
              obtain ⟨hj9, hc9⟩ := HJ.out.edge
              have hcast : ((edgesOf atoms + 1 : Nat) : Int) = (edgesOf atoms : Nat) + 1 := by omega
              rw [hcast] at hj9 hc9
              replace HBX := Lib.hid (HBX.out.chg hc9)
              replace HC := Lib.hid (HC.out.trans hc9)
              clear HJ
              have HJ := Lib.hid hj9
              have HE := Lib.hid he
              clear hj9 hc9 hcast h6
              go_upto_region 12 with fail
              clear g11 g11f hb6
              generalize w6.setCell ⟨g, 11, none⟩ (.int .i64 ((edgesOf atoms : Nat) + 1)) = w8 at *
              by_cases k1 : kindAt ts (p1 + 1 + 1) = 1
              · have K1 := Lib.hid k1
                clear k1
                go_wp2_with fail
                refine (take_yes HJ.out K1.out (by decide) hl).mono ?_
                rintro en w9 ⟨rfl, hj9, hc9⟩
                replace HBX := Lib.hid (HBX.out.chg hc9)
                replace HC := Lib.hid (HC.out.trans hc9)
                clear HJ
                have HJ := Lib.hid hj9
                clear hj9 hc9
                generalize htx : textAt ts (p1 + 1 + 1) = nm at *
                have HNM := Lib.hid htx
                clear htx
                obtain ⟨⟨b0, b1, b2, b3, b4, b5, b6⟩, hbf⟩ := HBX.out.facts
                dsimp only at b0 b1 b2 b3 b4 b5 b6
                have f0 := hbf 0
                have f3 := hbf 3
                have f4 := hbf 4
                have f5 := hbf 5
                have f6 := hbf 6
                clear hbf
                obtain ⟨hj1, hb1', hc1⟩ := at_set HJ.out HBX.out HC.out H0.out 0 (.int .i64 4) (a' := ⟨4, fk, fn, nilB, nilB, false, nilB⟩) rfl
                obtain ⟨hj2, hb2', hc2⟩ := at_set hj1 hb1' hc1 H0.out 3 (.string nm) (a' := ⟨4, fk, fn, nm, nilB, false, nilB⟩) rfl
                replace HBX := Lib.hid hb2'
                replace HC := Lib.hid hc2
                clear HJ
                have HJ := Lib.hid hj2
                clear hj1 hj2 hb1' hb2' hc1 hc2
                go_upto_region 13 with fail
                clear b0 b1 b2 b3 b4 b5 b6 f0 f3 f4 f5 f6
                generalize (w9.setCell ⟨x, 0, none⟩ (.int .i64 4)).setCell ⟨x, 3, none⟩ (.string nm) = wa at *
                have hxa := Ext.alloc wa (.cells #[.int .i64 11, .int .i64 4] 3)
                have hba : RowAt (wa.alloc (.cells #[.int .i64 11, .int .i64 4] 3)) wa.heap.size 3 [.int .i64 11, .int .i64 4] := RowAt.new _ _ _
                replace HBX := Lib.hid (HBX.out.chg (Chg.ext hxa))
                replace HC := Lib.hid (HC.out.trans (Chg.ext hxa))
                have hj9 := HJ.out.grow hxa
                clear HJ
                have HJ := Lib.hid hj9
                have HBA := Lib.hid hba
                clear hj9 hxa hba
                by_cases k11 : kindAt ts (p1 + 1 + 1 + 1) = 11
                · have K11 := Lib.hid k11
                  clear k11
                  by_cases k4 : kindAt ts (p1 + 1 + 1 + 1 + 1) = 4
                  · have K4 := Lib.hid k4
                    clear k4
                    go_wp2_with fail
                    refine (takes_yes HJ.out HBA.out K11.out K4.out hl).mono ?_
                    rintro en wb ⟨rfl, hj9, hc9⟩
                    replace HBX := Lib.hid (HBX.out.chg hc9)
                    replace HC := Lib.hid (HC.out.trans hc9)
                    clear HJ
                    have HJ := Lib.hid hj9
                    clear hj9 hc9
                    clear HBA
                    have htm2 := term_any ⟨_, _, _, HJ.out⟩ hl hv1
                    dsimp only at htm2
                    have HTM2 := Lib.hid htm2
                    clear htm2
                    cases ht2 : termP ts vars1 (p1 + 1 + 1 + 1 + 1 + 1) with
                    | error q =>
                      rw [ht2] at HTM2
                      have HT2 := Lib.hid ht2
                      clear ht2
                      go_wp2_with fail
                      refine (HTM2.out).mono ?_
                      rintro en w9 hbad
                      have HBAD := Lib.hid (BadI.from_ HC.out hbad)
                      obtain ⟨rfl, hb2⟩ := hbad
                      clear hb2
                      unfold wrongE
                      go_wp2_with fail
                      refine ⟨rfl, ?_⟩
                      exact atomQ_bad (by unfold atomP midP takeP; rw [HT.out]; simp [Except.bind, K7.out, K8.out, K5.out, K10.out, H6.out, K1.out, K11.out, K4.out, HT2.out, HNM.out]) HBAD.out
                    | ok r2 =>
                      obtain ⟨⟨tk2, tn2⟩, vars2, p2⟩ := r2
                      rw [ht2] at HTM2
                      have HT2 := Lib.hid ht2
                      clear ht2
                      go_wp2_with fail
                      refine HTM2.out.mono ?_
                      rintro en wc ⟨rfl, own2, ⟨av2, vv2, m2, hj9⟩, hc9⟩
                      dsimp only at hj9
                      replace HBX := Lib.hid (HBX.out.chg hc9)
                      replace HC := Lib.hid (HC.out.trans hc9)
                      clear HJ
                      have HJ := Lib.hid hj9
                      clear hj9 hc9 HTM2
                      obtain ⟨⟨b0, b1, b2, b3, b4, b5, b6⟩, hbf⟩ := HBX.out.facts
                      dsimp only at b0 b1 b2 b3 b4 b5 b6
                      have f0 := hbf 0
                      have f3 := hbf 3
                      have f4 := hbf 4
                      have f5 := hbf 5
                      have f6 := hbf 6
                      clear hbf
                      obtain ⟨hj1, hb1', hc1⟩ := at_set HJ.out HBX.out HC.out H0.out 5 (.bool tk2) (a' := ⟨4, fk, fn, nm, nilB, tk2, nilB⟩) rfl
                      obtain ⟨hj2, hb2', hc2⟩ := at_set hj1 hb1' hc1 H0.out 6 (.string tn2) (a' := ⟨4, fk, fn, nm, nilB, tk2, tn2⟩) rfl
                      replace HBX := Lib.hid hb2'
                      replace HC := Lib.hid hc2
                      clear HJ
                      have HJ := Lib.hid hj2
                      clear hj1 hj2 hb1' hb2' hc1 hc2
                      go_upto_region 15 with fail
                      clear b0 b1 b2 b3 b4 b5 b6 f0 f3 f4 f5 f6
                      generalize (wc.setCell ⟨x, 5, none⟩ (.bool tk2)).setCell ⟨x, 6, none⟩ (.string tn2) = wd at *
                      by_cases k5' : kindAt ts p2 = 5
                      · have K5' := Lib.hid k5'
                        clear k5'
                        go_wp2_with fail
                        refine (take_yes HJ.out K5'.out (by decide) hl).mono ?_
                        rintro en we ⟨rfl, hj9, hc9⟩
                        replace HBX := Lib.hid (HBX.out.chg hc9)
                        replace HC := Lib.hid (HC.out.trans hc9)
                        clear HJ
                        have HJ := Lib.hid hj9
                        clear hj9 hc9
                        go_upto_region 16 with fail
                        refine wp_region_gro groA16 [0, 1, 2, 3, 4, 5, 6, 7, 8, 9, 10, 11, 12] hmo (by kernel_rfl) rfl (by kernel_rfl) (fun _ _ _ _ _ h => h) ?_
                        have hdr : Ext we (we).drew := Ext.drewN _ 1
                        replace HBX := Lib.hid (HBX.out.chg (Chg.ext hdr))
                        replace HC := Lib.hid (HC.out.trans (Chg.ext hdr))
                        have hj9 := HJ.out.grow hdr
                        clear HJ
                        have HJ := Lib.hid hj9
                        clear hj9 hdr
                        generalize (we).drew = wz at *
                        obtain ⟨ava, avc, rfl⟩ := own_vw HJ.out.atoms
                        have g0 : wz.cell? ⟨g, 0, none⟩ = some (.slice ava atoms.length avc) := HJ.out.rd.row.cell (i := 0) rfl
                        obtain ⟨⟨b0, b1, b2, b3, b4, b5, b6⟩, hbf⟩ := HBX.out.facts
                        dsimp only at b0 b1 b2 b3 b4 b5 b6
                        have f0 := hbf 0
                        have f3 := hbf 3
                        have f4 := hbf 4
                        have f5 := hbf 5
                        have f6 := hbf 6
                        clear hbf
                        repeat (first
                          | (refine groL_pure rfl rfl ?_; intro K hK; go_simp; refine hK _ ?_; clear hK K)
                          | (refine groL_read rfl rfl ?_; intro K S hS hK; go_simp; refine hK _ ?_; clear hK K hS S)
                          | (refine groL_read rfl rfl ?_; intro K S hS hK; go_simp; refine ⟨hS _ ?_, hK _ ?_⟩; (clear hK K hS S; intro w' hx'; have hce := ext_some hx'; go_simp); clear hK K hS S)
                          | (refine groL_write rfl rfl ?_; intro K hK; go_simp; refine hK _ _ ?_; clear hK K))
                        refine groL_grow rfl rfl ?_
                        intro K hK
                        go_simp
                        refine hK _ _ ⟨Ext.alloc _ _, ?_⟩
                        clear hK K
                        refine groL_write rfl rfl ?_
                        intro K hK
                        refine step_app rfl _ _ 24 rfl elAt rfl (own_ext HJ.out.atoms (Ext.alloc _ _)) rfl (Sl.new wz (atCells ⟨4, fk, fn, nm, nilB, tk2, tn2⟩).toArray 64 1 1 (Nat.le_refl _) (by unfold maxLen; omega)) rfl ?_ ?_ ?_ ?_ ?_
                        · intro u hu
                          simp [atCells] at hu
                          rcases hu with rfl | rfl | rfl | rfl | rfl | rfl | rfl <;> rfl
                        · dsimp only; omega
                        · dsimp only; unfold maxLen; omega
                        · have h1 := HJ.out.le0; simp; omega
                        intro v' w6 how6 hb6 hg6 happ6
                        obtain ⟨va, vc, rfl⟩ := own_vw how6
                        obtain ⟨⟨own', hj7, hc7⟩, hrow6⟩ := HJ.out.newAtom (a := ⟨4, fk, fn, nm, nilB, tk2, tn2⟩) (Ext.alloc _ _) how6 hg6 happ6
                        clear b0 b1 b2 b3 b4 b5 b6 f0 f3 f4 f5 f6
                        clear g0
                        have g0 : w6.cell? ⟨g, 0, none⟩ = some (.slice ava atoms.length avc) := hrow6.cell (i := 0) rfl
                        have g0f := hrow6.frozen 0
                        have HJ7 := Lib.hid hj7
                        have HC7 := Lib.hid (HC.out.trans hc7)
                        refine hK _ _ ?_
                        clear hK K hj7 hc7 hrow6 how6 hb6 hg6 happ6
                        repeat (first
                          | (refine groL_pure rfl rfl ?_; intro K hK; go_simp; refine hK _ ?_; clear hK K)
                          | (refine groL_read rfl rfl ?_; intro K S hS hK; go_simp; refine hK _ ?_; clear hK K hS S)
                          | (refine groL_read rfl rfl ?_; intro K S hS hK; go_simp; refine ⟨hS _ ?_, hK _ ?_⟩; (clear hK K hS S; intro w' hx'; have hce := ext_some hx'; go_simp); clear hK K hS S)
                          | (refine groL_write rfl rfl ?_; intro K hK; go_simp; refine hK _ _ ?_; clear hK K))
                        refine groL_nil ?_
                        clear g0 g0f
                        go_wp2_with fail
                        go_end0
                        exact atomQ_ok (by unfold atomP midP takeP; rw [HT.out]; simp [Except.bind, K7.out, K8.out, K5.out, K10.out, H6.out, K1.out, K11.out, K4.out, HT2.out, HNM.out, K5'.out]) (edges_yes _ _ rfl) HJ7.out HC7.out
                      · have K5' := Lib.hid k5'
                        clear k5'
                        go_wp2_with fail
                        refine (take_no HJ.out K5'.out (by decide) hl).mono ?_
                        rintro en w9 hbad
                        have HBAD := Lib.hid (BadI.from_ HC.out hbad)
                        obtain ⟨rfl, hb2⟩ := hbad
                        clear hb2
                        unfold wrongE
                        go_wp2_with fail
                        refine ⟨rfl, ?_⟩
                        exact atomQ_bad (by unfold atomP midP takeP; rw [HT.out]; simp [Except.bind, K7.out, K8.out, K5.out, K10.out, H6.out, K1.out, K11.out, K4.out, HT2.out, K5'.out]) HBAD.out
                  · have K4 := Lib.hid k4
                    clear k4
                    go_wp2_with fail
                    refine (takes_no HJ.out HBA.out (q := p1 + 1 + 1 + 1 + 1) (by unfold takesP takeP takesP takeP; rw [if_pos K11.out]; simp [Except.bind, K4.out]) hl).mono ?_
                    rintro en w9 hbad
                    have HBAD := Lib.hid (BadI.from_ HC.out hbad)
                    obtain ⟨rfl, hb2⟩ := hbad
                    clear hb2
                    unfold wrongE
                    go_wp2_with fail
                    refine ⟨rfl, ?_⟩
                    exact atomQ_bad (by unfold atomP midP takeP; rw [HT.out]; simp [Except.bind, K7.out, K8.out, K5.out, K10.out, H6.out, K1.out, K11.out, K4.out]) HBAD.out
                · have K11 := Lib.hid k11
                  clear k11
                  go_wp2_with fail
                  refine (takes_no HJ.out HBA.out (q := p1 + 1 + 1 + 1) (by unfold takesP takeP; rw [if_neg K11.out]; rfl) hl).mono ?_
                  rintro en w9 hbad
                  have HBAD := Lib.hid (BadI.from_ HC.out hbad)
                  obtain ⟨rfl, hb2⟩ := hbad
                  clear hb2
                  unfold wrongE
                  go_wp2_with fail
                  refine ⟨rfl, ?_⟩
                  exact atomQ_bad (by unfold atomP midP takeP; rw [HT.out]; simp [Except.bind, K7.out, K8.out, K5.out, K10.out, H6.out, K1.out, K11.out]) HBAD.out
              · have K1 := Lib.hid k1
                clear k1
                go_wp2_with fail
                refine (take_no HJ.out K1.out (by decide) hl).mono ?_
                rintro en w9 hbad
                have HBAD := Lib.hid (BadI.from_ HC.out hbad)
                obtain ⟨rfl, hb2⟩ := hbad
                clear hb2
                unfold wrongE
                go_wp2_with fail
                refine ⟨rfl, ?_⟩
                exact atomQ_bad (by unfold atomP midP takeP; rw [HT.out]; simp [Except.bind, K7.out, K8.out, K5.out, K10.out, H6.out, K1.out]) HBAD.out
          · have K10 := Lib.hid k10
            clear k10
            go_wp2_with fail
            refine (may_no HJ.out K10.out (by decide) hl).mono ?_
            rintro en w7 ⟨rfl, hj9, hc9⟩
            replace HBX := Lib.hid (HBX.out.chg hc9)
            replace HC := Lib.hid (HC.out.trans hc9)
            clear HJ
            have HJ := Lib.hid hj9
            clear hj9 hc9
            clear b0 b1 b2 b3 b4 b5 b6 f0 f3 f4 f5 f6
            go_upto_region 16 with fail
            refine wp_region_gro groA16 [0, 1, 2, 3, 4, 5, 6, 7, 8, 9, 10, 11, 12] hmo (by kernel_rfl) rfl (by kernel_rfl) (fun _ _ _ _ _ h => h) ?_
            have hdr : Ext w7 (w7).drew := Ext.drewN _ 1
            replace HBX := Lib.hid (HBX.out.chg (Chg.ext hdr))
            replace HC := Lib.hid (HC.out.trans (Chg.ext hdr))
            have hj9 := HJ.out.grow hdr
            clear HJ
            have HJ := Lib.hid hj9
            clear hj9 hdr
            generalize (w7).drew = wz at *
            obtain ⟨ava, avc, rfl⟩ := own_vw HJ.out.atoms
            have g0 : wz.cell? ⟨g, 0, none⟩ = some (.slice ava atoms.length avc) := HJ.out.rd.row.cell (i := 0) rfl
            obtain ⟨⟨b0, b1, b2, b3, b4, b5, b6⟩, hbf⟩ := HBX.out.facts
            dsimp only at b0 b1 b2 b3 b4 b5 b6
            have f0 := hbf 0
            have f3 := hbf 3
            have f4 := hbf 4
            have f5 := hbf 5
            have f6 := hbf 6
            clear hbf
            repeat (first
              | (refine groL_pure rfl rfl ?_; intro K hK; go_simp; refine hK _ ?_; clear hK K)
              | (refine groL_read rfl rfl ?_; intro K S hS hK; go_simp; refine hK _ ?_; clear hK K hS S)
              | (refine groL_read rfl rfl ?_; intro K S hS hK; go_simp; refine ⟨hS _ ?_, hK _ ?_⟩; (clear hK K hS S; intro w' hx'; have hce := ext_some hx'; go_simp); clear hK K hS S)
              | (refine groL_write rfl rfl ?_; intro K hK; go_simp; refine hK _ _ ?_; clear hK K))
            refine groL_grow rfl rfl ?_
            intro K hK
            go_simp
            refine hK _ _ ⟨Ext.alloc _ _, ?_⟩
            clear hK K
            refine groL_write rfl rfl ?_
            intro K hK
            refine step_app rfl _ _ 24 rfl elAt rfl (own_ext HJ.out.atoms (Ext.alloc _ _)) rfl (Sl.new wz (atCells ⟨1, fk, fn, nilB, nilB, false, nilB⟩).toArray 64 1 1 (Nat.le_refl _) (by unfold maxLen; omega)) rfl ?_ ?_ ?_ ?_ ?_
            · intro u hu
              simp [atCells] at hu
              rcases hu with rfl | rfl | rfl | rfl | rfl | rfl | rfl <;> rfl
            · dsimp only; omega
            · dsimp only; unfold maxLen; omega
            · have h1 := HJ.out.le0; simp; omega
            intro v' w6 how6 hb6 hg6 happ6
            obtain ⟨va, vc, rfl⟩ := own_vw how6
            obtain ⟨⟨own', hj7, hc7⟩, hrow6⟩ := HJ.out.newAtom (a := ⟨1, fk, fn, nilB, nilB, false, nilB⟩) (Ext.alloc _ _) how6 hg6 happ6
            clear b0 b1 b2 b3 b4 b5 b6 f0 f3 f4 f5 f6
            clear g0
            have g0 : w6.cell? ⟨g, 0, none⟩ = some (.slice ava atoms.length avc) := hrow6.cell (i := 0) rfl
            have g0f := hrow6.frozen 0
            have HJ7 := Lib.hid hj7
            have HC7 := Lib.hid (HC.out.trans hc7)
            refine hK _ _ ?_
            clear hK K hj7 hc7 hrow6 how6 hb6 hg6 happ6
            repeat (first
              | (refine groL_pure rfl rfl ?_; intro K hK; go_simp; refine hK _ ?_; clear hK K)
              | (refine groL_read rfl rfl ?_; intro K S hS hK; go_simp; refine hK _ ?_; clear hK K hS S)
              | (refine groL_read rfl rfl ?_; intro K S hS hK; go_simp; refine ⟨hS _ ?_, hK _ ?_⟩; (clear hK K hS S; intro w' hx'; have hce := ext_some hx'; go_simp); clear hK K hS S)
              | (refine groL_write rfl rfl ?_; intro K hK; go_simp; refine hK _ _ ?_; clear hK K))
            refine groL_nil ?_
            clear g0 g0f
            go_wp2_with fail
            go_end0
            exact atomQ_ok (by unfold atomP midP takeP; rw [HT.out]; simp [Except.bind, K7.out, K8.out, K5.out, K10.out]) (edges_no _ _ (by show (1 : Int) ≠ 4; decide)) HJ7.out HC7.out
        · have K5 := Lib.hid k5
          clear k5
          go_wp2_with fail
          refine (take_no HJ.out K5.out (by decide) hl).mono ?_
          rintro en w9 hbad
          have HBAD := Lib.hid (BadI.from_ HC.out hbad)
          obtain ⟨rfl, hb2⟩ := hbad
          clear hb2
          unfold wrongE
          go_wp2_with fail
          refine ⟨rfl, ?_⟩
          exact atomQ_bad (by unfold atomP midP takeP; rw [HT.out]; simp [Except.bind, K7.out, K8.out, K5.out]) HBAD.out
end Go.Proofs.Ytngnplghjaojhaa
