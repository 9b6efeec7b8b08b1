/- The law ResolveMore returns true. -/
import Derived.Test.YtkmbnghghbfkdaaGreatGp39
namespace Go.Proofs.YtkmbnghghbfkdaaGreat
set_option maxRecDepth 100000
set_option maxHeartbeats 2000000
set_option linter.unusedSimpArgs false
open Go.RowKit Go.Shelf Go.Sort
attribute [local go_sem] Oper.semAt_some wide_fn wide_depth
set_option linter.unusedVariables false

set_option maxRecDepth 100000 in
set_option maxHeartbeats 4000000 in
theorem rmore_walk (v0 : Value) (D : Dic) (v1 v2 : Value) (M : List ByteArray) (w : World) (h0 : ∃ vs, v0 = dv vs ∧ DicV w vs D ∧ ∀ i, i < 5 → ∀ s ∈ (D i).1, s.size ≤ 9223372036854775807) (h1 : ∃ P : Pat, PatAt w v1 P ∧ P.Near)
    (h2 : Strs w v2 M ∧ ∀ s ∈ M, s.size ≤ 9223372036854775807) :
    Calls Tryz.prog 4 #[v0, v1, v2] w fun e w' => e = .returned (.bool true) ∧ Ext w w' := by
  have hmo : Tryz.prog.follows .mixedOrders = true := by kernel_rfl
  -- a dictionary and a pattern among a law's arguments (h0, h1): contracts of their owns
  obtain ⟨vs, rfl, hV0, hs0⟩ := h0
  obtain ⟨A, hA1, hA2⟩ := heads hV0.shape
  rw [show dv vs = dv (hv A) from by unfold dv; rw [hA2]]
  have hV : DicV w (hv A) D := fun i hi => by rw [← hA1 i hi]; exact hV0 i hi
  clear hA1 hA2 hV0
  have HOWD := Lib.hid (fun w' (hx : Ext w w') => ownDic18_any (hv A) D w' (hV.ext hx))
  have HDS := Lib.hid (cutD_s hs0)
  obtain ⟨P, hP, hPn⟩ := h1
  have HOWP := Lib.hid (fun w' (hx : Ext w w') => ownP18_any _ P w' (hP.ext hx))
  have HPF := Lib.hid (cutP_near hPn)
  obtain ⟨pav, prv, phv, rfl, _, _, _⟩ := hP
  have hbx := boxes2 w (dcells (hv A)) 28 (patL pav prv phv P) 35
  have HBX := Lib.hid hbx
  clear hbx hV hs0 hPn
  obtain ⟨hM, hMs⟩ := h2
  obtain ⟨ma, mc, rfl, hmc, hmc2⟩ := Sl.shape hM
  have hml : M.length ≤ 9223372036854775807 := by omega
  have HM := Lib.hid hM
  have HMS := Lib.hid hMs
  clear hM hMs
  -- enter the law ResolveMore, its two boxes named, and go over wakes
  unfold dv patV at *
  go_enter Tryz.func4, Tryz.ntmps4
  go_upto_region 1 with fail
  generalize (w.alloc (.cells (dcells (hv A)).toArray 28)).alloc (.cells (patL pav prv phv P).toArray 35) = w1 at *
  obtain ⟨y0, hy0⟩ : ∃ x, w.heap.size = x := ⟨_, rfl⟩
  obtain ⟨y1, hy1⟩ : ∃ x, y0 + 1 = x := ⟨_, rfl⟩
  rw [hy0, hy1] at HBX
  simp only [hy0, hy1]
  have HX := Lib.hid HBX.out.1
  have H0 := Lib.hid HBX.out.2.1
  have H1 := Lib.hid HBX.out.2.2
  clear hy0 hy1 HBX
  go_wp2_with fail
  refine (wakesG_any w1).mono ?_
  rintro e w2 ⟨rfl, hx2⟩
  have HX2 := Lib.hid (HX.out.trans hx2)
  replace H0 := Lib.hid (H0.out.ext hx2)
  replace H1 := Lib.hid (H1.out.ext hx2)
  clear hx2 HX
  go_upto_region 3 with fail
  -- d, p := ownDict(x), ownPattern(q): 21, 22, 23, 24, 7, 8 the slots, w2 world now, y0 y1 the argument boxes' blocks, H0 H1 their row facts over w2 (hidden), patL pav prv phv P the pattern's argument (patL ..), HOWD HOWP (contracts over worlds), HX2 (Ext w w2): gives wq, A5, y, q, HDQ (DicOwn), HPQ (PatOwn), HBY HBQ (rows), HXQ, pattern slices
  refine wp_region_inv [21, 22, 23, 24, 7, 8] _ depR2 (ManyF 2 w2 (rV2 (.agg (dcells (hv A)).toArray) (.agg (patL pav prv phv P).toArray)) (rO2 w2.heap.size (cutD D) (cutP P)) rT2 rZ2) hmo (by kernel_rfl) (by kernel_rfl) (puts_self _ _) (ManyF.start rfl (Ext.drewN w2 1)) ?_ ?_
  · refine ⟨?_, ?_, ?_, ?_, ?_, ?_, ?_, ?_, trivial⟩
    all_goals
      rintro S us wq hd hn hF K hK
      obtain ⟨u0, u1, u2, u3, u4, u5, rfl⟩ := six6 hF.len
      have HK := Lib.hid hK
      have HF := Lib.hid hF
      have HN := Lib.hid hn
      have HD := Lib.hid hd
      clear hK hF hn hd
      simp only [puts, Act.put, List.setIfInBounds_toArray, List.set_cons_succ, List.set_cons_zero, List.set_nil]
    · have hk := HK.out _ _ (HF.out.load (i := 0) (by omega))
      simp only [puts, Act.put, List.setIfInBounds_toArray, Nat.reduceMul, Nat.reduceAdd, List.set_cons_succ, List.set_cons_zero, List.set_nil] at hk
      rw [if_pos (show Region.wanted _ _ = true from rfl)]
      refine wp_load_mid _ _ rfl y0 0 rfl (dcells (hv A)) _ (H0.out.ext HF.out.ext).whole Tryz.underlying28 rfl (by kernel_rfl) ?_
      exact hk
    · obtain rfl := Option.some.inj (HF.out.a 0 (by omega) (HD.out 0 (by decide)))
      unfold rV2
      go_simp
      refine (HOWD.out wq (HX2.out.trans HF.out.ext)).mono ?_
      rintro e wy ⟨us', rfl, hou, hxu⟩
      obtain ⟨A5, hA, hAe⟩ := hou.heads
      have hk := HK.out _ _ (HF.out.call (rO2_firm _ _ _) (i := 0) (by omega) HN.out (u := dv (hv A5)) hxu ⟨A5, rfl, hA.base HF.out.ext.size⟩)
      rw [← hAe] at hk
      simp only [puts, Act.put, List.setIfInBounds_toArray, Nat.reduceMul, Nat.reduceAdd, List.set_cons_succ, List.set_cons_zero, List.set_nil] at hk
      exact hk
    · have hk := HK.out _ _ (HF.out.load (i := 1) (by omega))
      simp only [puts, Act.put, List.setIfInBounds_toArray, Nat.reduceMul, Nat.reduceAdd, List.set_cons_succ, List.set_cons_zero, List.set_nil] at hk
      rw [if_pos (show Region.wanted _ _ = true from rfl)]
      refine wp_load_mid _ _ rfl y1 0 rfl (patL pav prv phv P) _ (H1.out.ext HF.out.ext).whole Tryz.underlying35 rfl (by kernel_rfl) ?_
      exact hk
    · obtain rfl := Option.some.inj (HF.out.a 1 (by omega) (HD.out 2 (by decide)))
      unfold rV2
      go_simp
      refine (HOWP.out wq (HX2.out.trans HF.out.ext)).mono ?_
      rintro e wy ⟨u, rfl, hou, hxu⟩
      have hk := HK.out _ _ (HF.out.call (rO2_firm _ _ _) (i := 1) (by omega) HN.out hxu (hou.base HF.out.ext.size))
      simp only [puts, Act.put, List.setIfInBounds_toArray, Nat.reduceMul, Nat.reduceAdd, List.set_cons_succ, List.set_cons_zero, List.set_nil] at hk
      exact hk
    · have hk := HK.out _ _ (HF.out.new (rO2_firm _ _ _) (i := 0) (by omega) HN.out)
      simp only [puts, Act.put, List.setIfInBounds_toArray, Nat.reduceMul, Nat.reduceAdd, List.set_cons_succ, List.set_cons_zero, List.set_nil] at hk
      go_simp
      exact hk
    · have hk := HK.out _ _ (HF.out.new (rO2_firm _ _ _) (i := 1) (by omega) HN.out)
      simp only [puts, Act.put, List.setIfInBounds_toArray, Nat.reduceMul, Nat.reduceAdd, List.set_cons_succ, List.set_cons_zero, List.set_nil] at hk
      go_simp
      exact hk
    · obtain ⟨A5, e5, h5⟩ := HF.out.val (i := 0) (by omega) (HD.out 1 (by decide)) rfl
      obtain ⟨g, eg, hg⟩ := HF.out.old (i := 0) (by omega) (HD.out 4 (by decide)) HN.out rfl
      subst e5
      subst eg
      have hk := HK.out _ _ (HF.out.store (rO2_firm _ _ _) (i := 0) (xs := dcells (hv A5)) (by omega) (HD.out 1 (by decide)) (HD.out 4 (by decide)) HN.out rfl rfl)
      simp only [puts, Act.put, List.setIfInBounds_toArray, Nat.reduceMul, Nat.reduceAdd, List.set_cons_succ, List.set_cons_zero, List.set_nil] at hk
      rw [if_pos (show Region.wanted _ _ = true from rfl)]
      refine wp_store_row _ _ _ rfl g (dcells (hv A5)).toArray rfl rfl _ _ hg (by kernel_rfl) rfl (all_oneCell_toArray (by simp [dcells, hv, Value.oneCell'])) ?_
      exact hk
    · obtain ⟨a1, c1, a2, c2, a3, c3, e5⟩ := PatOwn.shape (HF.out.val (i := 1) (by omega) (HD.out 3 (by decide)) rfl)
      obtain ⟨g, eg, hg⟩ := HF.out.old (i := 1) (by omega) (HD.out 5 (by decide)) HN.out rfl
      subst e5
      subst eg
      have hk := HK.out _ _ (HF.out.store (rO2_firm _ _ _) (i := 1) (xs := patL (.slice a1 (cutP P).atoms.length c1) (.slice a2 (cutP P).ret.length c2) (.slice a3 (cutP P).hint.length c3) (cutP P)) (by omega) (HD.out 3 (by decide)) (HD.out 5 (by decide)) HN.out rfl rfl)
      simp only [puts, Act.put, List.setIfInBounds_toArray, Nat.reduceMul, Nat.reduceAdd, List.set_cons_succ, List.set_cons_zero, List.set_nil] at hk
      rw [if_pos (show Region.wanted _ _ = true from rfl)]
      refine wp_store_row _ _ _ rfl g (patL (.slice a1 (cutP P).atoms.length c1) (.slice a2 (cutP P).ret.length c2) (.slice a3 (cutP P).hint.length c3) (cutP P)).toArray rfl rfl _ _ hg (by kernel_rfl) rfl (all_oneCell_toArray (by simp [patL, Value.oneCell'])) ?_
      exact hk
  rintro S us wq hS hF
  obtain ⟨u0, u1, u2, u3, u4, u5, rfl⟩ := six6 hF.len
  have hSa : ∀ k, k < 4 * 2 → S k = true := fun k hk => hS k (by simpa using hk)
  obtain ⟨⟨A5, e5, hdo⟩, y, cs, rfl, ecs, hy2, hry⟩ := hF.fin (i := 0) (by omega) hSa rfl rfl
  obtain ⟨hpo, q, cs2, rfl, ecs2, hq2, hrq⟩ := hF.fin (i := 1) (by omega) hSa rfl rfl
  obtain ⟨a1, c1, a2, c2, a3, c3, ep⟩ := PatOwn.shape hpo
  rw [e5] at ecs
  obtain rfl : dcells (hv A5) = cs := by have h := Value.agg.inj ecs; simpa using congrArg Array.toList h
  rw [ep] at ecs2
  obtain rfl : patL (.slice a1 (cutP P).atoms.length c1) (.slice a2 (cutP P).ret.length c2) (.slice a3 (cutP P).hint.length c3) (cutP P) = cs2 := by have h := Value.agg.inj ecs2; simpa using congrArg Array.toList h
  subst e5
  rw [ep] at hpo
  subst ep
  have HDQ := Lib.hid hdo
  have HPQ := Lib.hid (show PatOwn w2.heap.size wq (patV (.slice a1 (cutP P).atoms.length c1) (.slice a2 (cutP P).ret.length c2) (.slice a3 (cutP P).hint.length c3) (cutP P)) (cutP P) from hpo)
  have HBY := Lib.hid (show RowAt wq y 28 (dcells (hv A5)) from hry)
  have HBQ := Lib.hid (show RowAt wq q 35 (patL (.slice a1 (cutP P).atoms.length c1) (.slice a2 (cutP P).ret.length c2) (.slice a3 (cutP P).hint.length c3) (cutP P)) from hrq)
  have HXQ := Lib.hid (HX2.out.trans hF.ext)
  have HYQ := Lib.hid (show w2.heap.size ≤ y ∧ w2.heap.size ≤ q from ⟨hy2, hq2⟩)
  clear hdo hpo hry hrq hF hS hSa hy2 hq2 ecs ecs2 HOWD HOWP H0 H1
  simp only [puts, Act.put, List.setIfInBounds_toArray, List.set_cons_succ, List.set_cons_zero, List.set_nil]
  generalize cutD D = E at *
  generalize cutP P = Q at *
  have HGN := Lib.hid (goalN A5 E Q _ _ _ wq HDQ.out.view HDS.out HPQ.out.at_ HPF.out)
  go_upto_region 4 with fail
  apply wp_region_lit
  -- a load of a whole row: y block, HBY.out fact RowAt, api.Dict the type's name
  refine plain_load rfl _ _ rfl y rfl _ _ (HBY.out) Tryz.underlying28 rfl (by kernel_rfl) ?_
  go_simp
  -- a load of a whole row: q block, HBQ.out fact RowAt, api.Pattern the type's name
  refine plain_load rfl _ _ rfl q rfl _ _ (HBQ.out) Tryz.underlying35 rfl (by kernel_rfl) ?_
  go_simp
  -- a call in a plain region: refine HGN.out.mono ?_; rintro e w3 ⟨G, n, c, q1, d1, q2, d2, q3, d3, q4, d4, rfl, hor, hgi, hx3⟩ the contract taken, and its results named
  refine wpList_plain rfl fun K1 hK1 => ?_
  go_simp
  refine HGN.out.mono ?_; rintro e w3 ⟨G, n, c, q1, d1, q2, d2, q3, d3, q4, d4, rfl, hor, hgi, hx3⟩
  go_simp
  refine hK1 _ _ ?_
  clear hK1 K1
  refine wpList_plain rfl fun K1 hK1 => ?_
  go_simp
  refine hK1 _ _ ?_
  clear hK1 K1
  refine wpList_plain rfl fun K1 hK1 => ?_
  go_simp
  refine hK1 _ _ ?_
  clear hK1 K1
  refine wpList_plain rfl fun K1 hK1 => ?_
  go_simp
  refine hK1 _ _ ?_
  clear hK1 K1
  refine wpList_plain rfl fun K1 hK1 => ?_
  go_simp
  refine hK1 _ _ ?_
  clear hK1 K1
  -- in a plain region: memory is made and written: w3 world before, #[.slice none 0 0, .slice none 0 0, .slice none 0 0, .bool false, .bool false, .bool false, .int .i64 0, .int .i64 0, .slice none 0 0] zero cells (a literal array), api.Goal type's name, g block's name, golC (.slice q1 G.vars.length d1) (.slice q2 G.atoms.length d2) (.slice q3 G.ret.length d3) (.slice q4 G.hint.length d4) G new cells (a list), (by simp [golC, Value.oneCell']) proof that each is one cell, w4 world behind. Facts: HEw4 (Ext), HRg (the row), HSg (where it is)
  refine wpList_plain rfl fun K1 hK1 => ?_
  go_simp
  refine hK1 _ _ ?_
  clear hK1 K1
  have hax := Ext.alloc w3 (.cells #[.slice none 0 0, .slice none 0 0, .slice none 0 0, .bool false, .bool false, .bool false, .int .i64 0, .int .i64 0, .slice none 0 0] 39)
  have har : RowAt (w3.alloc (.cells #[.slice none 0 0, .slice none 0 0, .slice none 0 0, .bool false, .bool false, .bool false, .int .i64 0, .int .i64 0, .slice none 0 0] 39)) w3.heap.size 39 (#[.slice none 0 0, .slice none 0 0, .slice none 0 0, .bool false, .bool false, .bool false, .int .i64 0, .int .i64 0, .slice none 0 0]).toList := RowAt.new _ _ _
  refine plain_store rfl _ _ _ rfl w3.heap.size (golC (.slice q1 G.vars.length d1) (.slice q2 G.atoms.length d2) (.slice q3 G.ret.length d3) (.slice q4 G.hint.length d4) G) rfl rfl har (by kernel_rfl) rfl ((by simp [golC, Value.oneCell'])) ?_
  have hex : Ext w3 ((w3.alloc (.cells #[.slice none 0 0, .slice none 0 0, .slice none 0 0, .bool false, .bool false, .bool false, .int .i64 0, .int .i64 0, .slice none 0 0] 39)).setRow w3.heap.size (golC (.slice q1 G.vars.length d1) (.slice q2 G.atoms.length d2) (.slice q3 G.ret.length d3) (.slice q4 G.hint.length d4) G).toArray) := below_setRow hax (Nat.le_refl _) _
  have HEw4 := Lib.hid hex
  have HRg := Lib.hid (har.setRow (golC (.slice q1 G.vars.length d1) (.slice q2 G.atoms.length d2) (.slice q3 G.ret.length d3) (.slice q4 G.hint.length d4) G))
  clear hax har hex
  go_simp
  generalize (w3.alloc (.cells #[.slice none 0 0, .slice none 0 0, .slice none 0 0, .bool false, .bool false, .bool false, .int .i64 0, .int .i64 0, .slice none 0 0] 39)).setRow w3.heap.size (golC (.slice q1 G.vars.length d1) (.slice q2 G.atoms.length d2) (.slice q3 G.ret.length d3) (.slice q4 G.hint.length d4) G).toArray = w4 at *
  obtain ⟨g, hsg⟩ : ∃ x, w3.heap.size = x := ⟨_, rfl⟩
  rw [hsg] at HRg
  simp only [hsg]
  have HSg := Lib.hid hsg
  clear hsg
  refine wpList_plain rfl fun K1 hK1 => ?_
  go_simp
  refine hK1 _ _ ?_
  clear hK1 K1
  refine wpList_plain rfl fun K1 hK1 => ?_
  go_simp
  refine hK1 _ _ ?_
  clear hK1 K1
  apply wpList_nil
  have hx4 := hx3.trans HEw4.out
  have HX4 := Lib.hid (HXQ.out.trans hx4)
  have HY4 := Lib.hid (HBY.out.ext hx4)
  have HQ4 := Lib.hid (HBQ.out.ext hx4)
  have HD4 := Lib.hid (HDQ.out.ext hx4)
  have HP4 := Lib.hid (HPQ.out.ext hx4)
  have HG4 := Lib.hid ((hgi.base (Nat.le_trans HYQ.out.1 (Nat.le_of_lt HBY.out.lt))).ext HEw4.out)
  have HR4 := Lib.hid (show RowAt w4 g 39 (golC (.slice q1 G.vars.length d1) (.slice q2 G.atoms.length d2) (.slice q3 G.ret.length d3) (.slice q4 G.hint.length d4) G) from HRg.out)
  have HOR := Lib.hid hor
  clear hx4 hgi hor hx3 HEw4 HSg HRg HGN HXQ HBY HBQ HDQ HPQ
  by_cases hc : c = 0
  · have hz := HOR.out.zero hc
    subst hc
    obtain ⟨hdok, hpok, hgf, hn⟩ := hz
    have HDOK := Lib.hid hdok
    have HPOK := Lib.hid hpok
    have HGF := Lib.hid hgf
    have HFT := Lib.hid (golOf_fits hpok HPF.out hgf)
    clear hdok hpok hgf hn HOR
    go_wp2_with fail
    go_loopg [12, 13, 36] M.length (fun g' s12 s13 i wr => ∃ (k : Nat) (A6 : Heads) (E6 : Dic), k ≤ M.length ∧ g' = M.length - k ∧ i = .int .i64 k ∧ Hid (DicOwn w2.heap.size wr (hv A6) E6) ∧ Hid (RowAt wr y 28 (dcells (hv A6))) ∧ Hid (Sup E E6 ∧ DicOK E6 ∧ ∀ i, i < 5 → (E6 i).2.length ≤ 4096) ∧
      Hid (PatOwn w2.heap.size wr (patV (.slice a1 Q.atoms.length c1) (.slice a2 Q.ret.length c2) (.slice a3 Q.hint.length c3) Q) Q) ∧ Hid (RowAt wr q 35 (patL (.slice a1 Q.atoms.length c1) (.slice a2 Q.ret.length c2) (.slice a3 Q.hint.length c3) Q)) ∧
      Hid (GolIn w2.heap.size wr (golV (.slice q1 G.vars.length d1) (.slice q2 G.atoms.length d2) (.slice q3 G.ret.length d3) (.slice q4 G.hint.length d4) G) G) ∧ Hid (RowAt wr g 39 (golC (.slice q1 G.vars.length d1) (.slice q2 G.atoms.length d2) (.slice q3 G.ret.length d3) (.slice q4 G.hint.length d4) G)) ∧ Hid (Ext w wr))
    case atStart => exact ⟨0, A5, E, Nat.zero_le _, rfl, rfl, HD4, HY4, Lib.hid ⟨Sup.refl _, HDOK.out, fun i hi => (HDS.out i hi).2.1⟩, HP4, HQ4, HG4, HR4, HX4⟩
    case round =>
      obtain ⟨k, A6, E6, hk, hg', rfl, HD6, HY6, HS6, HP6, HQ6, HG6, HR6, HXR⟩ := hrel
      have Hg := Lib.hid hg'
      clear hg' HD4 HY4 HP4 HQ4 HG4 HR4 HX4
      by_cases hlt : k < M.length
      · obtain ⟨b, o, rfl, c0⟩ := (Strs.ext HM.out HXR.out).at_ hlt
        have hs := HMS.out _ (List.getElem_mem hlt)
        generalize M[k] = s at *
        have HS := Lib.hid hs
        clear hs
        by_cases h8 : k = 8
        · have hb8 : ((k : Int) == 8) = true := by rw [h8]; rfl
          clear h8
          have HGN := Lib.hid (goalN A6 E6 Q _ _ _ wr HD6.out.view (HS6.out.2.1.sizes HS6.out.2.2) HP6.out.at_ HPF.out)
          go_upto_region 15 with fail
          apply wp_region_lit
          -- a load of a whole row: y block, HY6.out fact RowAt, api.Dict the type's name
          refine plain_load rfl _ _ rfl y rfl _ _ (HY6.out) Tryz.underlying28 rfl (by kernel_rfl) ?_
          go_simp
          -- a load of a whole row: q block, HQ6.out fact RowAt, api.Pattern the type's name
          refine plain_load rfl _ _ rfl q rfl _ _ (HQ6.out) Tryz.underlying35 rfl (by kernel_rfl) ?_
          go_simp
          -- a call in a plain region: refine HGN.out.mono ?_; rintro e w5 ⟨G', n', c', r1, e1, r2, e2, r3, e3, r4, e4, rfl, hor', hgi', hx5⟩ the contract taken, and its results named
          refine wpList_plain rfl fun K1 hK1 => ?_
          go_simp
          refine HGN.out.mono ?_; rintro e w5 ⟨G', n', c', r1, e1, r2, e2, r3, e3, r4, e4, rfl, hor', hgi', hx5⟩
          go_simp
          refine hK1 _ _ ?_
          clear hK1 K1
          obtain ⟨hGe, _, rfl⟩ := hor'.of HS6.out.2.1 HPOK.out (goalF_sup HS6.out.1 HGF.out)
          obtain rfl : G = G' := hGe.symm
          refine wpList_plain rfl fun K1 hK1 => ?_
          go_simp
          refine hK1 _ _ ?_
          clear hK1 K1
          refine wpList_plain rfl fun K1 hK1 => ?_
          go_simp
          refine hK1 _ _ ?_
          clear hK1 K1
          refine wpList_plain rfl fun K1 hK1 => ?_
          go_simp
          refine hK1 _ _ ?_
          clear hK1 K1
          refine wpList_plain rfl fun K1 hK1 => ?_
          go_simp
          refine hK1 _ _ ?_
          clear hK1 K1
          -- in a plain region: memory is made and written: w5 world before, #[.slice none 0 0, .slice none 0 0, .slice none 0 0, .bool false, .bool false, .bool false, .int .i64 0, .int .i64 0, .slice none 0 0] zero cells (a literal array), api.Goal type's name, h block's name, golC (.slice r1 G.vars.length e1) (.slice r2 G.atoms.length e2) (.slice r3 G.ret.length e3) (.slice r4 G.hint.length e4) G new cells (a list), (by simp [golC, Value.oneCell']) proof that each is one cell, w6 world behind. Facts: HEw6 (Ext), HRh (the row), HSh (where it is)
          refine wpList_plain rfl fun K1 hK1 => ?_
          go_simp
          refine hK1 _ _ ?_
          clear hK1 K1
          have hax := Ext.alloc w5 (.cells #[.slice none 0 0, .slice none 0 0, .slice none 0 0, .bool false, .bool false, .bool false, .int .i64 0, .int .i64 0, .slice none 0 0] 39)
          have har : RowAt (w5.alloc (.cells #[.slice none 0 0, .slice none 0 0, .slice none 0 0, .bool false, .bool false, .bool false, .int .i64 0, .int .i64 0, .slice none 0 0] 39)) w5.heap.size 39 (#[.slice none 0 0, .slice none 0 0, .slice none 0 0, .bool false, .bool false, .bool false, .int .i64 0, .int .i64 0, .slice none 0 0]).toList := RowAt.new _ _ _
          refine plain_store rfl _ _ _ rfl w5.heap.size (golC (.slice r1 G.vars.length e1) (.slice r2 G.atoms.length e2) (.slice r3 G.ret.length e3) (.slice r4 G.hint.length e4) G) rfl rfl har (by kernel_rfl) rfl ((by simp [golC, Value.oneCell'])) ?_
          have hex : Ext w5 ((w5.alloc (.cells #[.slice none 0 0, .slice none 0 0, .slice none 0 0, .bool false, .bool false, .bool false, .int .i64 0, .int .i64 0, .slice none 0 0] 39)).setRow w5.heap.size (golC (.slice r1 G.vars.length e1) (.slice r2 G.atoms.length e2) (.slice r3 G.ret.length e3) (.slice r4 G.hint.length e4) G).toArray) := below_setRow hax (Nat.le_refl _) _
          have HEw6 := Lib.hid hex
          have HRh := Lib.hid (har.setRow (golC (.slice r1 G.vars.length e1) (.slice r2 G.atoms.length e2) (.slice r3 G.ret.length e3) (.slice r4 G.hint.length e4) G))
          clear hax har hex
          go_simp
          generalize (w5.alloc (.cells #[.slice none 0 0, .slice none 0 0, .slice none 0 0, .bool false, .bool false, .bool false, .int .i64 0, .int .i64 0, .slice none 0 0] 39)).setRow w5.heap.size (golC (.slice r1 G.vars.length e1) (.slice r2 G.atoms.length e2) (.slice r3 G.ret.length e3) (.slice r4 G.hint.length e4) G).toArray = w6 at *
          obtain ⟨h, hsh⟩ : ∃ x, w5.heap.size = x := ⟨_, rfl⟩
          rw [hsh] at HRh
          simp only [hsh]
          have HSh := Lib.hid hsh
          clear hsh
          refine wpList_plain rfl fun K1 hK1 => ?_
          go_simp
          refine hK1 _ _ ?_
          clear hK1 K1
          refine wpList_plain rfl fun K1 hK1 => ?_
          go_simp
          refine hK1 _ _ ?_
          clear hK1 K1
          apply wpList_nil
          have hx6 := hx5.trans HEw6.out
          have HX6 := Lib.hid (HXR.out.trans hx6)
          have HY7 := Lib.hid (HY6.out.ext hx6)
          have HG7 := Lib.hid (HG6.out.ext hx6)
          have HR7 := Lib.hid (HR6.out.ext hx6)
          have HD7 := Lib.hid (HD6.out.ext hx6)
          have HH7 := Lib.hid (hgi'.at_.ext HEw6.out)
          have HRH := Lib.hid (show RowAt w6 h 39 (golC (.slice r1 G.vars.length e1) (.slice r2 G.atoms.length e2) (.slice r3 G.ret.length e3) (.slice r4 G.hint.length e4) G) from HRh.out)
          clear hx5 hx6 HEw6 HSh HRh HY6 HP6 HQ6 HG6 HR6 HD6 HXR hor' hgi' HGN
          have hsm := sameG_any _ _ G G w6 HG7.out.at_ HH7.out (by have := HFT.out; omega) (by have := HFT.out; omega)
          rw [decide_eq_true rfl] at hsm
          unfold golV at hsm
          have HSM := Lib.hid hsm
          have HCK := Lib.hid (fun w' (hx : Ext w6 w') => checkN A6 E6 G (golC (.slice q1 G.vars.length d1) (.slice q2 G.atoms.length d2) (.slice q3 G.ret.length d3) (.slice q4 G.hint.length d4) G) w' (HD7.out.view.ext hx) (HS6.out.2.1.sizes HS6.out.2.2) (HG7.out.at_.ext hx) HFT.out.1)
          clear hsm
          go_upto_region 16 with fail
          apply wp_region_lit
          refine wpList_plain rfl fun K1 hK1 => ?_
          go_simp
          refine hK1 _ _ ?_
          clear hK1 K1
          refine wpList_plain rfl fun K1 hK1 => ?_
          go_simp
          refine hK1 _ _ ?_
          clear hK1 K1
          refine wpList_plain rfl fun K1 hK1 => ?_
          go_simp
          refine hK1 _ _ ?_
          clear hK1 K1
          -- a guarded load of a whole row, whose guard holds: g block, HR7.out fact RowAt, api.Goal the type's name
          refine wpList_yes (by first | rfl | decide | kernel_rfl) fun K1 hK1 => ?_
          refine wp_load_mid _ _ rfl g 0 rfl _ _ (HR7.out).whole Tryz.underlying39 rfl (by kernel_rfl) ?_
          refine hK1 _ _ ?_
          clear hK1 K1
          go_simp
          -- a guarded load of a whole row, whose guard holds: h block, HRH.out fact RowAt, api.Goal the type's name
          refine wpList_yes (by first | rfl | decide | kernel_rfl) fun K1 hK1 => ?_
          refine wp_load_mid _ _ rfl h 0 rfl _ _ (HRH.out).whole Tryz.underlying39 rfl (by kernel_rfl) ?_
          refine hK1 _ _ ?_
          clear hK1 K1
          go_simp
          -- a guarded call whose guard holds: refine HSM.out.mono ?_; rintro e w8 ⟨rfl, hx8⟩ the contract taken, and its results named
          refine wpList_yes (by first | rfl | decide | kernel_rfl) fun K1 hK1 => ?_
          go_simp
          refine HSM.out.mono ?_; rintro e w8 ⟨rfl, hx8⟩
          go_simp
          refine hK1 _ _ ?_
          clear hK1 K1
          refine wpList_plain rfl fun K1 hK1 => ?_
          go_simp
          refine hK1 _ _ ?_
          clear hK1 K1
          refine wpList_plain rfl fun K1 hK1 => ?_
          go_simp
          refine hK1 _ _ ?_
          clear hK1 K1
          -- a guarded load of a whole row, whose guard holds: y block, HY7.out.ext hx8 fact RowAt, api.Dict the type's name
          refine wpList_yes (by first | rfl | decide | kernel_rfl) fun K1 hK1 => ?_
          refine wp_load_mid _ _ rfl y 0 rfl _ _ (HY7.out.ext hx8).whole Tryz.underlying28 rfl (by kernel_rfl) ?_
          refine hK1 _ _ ?_
          clear hK1 K1
          go_simp
          -- a guarded load of a whole row, whose guard holds: g block, HR7.out.ext hx8 fact RowAt, api.Goal the type's name
          refine wpList_yes (by first | rfl | decide | kernel_rfl) fun K1 hK1 => ?_
          refine wp_load_mid _ _ rfl g 0 rfl _ _ (HR7.out.ext hx8).whole Tryz.underlying39 rfl (by kernel_rfl) ?_
          refine hK1 _ _ ?_
          clear hK1 K1
          go_simp
          -- a guarded call whose guard holds: refine (HCK.out w8 hx8).mono ?_; rintro e w9 ⟨P9, c9, rfl, hb9, hx9⟩ the contract taken, and its results named
          refine wpList_yes (by first | rfl | decide | kernel_rfl) fun K1 hK1 => ?_
          go_simp
          refine (HCK.out w8 hx8).mono ?_; rintro e w9 ⟨P9, c9, rfl, hb9, hx9⟩
          go_simp
          refine hK1 _ _ ?_
          clear hK1 K1
          obtain ⟨_, rfl⟩ := hb9.of HS6.out.2.1 (back_goal HPOK.out (goalF_sup HS6.out.1 HGF.out))
          -- a guarded operation whose guard holds
          refine wpList_yes (by first | rfl | decide | kernel_rfl) fun K1 hK1 => ?_
          go_simp
          refine hK1 _ _ ?_
          clear hK1 K1
          refine wpList_plain rfl fun K1 hK1 => ?_
          go_simp
          refine hK1 _ _ ?_
          clear hK1 K1
          refine wpList_plain rfl fun K1 hK1 => ?_
          go_simp
          refine hK1 _ _ ?_
          clear hK1 K1
          apply wpList_nil
          go_wp2_with fail
          go_ret
          exact ⟨rfl, (HX6.out.trans hx8).trans hx9⟩
        · have hb8 : ((k : Int) == 8) = false := by simp; omega
          clear h8
          have HPUT := Lib.hid (fun kd w' (hx : Ext wr w') => putN A6 E6 kd s w' (HD6.out.view.ext hx) HS6.out.2.1 HS6.out.2.2 HS.out)
          go_upto_region 11 with fail
          clear c0
          apply wp_region_lit
          -- a load of a whole row: y block, HY6.out fact RowAt, api.Dict the type's name
          refine plain_load rfl _ _ rfl y rfl _ _ (HY6.out) Tryz.underlying28 rfl (by kernel_rfl) ?_
          go_simp
          refine wpList_plain rfl fun K1 hK1 => ?_
          go_simp
          refine hK1 _ _ ?_
          clear hK1 K1
          refine wpList_plain rfl fun K1 hK1 => ?_
          go_simp
          refine hK1 _ _ ?_
          clear hK1 K1
          refine wpList_plain rfl fun K1 hK1 => ?_
          go_simp
          refine hK1 _ _ ?_
          clear hK1 K1
          -- a call in a plain region: refine (HPUT.out _ wr (Ext.refl _)).mono ?_; rintro e w5 ⟨A7, n7, c7, rfl, hx5, hcase⟩ the contract taken, and its results named
          refine wpList_plain rfl fun K1 hK1 => ?_
          go_simp
          refine (HPUT.out _ wr (Ext.refl _)).mono ?_; rintro e w5 ⟨A7, n7, c7, rfl, hx5, hcase⟩
          go_simp
          refine hK1 _ _ ?_
          clear hK1 K1
          refine wpList_plain rfl fun K1 hK1 => ?_
          go_simp
          refine hK1 _ _ ?_
          clear hK1 K1
          refine wpList_plain rfl fun K1 hK1 => ?_
          go_simp
          refine hK1 _ _ ?_
          clear hK1 K1
          refine wpList_plain rfl fun K1 hK1 => ?_
          go_simp
          refine hK1 _ _ ?_
          clear hK1 K1
          refine wpList_plain rfl fun K1 hK1 => ?_
          go_simp
          refine hK1 _ _ ?_
          clear hK1 K1
          -- in a plain region: memory is made and written: w5 world before, #[.slice none 0 0, .slice none 0 0, .slice none 0 0, .slice none 0 0, .slice none 0 0, .slice none 0 0, .slice none 0 0, .slice none 0 0, .slice none 0 0, .slice none 0 0] zero cells (a literal array), api.Dict type's name, z block's name, dcells (hv A7) new cells (a list), (by simp [dcells, hv, Value.oneCell']) proof that each is one cell, w6 world behind. Facts: HEw6 (Ext), HRz (the row), HSz (where it is)
          refine wpList_plain rfl fun K1 hK1 => ?_
          go_simp
          refine hK1 _ _ ?_
          clear hK1 K1
          have hax := Ext.alloc w5 (.cells #[.slice none 0 0, .slice none 0 0, .slice none 0 0, .slice none 0 0, .slice none 0 0, .slice none 0 0, .slice none 0 0, .slice none 0 0, .slice none 0 0, .slice none 0 0] 28)
          have har : RowAt (w5.alloc (.cells #[.slice none 0 0, .slice none 0 0, .slice none 0 0, .slice none 0 0, .slice none 0 0, .slice none 0 0, .slice none 0 0, .slice none 0 0, .slice none 0 0, .slice none 0 0] 28)) w5.heap.size 28 (#[.slice none 0 0, .slice none 0 0, .slice none 0 0, .slice none 0 0, .slice none 0 0, .slice none 0 0, .slice none 0 0, .slice none 0 0, .slice none 0 0, .slice none 0 0]).toList := RowAt.new _ _ _
          refine plain_store rfl _ _ _ rfl w5.heap.size (dcells (hv A7)) rfl rfl har (by kernel_rfl) rfl ((by simp [dcells, hv, Value.oneCell'])) ?_
          have hex : Ext w5 ((w5.alloc (.cells #[.slice none 0 0, .slice none 0 0, .slice none 0 0, .slice none 0 0, .slice none 0 0, .slice none 0 0, .slice none 0 0, .slice none 0 0, .slice none 0 0, .slice none 0 0] 28)).setRow w5.heap.size (dcells (hv A7)).toArray) := below_setRow hax (Nat.le_refl _) _
          have HEw6 := Lib.hid hex
          have HRz := Lib.hid (har.setRow (dcells (hv A7)))
          clear hax har hex
          go_simp
          generalize (w5.alloc (.cells #[.slice none 0 0, .slice none 0 0, .slice none 0 0, .slice none 0 0, .slice none 0 0, .slice none 0 0, .slice none 0 0, .slice none 0 0, .slice none 0 0, .slice none 0 0] 28)).setRow w5.heap.size (dcells (hv A7)).toArray = w6 at *
          obtain ⟨z, hsz⟩ : ∃ x, w5.heap.size = x := ⟨_, rfl⟩
          rw [hsz] at HRz
          simp only [hsz]
          have HSz := Lib.hid hsz
          clear hsz
          refine wpList_plain rfl fun K1 hK1 => ?_
          go_simp
          refine hK1 _ _ ?_
          clear hK1 K1
          refine wpList_plain rfl fun K1 hK1 => ?_
          go_simp
          refine hK1 _ _ ?_
          clear hK1 K1
          apply wpList_nil
          have hx6 := hx5.trans HEw6.out
          have HX6 := Lib.hid (HXR.out.trans hx6)
          have HY7 := Lib.hid (HY6.out.ext hx6)
          have HP7 := Lib.hid (HP6.out.ext hx6)
          have HQ7 := Lib.hid (HQ6.out.ext hx6)
          have HG7 := Lib.hid (HG6.out.ext hx6)
          have HR7 := Lib.hid (HR6.out.ext hx6)
          have HD7 := Lib.hid (HD6.out.ext hx6)
          have HRZ := Lib.hid (show RowAt w6 z 28 (dcells (hv A7)) from HRz.out)
          have HWS := Lib.hid (show w2.heap.size ≤ wr.heap.size from Nat.le_trans HYQ.out.1 (Nat.le_of_lt HY6.out.lt))
          rcases hcase with hne | ⟨rfl, D7, ho7, hs7, hk7, hz7⟩
          · have hcb : (c7 == 0) = false := by simpa using hne
            clear hne hx5 hx6 HEw6 HRz HSz HY6 HP6 HQ6 HG6 HR6 HD6 HXR HPUT HWS HRZ
            go_wp2_with fail
            go_roundg (M.length - (k + 1))
            case measure => have := Hg.out; omega
            case rel => exact ⟨k + 1, A6, E6, by omega, rfl, by first | rfl | go_num, HD7, HY7, HS6, HP7, HQ7, HG7, HR7, HX6⟩
          · have HO7 := Lib.hid (DicOwn.base (ho7.ext HEw6.out) HWS.out)
            have HS7 := Lib.hid (show Sup E D7 ∧ DicOK D7 ∧ ∀ i, i < 5 → (D7 i).2.length ≤ 4096 from ⟨HS6.out.1.trans hs7, hk7, hz7⟩)
            clear ho7 hs7 hk7 hz7 hx5 hx6 HEw6 HRz HSz HY6 HP6 HQ6 HG6 HR6 HD6 HXR HPUT HWS
            go_upto_region 13 with fail
            apply wp_region_lit
            -- a load of a whole row: z block, HRZ.out fact RowAt, api.Dict the type's name
            refine plain_load rfl _ _ rfl z rfl _ _ (HRZ.out) Tryz.underlying28 rfl (by kernel_rfl) ?_
            go_simp
            -- a store of a whole row: y block, dcells (hv A7) its new cells (a list), HY7.out fact RowAt of the old, (by simp [dcells, hv, Value.oneCell']) proof that each is one cell
            refine plain_store rfl _ _ _ rfl y (dcells (hv A7)) rfl rfl (HY7.out) (by kernel_rfl) rfl ((by simp [dcells, hv, Value.oneCell'])) ?_
            go_simp
            have hgw := setRow_grown w6 y (dcells (hv A7)).toArray
            have HO8 := Lib.hid (HO7.out.turn HY7.out hgw)
            have HX8 := Lib.hid (show Ext w (w6.setRow y (dcells (hv A7)).toArray) from below_setRow HX6.out (Nat.le_trans HX2.out.size HYQ.out.1) _)
            have HQ8 := Lib.hid ((setRow_other w6 y q (dcells (hv A7)).toArray (row_ne HQ7.out HY7.out (by decide))).trans HQ7.out)
            have HR8 := Lib.hid ((setRow_other w6 y g (dcells (hv A7)).toArray (row_ne HR7.out HY7.out (by decide))).trans HR7.out)
            have HP8 := Lib.hid (HP7.out.turn HY7.out (by decide) (by decide) hgw)
            have HG8 := Lib.hid (HG7.out.turn HY7.out (by decide) (by decide) (by decide) hgw)
            have HY8 := Lib.hid (HY7.out.setRow (dcells (hv A7)))
            clear hgw HO7 HX6 HQ7 HR7 HP7 HG7 HY7 HRZ HD7
            generalize w6.setRow y (dcells (hv A7)).toArray = w7 at *
            apply wpList_nil
            go_wp2_with fail
            go_roundg (M.length - (k + 1))
            case measure => have := Hg.out; omega
            case rel => exact ⟨k + 1, A7, D7, by omega, rfl, by first | rfl | go_num, HO8, HY8, HS7, HP8, HQ8, HG8, HR8, HX8⟩
      · have hlt' : k = M.length := by omega
        have HGN := Lib.hid (goalN A6 E6 Q _ _ _ wr HD6.out.view (HS6.out.2.1.sizes HS6.out.2.2) HP6.out.at_ HPF.out)
        go_upto_region 15 with fail
        apply wp_region_lit
        -- a load of a whole row: y block, HY6.out fact RowAt, api.Dict the type's name
        refine plain_load rfl _ _ rfl y rfl _ _ (HY6.out) Tryz.underlying28 rfl (by kernel_rfl) ?_
        go_simp
        -- a load of a whole row: q block, HQ6.out fact RowAt, api.Pattern the type's name
        refine plain_load rfl _ _ rfl q rfl _ _ (HQ6.out) Tryz.underlying35 rfl (by kernel_rfl) ?_
        go_simp
        -- a call in a plain region: refine HGN.out.mono ?_; rintro e w5 ⟨G', n', c', r1, e1, r2, e2, r3, e3, r4, e4, rfl, hor', hgi', hx5⟩ the contract taken, and its results named
        refine wpList_plain rfl fun K1 hK1 => ?_
        go_simp
        refine HGN.out.mono ?_; rintro e w5 ⟨G', n', c', r1, e1, r2, e2, r3, e3, r4, e4, rfl, hor', hgi', hx5⟩
        go_simp
        refine hK1 _ _ ?_
        clear hK1 K1
        obtain ⟨hGe, _, rfl⟩ := hor'.of HS6.out.2.1 HPOK.out (goalF_sup HS6.out.1 HGF.out)
        obtain rfl : G = G' := hGe.symm
        refine wpList_plain rfl fun K1 hK1 => ?_
        go_simp
        refine hK1 _ _ ?_
        clear hK1 K1
        refine wpList_plain rfl fun K1 hK1 => ?_
        go_simp
        refine hK1 _ _ ?_
        clear hK1 K1
        refine wpList_plain rfl fun K1 hK1 => ?_
        go_simp
        refine hK1 _ _ ?_
        clear hK1 K1
        refine wpList_plain rfl fun K1 hK1 => ?_
        go_simp
        refine hK1 _ _ ?_
        clear hK1 K1
        -- in a plain region: memory is made and written: w5 world before, #[.slice none 0 0, .slice none 0 0, .slice none 0 0, .bool false, .bool false, .bool false, .int .i64 0, .int .i64 0, .slice none 0 0] zero cells (a literal array), api.Goal type's name, h block's name, golC (.slice r1 G.vars.length e1) (.slice r2 G.atoms.length e2) (.slice r3 G.ret.length e3) (.slice r4 G.hint.length e4) G new cells (a list), (by simp [golC, Value.oneCell']) proof that each is one cell, w6 world behind. Facts: HEw6 (Ext), HRh (the row), HSh (where it is)
        refine wpList_plain rfl fun K1 hK1 => ?_
        go_simp
        refine hK1 _ _ ?_
        clear hK1 K1
        have hax := Ext.alloc w5 (.cells #[.slice none 0 0, .slice none 0 0, .slice none 0 0, .bool false, .bool false, .bool false, .int .i64 0, .int .i64 0, .slice none 0 0] 39)
        have har : RowAt (w5.alloc (.cells #[.slice none 0 0, .slice none 0 0, .slice none 0 0, .bool false, .bool false, .bool false, .int .i64 0, .int .i64 0, .slice none 0 0] 39)) w5.heap.size 39 (#[.slice none 0 0, .slice none 0 0, .slice none 0 0, .bool false, .bool false, .bool false, .int .i64 0, .int .i64 0, .slice none 0 0]).toList := RowAt.new _ _ _
        refine plain_store rfl _ _ _ rfl w5.heap.size (golC (.slice r1 G.vars.length e1) (.slice r2 G.atoms.length e2) (.slice r3 G.ret.length e3) (.slice r4 G.hint.length e4) G) rfl rfl har (by kernel_rfl) rfl ((by simp [golC, Value.oneCell'])) ?_
        have hex : Ext w5 ((w5.alloc (.cells #[.slice none 0 0, .slice none 0 0, .slice none 0 0, .bool false, .bool false, .bool false, .int .i64 0, .int .i64 0, .slice none 0 0] 39)).setRow w5.heap.size (golC (.slice r1 G.vars.length e1) (.slice r2 G.atoms.length e2) (.slice r3 G.ret.length e3) (.slice r4 G.hint.length e4) G).toArray) := below_setRow hax (Nat.le_refl _) _
        have HEw6 := Lib.hid hex
        have HRh := Lib.hid (har.setRow (golC (.slice r1 G.vars.length e1) (.slice r2 G.atoms.length e2) (.slice r3 G.ret.length e3) (.slice r4 G.hint.length e4) G))
        clear hax har hex
        go_simp
        generalize (w5.alloc (.cells #[.slice none 0 0, .slice none 0 0, .slice none 0 0, .bool false, .bool false, .bool false, .int .i64 0, .int .i64 0, .slice none 0 0] 39)).setRow w5.heap.size (golC (.slice r1 G.vars.length e1) (.slice r2 G.atoms.length e2) (.slice r3 G.ret.length e3) (.slice r4 G.hint.length e4) G).toArray = w6 at *
        obtain ⟨h, hsh⟩ : ∃ x, w5.heap.size = x := ⟨_, rfl⟩
        rw [hsh] at HRh
        simp only [hsh]
        have HSh := Lib.hid hsh
        clear hsh
        refine wpList_plain rfl fun K1 hK1 => ?_
        go_simp
        refine hK1 _ _ ?_
        clear hK1 K1
        refine wpList_plain rfl fun K1 hK1 => ?_
        go_simp
        refine hK1 _ _ ?_
        clear hK1 K1
        apply wpList_nil
        have hx6 := hx5.trans HEw6.out
        have HX6 := Lib.hid (HXR.out.trans hx6)
        have HY7 := Lib.hid (HY6.out.ext hx6)
        have HG7 := Lib.hid (HG6.out.ext hx6)
        have HR7 := Lib.hid (HR6.out.ext hx6)
        have HD7 := Lib.hid (HD6.out.ext hx6)
        have HH7 := Lib.hid (hgi'.at_.ext HEw6.out)
        have HRH := Lib.hid (show RowAt w6 h 39 (golC (.slice r1 G.vars.length e1) (.slice r2 G.atoms.length e2) (.slice r3 G.ret.length e3) (.slice r4 G.hint.length e4) G) from HRh.out)
        clear hx5 hx6 HEw6 HSh HRh HY6 HP6 HQ6 HG6 HR6 HD6 HXR hor' hgi' HGN
        have hsm := sameG_any _ _ G G w6 HG7.out.at_ HH7.out (by have := HFT.out; omega) (by have := HFT.out; omega)
        rw [decide_eq_true rfl] at hsm
        unfold golV at hsm
        have HSM := Lib.hid hsm
        have HCK := Lib.hid (fun w' (hx : Ext w6 w') => checkN A6 E6 G (golC (.slice q1 G.vars.length d1) (.slice q2 G.atoms.length d2) (.slice q3 G.ret.length d3) (.slice q4 G.hint.length d4) G) w' (HD7.out.view.ext hx) (HS6.out.2.1.sizes HS6.out.2.2) (HG7.out.at_.ext hx) HFT.out.1)
        clear hsm
        go_upto_region 16 with fail
        apply wp_region_lit
        refine wpList_plain rfl fun K1 hK1 => ?_
        go_simp
        refine hK1 _ _ ?_
        clear hK1 K1
        refine wpList_plain rfl fun K1 hK1 => ?_
        go_simp
        refine hK1 _ _ ?_
        clear hK1 K1
        refine wpList_plain rfl fun K1 hK1 => ?_
        go_simp
        refine hK1 _ _ ?_
        clear hK1 K1
        -- a guarded load of a whole row, whose guard holds: g block, HR7.out fact RowAt, api.Goal the type's name
        refine wpList_yes (by first | rfl | decide | kernel_rfl) fun K1 hK1 => ?_
        refine wp_load_mid _ _ rfl g 0 rfl _ _ (HR7.out).whole Tryz.underlying39 rfl (by kernel_rfl) ?_
        refine hK1 _ _ ?_
        clear hK1 K1
        go_simp
        -- a guarded load of a whole row, whose guard holds: h block, HRH.out fact RowAt, api.Goal the type's name
        refine wpList_yes (by first | rfl | decide | kernel_rfl) fun K1 hK1 => ?_
        refine wp_load_mid _ _ rfl h 0 rfl _ _ (HRH.out).whole Tryz.underlying39 rfl (by kernel_rfl) ?_
        refine hK1 _ _ ?_
        clear hK1 K1
        go_simp
        -- a guarded call whose guard holds: refine HSM.out.mono ?_; rintro e w8 ⟨rfl, hx8⟩ the contract taken, and its results named
        refine wpList_yes (by first | rfl | decide | kernel_rfl) fun K1 hK1 => ?_
        go_simp
        refine HSM.out.mono ?_; rintro e w8 ⟨rfl, hx8⟩
        go_simp
        refine hK1 _ _ ?_
        clear hK1 K1
        refine wpList_plain rfl fun K1 hK1 => ?_
        go_simp
        refine hK1 _ _ ?_
        clear hK1 K1
        refine wpList_plain rfl fun K1 hK1 => ?_
        go_simp
        refine hK1 _ _ ?_
        clear hK1 K1
        -- a guarded load of a whole row, whose guard holds: y block, HY7.out.ext hx8 fact RowAt, api.Dict the type's name
        refine wpList_yes (by first | rfl | decide | kernel_rfl) fun K1 hK1 => ?_
        refine wp_load_mid _ _ rfl y 0 rfl _ _ (HY7.out.ext hx8).whole Tryz.underlying28 rfl (by kernel_rfl) ?_
        refine hK1 _ _ ?_
        clear hK1 K1
        go_simp
        -- a guarded load of a whole row, whose guard holds: g block, HR7.out.ext hx8 fact RowAt, api.Goal the type's name
        refine wpList_yes (by first | rfl | decide | kernel_rfl) fun K1 hK1 => ?_
        refine wp_load_mid _ _ rfl g 0 rfl _ _ (HR7.out.ext hx8).whole Tryz.underlying39 rfl (by kernel_rfl) ?_
        refine hK1 _ _ ?_
        clear hK1 K1
        go_simp
        -- a guarded call whose guard holds: refine (HCK.out w8 hx8).mono ?_; rintro e w9 ⟨P9, c9, rfl, hb9, hx9⟩ the contract taken, and its results named
        refine wpList_yes (by first | rfl | decide | kernel_rfl) fun K1 hK1 => ?_
        go_simp
        refine (HCK.out w8 hx8).mono ?_; rintro e w9 ⟨P9, c9, rfl, hb9, hx9⟩
        go_simp
        refine hK1 _ _ ?_
        clear hK1 K1
        obtain ⟨_, rfl⟩ := hb9.of HS6.out.2.1 (back_goal HPOK.out (goalF_sup HS6.out.1 HGF.out))
        -- a guarded operation whose guard holds
        refine wpList_yes (by first | rfl | decide | kernel_rfl) fun K1 hK1 => ?_
        go_simp
        refine hK1 _ _ ?_
        clear hK1 K1
        refine wpList_plain rfl fun K1 hK1 => ?_
        go_simp
        refine hK1 _ _ ?_
        clear hK1 K1
        refine wpList_plain rfl fun K1 hK1 => ?_
        go_simp
        refine hK1 _ _ ?_
        clear hK1 K1
        apply wpList_nil
        go_wp2_with fail
        go_ret
        exact ⟨rfl, (HX6.out.trans hx8).trans hx9⟩
  · have hne : (c != 0) = true := by simpa using hc
    go_wp2_with fail
    go_ret
    exact ⟨rfl, HX4.out⟩
end Go.Proofs.YtkmbnghghbfkdaaGreat
