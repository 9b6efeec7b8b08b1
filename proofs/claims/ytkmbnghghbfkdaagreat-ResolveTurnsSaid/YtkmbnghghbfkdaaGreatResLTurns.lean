/- The law ResolveTurns returns true. -/
import Derived.Test.YtkmbnghghbfkdaaGreatGp39
namespace Go.Proofs.YtkmbnghghbfkdaaGreat
set_option maxRecDepth 100000
set_option maxHeartbeats 2000000
set_option linter.unusedSimpArgs false
open Go.RowKit Go.Shelf Go.Sort
attribute [local go_sem] Oper.semAt_some wide_fn wide_depth
set_option linter.unusedVariables false

def groT9 : Nat → Gro
  | 9 => .read
  | 19 => .read
  | 20 => .read
  | 21 => .grow
  | 25 => .read
  | 26 => .read
  | 27 => .grow
  | 32 => .read
  | 33 => .read
  | 34 => .grow
  | 35 => .grow
  | _ => .pure
def retNil (P : Pat) : Pat := ⟨P.atoms, [], P.count, P.distinct, P.limited, P.limit, P.offset, P.hint⟩
theorem backP_same {P : Pat} (h : P.ret.length = 0 ∨ 0 < (backP P).ret.length) : backP P = P := by
  unfold backP at h ⊢
  obtain ⟨a, b, c, d, e, f, g, i⟩ := P
  dsimp only at h ⊢
  by_cases hb : b = varsS a
  · rw [if_pos hb] at h ⊢
    rcases h with h | h
    · rw [List.eq_nil_of_length_eq_zero h]
    · simp at h
  · rw [if_neg hb]
theorem backP_nil {P : Pat} (h1 : ¬ P.ret.length = 0) (h2 : (backP P).ret.length = 0) : backP P = retNil P ∧ P.ret = varsS P.atoms := by
  unfold backP retNil at *
  dsimp only at h2
  by_cases hb : P.ret = varsS P.atoms
  · rw [if_pos hb]; exact ⟨rfl, hb⟩
  · rw [if_neg hb] at h2; exact absurd h2 h1
theorem goalF_ret {D : Dic} {P : Pat} {G : Gol} (hg : goalF D P = some G) (h : P.ret = varsS P.atoms) : G.ret.length = G.vars.length := by
  obtain ⟨_, rfl⟩ := goalF_some hg
  show (List.map _ (if P.ret = [] then varsS P.atoms else P.ret)).length = (varsS P.atoms).length
  rw [List.length_map]
  split
  · rfl
  · rw [h]
theorem goalF_vars {D : Dic} {P : Pat} {G : Gol} (hok : P.okB = true) (hg : goalF D P = some G) : G.vars = varsE P := by
  obtain ⟨_, rfl⟩ := goalF_some hg
  unfold varsE
  rw [if_pos hok]
  rfl
set_option maxRecDepth 100000 in
set_option maxHeartbeats 4000000 in
theorem rturns_walk (v0 : Value) (D : Dic) (v1 : Value) (w : World) (h0 : ∃ vs, v0 = dv vs ∧ DicV w vs D ∧ ∀ i, i < 5 → ∀ s ∈ (D i).1, s.size ≤ 9223372036854775807) (h1 : ∃ P : Pat, PatAt w v1 P ∧ P.Near) :
    Calls Tryz.prog 5 #[v0, v1] w fun e w' => e = .returned (.bool true) ∧ Ext w w' := by
  have hmo : Tryz.prog.follows .mixedOrders = true := by kernel_rfl
  -- a dictionary and a pattern among a law's arguments (h0, h1): contracts of their owns
  obtain ⟨vs, rfl, hV0, hs0⟩ := h0
  obtain ⟨A, hA1, hA2⟩ := heads hV0.shape
  rw [show dv vs = dv (hv A) from by unfold dv; rw [hA2]]
  have hV : DicV w (hv A) D := fun i hi => by rw [← hA1 i hi]; exact hV0 i hi
  clear hA1 hA2 hV0
  have HOWD := Lib.hid (fun w' (hx : Ext w w') => ownDic18_any (hv A) D w' (hV.ext hx))
  have HDS := Lib.hid (cutD_s hs0)
  obtain ⟨P, hP, hPn⟩ := h1
  have HOWP := Lib.hid (fun w' (hx : Ext w w') => ownP18_any _ P w' (hP.ext hx))
  have HPF := Lib.hid (cutP_near hPn)
  obtain ⟨pav, prv, phv, rfl, _, _, _⟩ := hP
  have hbx := boxes2 w (dcells (hv A)) 28 (patL pav prv phv P) 35
  have HBX := Lib.hid hbx
  clear hbx hV hs0 hPn
  -- enter the law ResolveTurns, its two boxes named, and go over wakes
  unfold dv patV at *
  go_enter Tryz.func5, Tryz.ntmps5
  go_upto_region 1 with fail
  generalize (w.alloc (.cells (dcells (hv A)).toArray 28)).alloc (.cells (patL pav prv phv P).toArray 35) = w1 at *
  obtain ⟨y0, hy0⟩ : ∃ x, w.heap.size = x := ⟨_, rfl⟩
  obtain ⟨y1, hy1⟩ : ∃ x, y0 + 1 = x := ⟨_, rfl⟩
  rw [hy0, hy1] at HBX
  simp only [hy0, hy1]
  have HX := Lib.hid HBX.out.1
  have H0 := Lib.hid HBX.out.2.1
  have H1 := Lib.hid HBX.out.2.2
  clear hy0 hy1 HBX
  go_wp2_with fail
  refine (wakesG_any w1).mono ?_
  rintro e w2 ⟨rfl, hx2⟩
  have HX2 := Lib.hid (HX.out.trans hx2)
  replace H0 := Lib.hid (H0.out.ext hx2)
  replace H1 := Lib.hid (H1.out.ext hx2)
  clear hx2 HX
  go_upto_region 3 with fail
  -- d, p := ownDict(x), ownPattern(q): 17, 18, 19, 20, 5, 6 the slots, w2 world now, y0 y1 the argument boxes' blocks, H0 H1 their row facts over w2 (hidden), patL pav prv phv P the pattern's argument (patL ..), HOWD HOWP (contracts over worlds), HX2 (Ext w w2): gives wq, A5, y, q, HDQ (DicOwn), HPQ (PatOwn), HBY HBQ (rows), HXQ, pattern slices
  refine wp_region_inv [17, 18, 19, 20, 5, 6] _ depR2 (ManyF 2 w2 (rV2 (.agg (dcells (hv A)).toArray) (.agg (patL pav prv phv P).toArray)) (rO2 w2.heap.size (cutD D) (cutP P)) rT2 rZ2) hmo (by kernel_rfl) (by kernel_rfl) (puts_self _ _) (ManyF.start rfl (Ext.drewN w2 1)) ?_ ?_
  · refine ⟨?_, ?_, ?_, ?_, ?_, ?_, ?_, ?_, trivial⟩
    all_goals
      rintro S us wq hd hn hF K hK
      obtain ⟨u0, u1, u2, u3, u4, u5, rfl⟩ := six6 hF.len
      have HK := Lib.hid hK
      have HF := Lib.hid hF
      have HN := Lib.hid hn
      have HD := Lib.hid hd
      clear hK hF hn hd
      simp only [puts, Act.put, List.setIfInBounds_toArray, List.set_cons_succ, List.set_cons_zero, List.set_nil]
    · have hk := HK.out _ _ (HF.out.load (i := 0) (by omega))
      simp only [puts, Act.put, List.setIfInBounds_toArray, Nat.reduceMul, Nat.reduceAdd, List.set_cons_succ, List.set_cons_zero, List.set_nil] at hk
      rw [if_pos (show Region.wanted _ _ = true from rfl)]
      refine wp_load_mid _ _ rfl y0 0 rfl (dcells (hv A)) _ (H0.out.ext HF.out.ext).whole Tryz.underlying28 rfl (by kernel_rfl) ?_
      exact hk
    · obtain rfl := Option.some.inj (HF.out.a 0 (by omega) (HD.out 0 (by decide)))
      unfold rV2
      go_simp
      refine (HOWD.out wq (HX2.out.trans HF.out.ext)).mono ?_
      rintro e wy ⟨us', rfl, hou, hxu⟩
      obtain ⟨A5, hA, hAe⟩ := hou.heads
      have hk := HK.out _ _ (HF.out.call (rO2_firm _ _ _) (i := 0) (by omega) HN.out (u := dv (hv A5)) hxu ⟨A5, rfl, hA.base HF.out.ext.size⟩)
      rw [← hAe] at hk
      simp only [puts, Act.put, List.setIfInBounds_toArray, Nat.reduceMul, Nat.reduceAdd, List.set_cons_succ, List.set_cons_zero, List.set_nil] at hk
      exact hk
    · have hk := HK.out _ _ (HF.out.load (i := 1) (by omega))
      simp only [puts, Act.put, List.setIfInBounds_toArray, Nat.reduceMul, Nat.reduceAdd, List.set_cons_succ, List.set_cons_zero, List.set_nil] at hk
      rw [if_pos (show Region.wanted _ _ = true from rfl)]
      refine wp_load_mid _ _ rfl y1 0 rfl (patL pav prv phv P) _ (H1.out.ext HF.out.ext).whole Tryz.underlying35 rfl (by kernel_rfl) ?_
      exact hk
    · obtain rfl := Option.some.inj (HF.out.a 1 (by omega) (HD.out 2 (by decide)))
      unfold rV2
      go_simp
      refine (HOWP.out wq (HX2.out.trans HF.out.ext)).mono ?_
      rintro e wy ⟨u, rfl, hou, hxu⟩
      have hk := HK.out _ _ (HF.out.call (rO2_firm _ _ _) (i := 1) (by omega) HN.out hxu (hou.base HF.out.ext.size))
      simp only [puts, Act.put, List.setIfInBounds_toArray, Nat.reduceMul, Nat.reduceAdd, List.set_cons_succ, List.set_cons_zero, List.set_nil] at hk
      exact hk
    · have hk := HK.out _ _ (HF.out.new (rO2_firm _ _ _) (i := 0) (by omega) HN.out)
      simp only [puts, Act.put, List.setIfInBounds_toArray, Nat.reduceMul, Nat.reduceAdd, List.set_cons_succ, List.set_cons_zero, List.set_nil] at hk
      go_simp
      exact hk
    · have hk := HK.out _ _ (HF.out.new (rO2_firm _ _ _) (i := 1) (by omega) HN.out)
      simp only [puts, Act.put, List.setIfInBounds_toArray, Nat.reduceMul, Nat.reduceAdd, List.set_cons_succ, List.set_cons_zero, List.set_nil] at hk
      go_simp
      exact hk
    · obtain ⟨A5, e5, h5⟩ := HF.out.val (i := 0) (by omega) (HD.out 1 (by decide)) rfl
      obtain ⟨g, eg, hg⟩ := HF.out.old (i := 0) (by omega) (HD.out 4 (by decide)) HN.out rfl
      subst e5
      subst eg
      have hk := HK.out _ _ (HF.out.store (rO2_firm _ _ _) (i := 0) (xs := dcells (hv A5)) (by omega) (HD.out 1 (by decide)) (HD.out 4 (by decide)) HN.out rfl rfl)
      simp only [puts, Act.put, List.setIfInBounds_toArray, Nat.reduceMul, Nat.reduceAdd, List.set_cons_succ, List.set_cons_zero, List.set_nil] at hk
      rw [if_pos (show Region.wanted _ _ = true from rfl)]
      refine wp_store_row _ _ _ rfl g (dcells (hv A5)).toArray rfl rfl _ _ hg (by kernel_rfl) rfl (all_oneCell_toArray (by simp [dcells, hv, Value.oneCell'])) ?_
      exact hk
    · obtain ⟨a1, c1, a2, c2, a3, c3, e5⟩ := PatOwn.shape (HF.out.val (i := 1) (by omega) (HD.out 3 (by decide)) rfl)
      obtain ⟨g, eg, hg⟩ := HF.out.old (i := 1) (by omega) (HD.out 5 (by decide)) HN.out rfl
      subst e5
      subst eg
      have hk := HK.out _ _ (HF.out.store (rO2_firm _ _ _) (i := 1) (xs := patL (.slice a1 (cutP P).atoms.length c1) (.slice a2 (cutP P).ret.length c2) (.slice a3 (cutP P).hint.length c3) (cutP P)) (by omega) (HD.out 3 (by decide)) (HD.out 5 (by decide)) HN.out rfl rfl)
      simp only [puts, Act.put, List.setIfInBounds_toArray, Nat.reduceMul, Nat.reduceAdd, List.set_cons_succ, List.set_cons_zero, List.set_nil] at hk
      rw [if_pos (show Region.wanted _ _ = true from rfl)]
      refine wp_store_row _ _ _ rfl g (patL (.slice a1 (cutP P).atoms.length c1) (.slice a2 (cutP P).ret.length c2) (.slice a3 (cutP P).hint.length c3) (cutP P)).toArray rfl rfl _ _ hg (by kernel_rfl) rfl (all_oneCell_toArray (by simp [patL, Value.oneCell'])) ?_
      exact hk
  rintro S us wq hS hF
  obtain ⟨u0, u1, u2, u3, u4, u5, rfl⟩ := six6 hF.len
  have hSa : ∀ k, k < 4 * 2 → S k = true := fun k hk => hS k (by simpa using hk)
  obtain ⟨⟨A5, e5, hdo⟩, y, cs, rfl, ecs, hy2, hry⟩ := hF.fin (i := 0) (by omega) hSa rfl rfl
  obtain ⟨hpo, q, cs2, rfl, ecs2, hq2, hrq⟩ := hF.fin (i := 1) (by omega) hSa rfl rfl
  obtain ⟨a1, c1, a2, c2, a3, c3, ep⟩ := PatOwn.shape hpo
  rw [e5] at ecs
  obtain rfl : dcells (hv A5) = cs := by have h := Value.agg.inj ecs; simpa using congrArg Array.toList h
  rw [ep] at ecs2
  obtain rfl : patL (.slice a1 (cutP P).atoms.length c1) (.slice a2 (cutP P).ret.length c2) (.slice a3 (cutP P).hint.length c3) (cutP P) = cs2 := by have h := Value.agg.inj ecs2; simpa using congrArg Array.toList h
  subst e5
  rw [ep] at hpo
  subst ep
  have HDQ := Lib.hid hdo
  have HPQ := Lib.hid (show PatOwn w2.heap.size wq (patV (.slice a1 (cutP P).atoms.length c1) (.slice a2 (cutP P).ret.length c2) (.slice a3 (cutP P).hint.length c3) (cutP P)) (cutP P) from hpo)
  have HBY := Lib.hid (show RowAt wq y 28 (dcells (hv A5)) from hry)
  have HBQ := Lib.hid (show RowAt wq q 35 (patL (.slice a1 (cutP P).atoms.length c1) (.slice a2 (cutP P).ret.length c2) (.slice a3 (cutP P).hint.length c3) (cutP P)) from hrq)
  have HXQ := Lib.hid (HX2.out.trans hF.ext)
  have HYQ := Lib.hid (show w2.heap.size ≤ y ∧ w2.heap.size ≤ q from ⟨hy2, hq2⟩)
  clear hdo hpo hry hrq hF hS hSa hy2 hq2 ecs ecs2 HOWD HOWP H0 H1
  simp only [puts, Act.put, List.setIfInBounds_toArray, List.set_cons_succ, List.set_cons_zero, List.set_nil]
  have HSE := Lib.hid (fun i (hi : i < 5) => (HDS.out i hi).2.1)
  generalize cutD D = E at *
  generalize cutP P = Q at *
  have HGN := Lib.hid (goalN A5 E Q _ _ _ wq HDQ.out.view HDS.out HPQ.out.at_ HPF.out)
  go_upto_region 4 with fail
  apply wp_region_lit
  -- a load of a whole row: y block, HBY.out fact RowAt, api.Dict the type's name
  refine plain_load rfl _ _ rfl y rfl _ _ (HBY.out) Tryz.underlying28 rfl (by kernel_rfl) ?_
  go_simp
  -- a load of a whole row: q block, HBQ.out fact RowAt, api.Pattern the type's name
  refine plain_load rfl _ _ rfl q rfl _ _ (HBQ.out) Tryz.underlying35 rfl (by kernel_rfl) ?_
  go_simp
  -- a call in a plain region: refine HGN.out.mono ?_; rintro e w3 ⟨G, n, c, q1, d1, q2, d2, q3, d3, q4, d4, rfl, hor, hgi, hx3⟩ the contract taken, and its results named
  refine wpList_plain rfl fun K1 hK1 => ?_
  go_simp
  refine HGN.out.mono ?_; rintro e w3 ⟨G, n, c, q1, d1, q2, d2, q3, d3, q4, d4, rfl, hor, hgi, hx3⟩
  go_simp
  refine hK1 _ _ ?_
  clear hK1 K1
  refine wpList_plain rfl fun K1 hK1 => ?_
  go_simp
  refine hK1 _ _ ?_
  clear hK1 K1
  refine wpList_plain rfl fun K1 hK1 => ?_
  go_simp
  refine hK1 _ _ ?_
  clear hK1 K1
  refine wpList_plain rfl fun K1 hK1 => ?_
  go_simp
  refine hK1 _ _ ?_
  clear hK1 K1
  refine wpList_plain rfl fun K1 hK1 => ?_
  go_simp
  refine hK1 _ _ ?_
  clear hK1 K1
  -- in a plain region: memory is made and written: w3 world before, #[.slice none 0 0, .slice none 0 0, .slice none 0 0, .bool false, .bool false, .bool false, .int .i64 0, .int .i64 0, .slice none 0 0] zero cells (a literal array), api.Goal type's name, g block's name, golC (.slice q1 G.vars.length d1) (.slice q2 G.atoms.length d2) (.slice q3 G.ret.length d3) (.slice q4 G.hint.length d4) G new cells (a list), (by simp [golC, Value.oneCell']) proof that each is one cell, w4 world behind. Facts: HEw4 (Ext), HRg (the row), HSg (where it is)
  refine wpList_plain rfl fun K1 hK1 => ?_
  go_simp
  refine hK1 _ _ ?_
  clear hK1 K1
  have hax := Ext.alloc w3 (.cells #[.slice none 0 0, .slice none 0 0, .slice none 0 0, .bool false, .bool false, .bool false, .int .i64 0, .int .i64 0, .slice none 0 0] 39)
  have har : RowAt (w3.alloc (.cells #[.slice none 0 0, .slice none 0 0, .slice none 0 0, .bool false, .bool false, .bool false, .int .i64 0, .int .i64 0, .slice none 0 0] 39)) w3.heap.size 39 (#[.slice none 0 0, .slice none 0 0, .slice none 0 0, .bool false, .bool false, .bool false, .int .i64 0, .int .i64 0, .slice none 0 0]).toList := RowAt.new _ _ _
  refine plain_store rfl _ _ _ rfl w3.heap.size (golC (.slice q1 G.vars.length d1) (.slice q2 G.atoms.length d2) (.slice q3 G.ret.length d3) (.slice q4 G.hint.length d4) G) rfl rfl har (by kernel_rfl) rfl ((by simp [golC, Value.oneCell'])) ?_
  have hex : Ext w3 ((w3.alloc (.cells #[.slice none 0 0, .slice none 0 0, .slice none 0 0, .bool false, .bool false, .bool false, .int .i64 0, .int .i64 0, .slice none 0 0] 39)).setRow w3.heap.size (golC (.slice q1 G.vars.length d1) (.slice q2 G.atoms.length d2) (.slice q3 G.ret.length d3) (.slice q4 G.hint.length d4) G).toArray) := below_setRow hax (Nat.le_refl _) _
  have HEw4 := Lib.hid hex
  have HRg := Lib.hid (har.setRow (golC (.slice q1 G.vars.length d1) (.slice q2 G.atoms.length d2) (.slice q3 G.ret.length d3) (.slice q4 G.hint.length d4) G))
  clear hax har hex
  go_simp
  generalize (w3.alloc (.cells #[.slice none 0 0, .slice none 0 0, .slice none 0 0, .bool false, .bool false, .bool false, .int .i64 0, .int .i64 0, .slice none 0 0] 39)).setRow w3.heap.size (golC (.slice q1 G.vars.length d1) (.slice q2 G.atoms.length d2) (.slice q3 G.ret.length d3) (.slice q4 G.hint.length d4) G).toArray = w4 at *
  obtain ⟨g, hsg⟩ : ∃ x, w3.heap.size = x := ⟨_, rfl⟩
  rw [hsg] at HRg
  simp only [hsg]
  have HSg := Lib.hid hsg
  clear hsg
  refine wpList_plain rfl fun K1 hK1 => ?_
  go_simp
  refine hK1 _ _ ?_
  clear hK1 K1
  refine wpList_plain rfl fun K1 hK1 => ?_
  go_simp
  refine hK1 _ _ ?_
  clear hK1 K1
  apply wpList_nil
  have hx4 := hx3.trans HEw4.out
  have HX4 := Lib.hid (HXQ.out.trans hx4)
  have HY4 := Lib.hid (HBY.out.ext hx4)
  have HQ4 := Lib.hid (HBQ.out.ext hx4)
  have HD4 := Lib.hid (HDQ.out.ext hx4)
  have HP4 := Lib.hid (HPQ.out.ext hx4)
  have HG4 := Lib.hid (hgi.at_.ext HEw4.out)
  have HR4 := Lib.hid (show RowAt w4 g 39 (golC (.slice q1 G.vars.length d1) (.slice q2 G.atoms.length d2) (.slice q3 G.ret.length d3) (.slice q4 G.hint.length d4) G) from HRg.out)
  have HOR := Lib.hid hor
  clear hx4 hgi hor hx3 HEw4 HSg HRg HGN HXQ HBY HBQ HDQ HPQ
  have hb40 : Q.atoms.length ≤ 100000 := HPF.out.few
  by_cases hc : c = 0
  · have hz := HOR.out.zero hc
    subst hc
    obtain ⟨hdok, hpok, hgf, rfl⟩ := hz
    have HDOK := Lib.hid hdok
    have HPOK := Lib.hid hpok
    have HGF := Lib.hid hgf
    have HFT := Lib.hid (golOf_fits hpok HPF.out hgf)
    clear hdok hpok hgf HOR
    have HBN := Lib.hid (backN A5 E G (golC (.slice q1 G.vars.length d1) (.slice q2 G.atoms.length d2) (.slice q3 G.ret.length d3) (.slice q4 G.hint.length d4) G) w4 HD4.out.view HDS.out HG4.out HFT.out.1)
    go_upto_region 7 with fail
    apply wp_region_lit
    -- a load of a whole row: y block, HY4.out fact RowAt, api.Dict the type's name
    refine plain_load rfl _ _ rfl y rfl _ _ (HY4.out) Tryz.underlying28 rfl (by kernel_rfl) ?_
    go_simp
    -- a load of a whole row: g block, HR4.out fact RowAt, api.Goal the type's name
    refine plain_load rfl _ _ rfl g rfl _ _ (HR4.out) Tryz.underlying39 rfl (by kernel_rfl) ?_
    go_simp
    -- a call in a plain region: refine HBN.out.mono ?_; rintro e w5 ⟨B, cb, q5, d5, q6, d6, q7, d7, rfl, hbr, hpo, hx5⟩ the contract taken, and its results named
    refine wpList_plain rfl fun K1 hK1 => ?_
    go_simp
    refine HBN.out.mono ?_; rintro e w5 ⟨B, cb, q5, d5, q6, d6, q7, d7, rfl, hbr, hpo, hx5⟩
    go_simp
    refine hK1 _ _ ?_
    clear hK1 K1
    obtain ⟨rfl, rfl⟩ := hbr.of HDOK.out (back_goal HPOK.out HGF.out)
    refine wpList_plain rfl fun K1 hK1 => ?_
    go_simp
    refine hK1 _ _ ?_
    clear hK1 K1
    refine wpList_plain rfl fun K1 hK1 => ?_
    go_simp
    refine hK1 _ _ ?_
    clear hK1 K1
    refine wpList_plain rfl fun K1 hK1 => ?_
    go_simp
    refine hK1 _ _ ?_
    clear hK1 K1
    -- in a plain region: memory is made and written: w5 world before, #[.slice none 0 0, .slice none 0 0, .bool false, .bool false, .bool false, .int .i64 0, .int .i64 0, .slice none 0 0] zero cells (a literal array), api.Pattern type's name, b block's name, patL (.slice q5 (backP Q).atoms.length d5) (.slice q6 (backP Q).ret.length d6) (.slice q7 (backP Q).hint.length d7) (backP Q) new cells (a list), (by simp [patL, Value.oneCell']) proof that each is one cell, w6 world behind. Facts: HEw6 (Ext), HRb (the row), HSb (where it is)
    refine wpList_plain rfl fun K1 hK1 => ?_
    go_simp
    refine hK1 _ _ ?_
    clear hK1 K1
    have hax := Ext.alloc w5 (.cells #[.slice none 0 0, .slice none 0 0, .bool false, .bool false, .bool false, .int .i64 0, .int .i64 0, .slice none 0 0] 35)
    have har : RowAt (w5.alloc (.cells #[.slice none 0 0, .slice none 0 0, .bool false, .bool false, .bool false, .int .i64 0, .int .i64 0, .slice none 0 0] 35)) w5.heap.size 35 (#[.slice none 0 0, .slice none 0 0, .bool false, .bool false, .bool false, .int .i64 0, .int .i64 0, .slice none 0 0]).toList := RowAt.new _ _ _
    refine plain_store rfl _ _ _ rfl w5.heap.size (patL (.slice q5 (backP Q).atoms.length d5) (.slice q6 (backP Q).ret.length d6) (.slice q7 (backP Q).hint.length d7) (backP Q)) rfl rfl har (by kernel_rfl) rfl ((by simp [patL, Value.oneCell'])) ?_
    have hex : Ext w5 ((w5.alloc (.cells #[.slice none 0 0, .slice none 0 0, .bool false, .bool false, .bool false, .int .i64 0, .int .i64 0, .slice none 0 0] 35)).setRow w5.heap.size (patL (.slice q5 (backP Q).atoms.length d5) (.slice q6 (backP Q).ret.length d6) (.slice q7 (backP Q).hint.length d7) (backP Q)).toArray) := below_setRow hax (Nat.le_refl _) _
    have HEw6 := Lib.hid hex
    have HRb := Lib.hid (har.setRow (patL (.slice q5 (backP Q).atoms.length d5) (.slice q6 (backP Q).ret.length d6) (.slice q7 (backP Q).hint.length d7) (backP Q)))
    clear hax har hex
    go_simp
    generalize (w5.alloc (.cells #[.slice none 0 0, .slice none 0 0, .bool false, .bool false, .bool false, .int .i64 0, .int .i64 0, .slice none 0 0] 35)).setRow w5.heap.size (patL (.slice q5 (backP Q).atoms.length d5) (.slice q6 (backP Q).ret.length d6) (.slice q7 (backP Q).hint.length d7) (backP Q)).toArray = w6 at *
    obtain ⟨b, hsb⟩ : ∃ x, w5.heap.size = x := ⟨_, rfl⟩
    rw [hsb] at HRb
    simp only [hsb]
    have HSb := Lib.hid hsb
    clear hsb
    refine wpList_plain rfl fun K1 hK1 => ?_
    go_simp
    refine hK1 _ _ ?_
    clear hK1 K1
    apply wpList_nil
    have hx6 := hx5.trans HEw6.out
    have HX6 := Lib.hid (HX4.out.trans hx6)
    have HY6 := Lib.hid (HY4.out.ext hx6)
    have HQ6 := Lib.hid (HQ4.out.ext hx6)
    have HD6 := Lib.hid (HD4.out.ext hx6)
    have HP6 := Lib.hid (HP4.out.ext hx6)
    have HG6 := Lib.hid (HG4.out.ext hx6)
    have HR6 := Lib.hid (HR4.out.ext hx6)
    have HB6 := Lib.hid ((hpo.ext HEw6.out).base (Nat.le_trans HYQ.out.1 (Nat.le_of_lt HY4.out.lt)))
    have HRB6 := Lib.hid (show RowAt w6 b 35 (patL (.slice q5 (backP Q).atoms.length d5) (.slice q6 (backP Q).ret.length d6) (.slice q7 (backP Q).hint.length d7) (backP Q)) from HRb.out)
    have HBNE := Lib.hid (show q ≠ b from fun e => by have h1 := HQ4.out.lt; have h2 := hx5.size; have h3 := HSb.out; omega)
    clear hx6 hpo hbr hx5 HEw6 HSb HRb HBN HX4 HY4 HQ4 HD4 HP4 HG4 HR4
    have HGN := Lib.hid (goalN A5 E (backP Q) _ _ _ w6 HD6.out.view HDS.out HB6.out.at_ (backP_fits HPF.out))
    go_upto_region 8 with fail
    apply wp_region_lit
    -- a load of a whole row: y block, HY6.out fact RowAt, api.Dict the type's name
    refine plain_load rfl _ _ rfl y rfl _ _ (HY6.out) Tryz.underlying28 rfl (by kernel_rfl) ?_
    go_simp
    -- a load of a whole row: b block, HRB6.out fact RowAt, api.Pattern the type's name
    refine plain_load rfl _ _ rfl b rfl _ _ (HRB6.out) Tryz.underlying35 rfl (by kernel_rfl) ?_
    go_simp
    -- a call in a plain region: refine HGN.out.mono ?_; rintro e w7 ⟨G', n', c', r1, e1, r2, e2, r3, e3, r4, e4, rfl, hor', hgi', hx7⟩ the contract taken, and its results named
    refine wpList_plain rfl fun K1 hK1 => ?_
    go_simp
    refine HGN.out.mono ?_; rintro e w7 ⟨G', n', c', r1, e1, r2, e2, r3, e3, r4, e4, rfl, hor', hgi', hx7⟩
    go_simp
    refine hK1 _ _ ?_
    clear hK1 K1
    obtain ⟨hGe, hn', rfl⟩ := hor'.of HDOK.out (backP_ok HPOK.out) (goalF_backP HGF.out)
    rw [show (backP Q).atoms.length = Q.atoms.length from rfl] at hn'
    subst hn'
    obtain rfl : G = G' := hGe.symm
    refine wpList_plain rfl fun K1 hK1 => ?_
    go_simp
    refine hK1 _ _ ?_
    clear hK1 K1
    refine wpList_plain rfl fun K1 hK1 => ?_
    go_simp
    refine hK1 _ _ ?_
    clear hK1 K1
    refine wpList_plain rfl fun K1 hK1 => ?_
    go_simp
    refine hK1 _ _ ?_
    clear hK1 K1
    refine wpList_plain rfl fun K1 hK1 => ?_
    go_simp
    refine hK1 _ _ ?_
    clear hK1 K1
    -- in a plain region: memory is made and written: w7 world before, #[.slice none 0 0, .slice none 0 0, .slice none 0 0, .bool false, .bool false, .bool false, .int .i64 0, .int .i64 0, .slice none 0 0] zero cells (a literal array), api.Goal type's name, h block's name, golC (.slice r1 G.vars.length e1) (.slice r2 G.atoms.length e2) (.slice r3 G.ret.length e3) (.slice r4 G.hint.length e4) G new cells (a list), (by simp [golC, Value.oneCell']) proof that each is one cell, w8 world behind. Facts: HEw8 (Ext), HRh (the row), HSh (where it is)
    refine wpList_plain rfl fun K1 hK1 => ?_
    go_simp
    refine hK1 _ _ ?_
    clear hK1 K1
    have hax := Ext.alloc w7 (.cells #[.slice none 0 0, .slice none 0 0, .slice none 0 0, .bool false, .bool false, .bool false, .int .i64 0, .int .i64 0, .slice none 0 0] 39)
    have har : RowAt (w7.alloc (.cells #[.slice none 0 0, .slice none 0 0, .slice none 0 0, .bool false, .bool false, .bool false, .int .i64 0, .int .i64 0, .slice none 0 0] 39)) w7.heap.size 39 (#[.slice none 0 0, .slice none 0 0, .slice none 0 0, .bool false, .bool false, .bool false, .int .i64 0, .int .i64 0, .slice none 0 0]).toList := RowAt.new _ _ _
    refine plain_store rfl _ _ _ rfl w7.heap.size (golC (.slice r1 G.vars.length e1) (.slice r2 G.atoms.length e2) (.slice r3 G.ret.length e3) (.slice r4 G.hint.length e4) G) rfl rfl har (by kernel_rfl) rfl ((by simp [golC, Value.oneCell'])) ?_
    have hex : Ext w7 ((w7.alloc (.cells #[.slice none 0 0, .slice none 0 0, .slice none 0 0, .bool false, .bool false, .bool false, .int .i64 0, .int .i64 0, .slice none 0 0] 39)).setRow w7.heap.size (golC (.slice r1 G.vars.length e1) (.slice r2 G.atoms.length e2) (.slice r3 G.ret.length e3) (.slice r4 G.hint.length e4) G).toArray) := below_setRow hax (Nat.le_refl _) _
    have HEw8 := Lib.hid hex
    have HRh := Lib.hid (har.setRow (golC (.slice r1 G.vars.length e1) (.slice r2 G.atoms.length e2) (.slice r3 G.ret.length e3) (.slice r4 G.hint.length e4) G))
    clear hax har hex
    go_simp
    generalize (w7.alloc (.cells #[.slice none 0 0, .slice none 0 0, .slice none 0 0, .bool false, .bool false, .bool false, .int .i64 0, .int .i64 0, .slice none 0 0] 39)).setRow w7.heap.size (golC (.slice r1 G.vars.length e1) (.slice r2 G.atoms.length e2) (.slice r3 G.ret.length e3) (.slice r4 G.hint.length e4) G).toArray = w8 at *
    obtain ⟨h, hsh⟩ : ∃ x, w7.heap.size = x := ⟨_, rfl⟩
    rw [hsh] at HRh
    simp only [hsh]
    have HSh := Lib.hid hsh
    clear hsh
    refine wpList_plain rfl fun K1 hK1 => ?_
    go_simp
    refine hK1 _ _ ?_
    clear hK1 K1
    refine wpList_plain rfl fun K1 hK1 => ?_
    go_simp
    refine hK1 _ _ ?_
    clear hK1 K1
    apply wpList_nil
    have hx8 := hx7.trans HEw8.out
    have HX8 := Lib.hid (HX6.out.trans hx8)
    have HY8 := Lib.hid (HY6.out.ext hx8)
    have HQ8 := Lib.hid (HQ6.out.ext hx8)
    have HD8 := Lib.hid (HD6.out.ext hx8)
    have HP8 := Lib.hid (HP6.out.ext hx8)
    have HG8 := Lib.hid (HG6.out.ext hx8)
    have HR8 := Lib.hid (HR6.out.ext hx8)
    have HB8 := Lib.hid (HB6.out.ext hx8)
    have HRB8 := Lib.hid (HRB6.out.ext hx8)
    have HH8 := Lib.hid (hgi'.at_.ext HEw8.out)
    have HRH8 := Lib.hid (show RowAt w8 h 39 (golC (.slice r1 G.vars.length e1) (.slice r2 G.atoms.length e2) (.slice r3 G.ret.length e3) (.slice r4 G.hint.length e4) G) from HRh.out)
    clear hx8 hx7 hgi' hor' HEw8 HSh HRh HGN HX6 HY6 HQ6 HD6 HP6 HG6 HR6 HB6 HRB6
    go_upto_region 9 with fail
    refine wp_region_grox [] groT9 [0, 1, 2, 3, 4, 5, 6, 7, 8, 9, 10, 11, 12, 13, 14, 15, 16, 17, 18, 19, 20, 21, 22, 23, 24, 25, 26, 27, 28, 29, 30, 31, 32, 33, 34, 35, 36, 37] hmo (by kernel_rfl) rfl (by kernel_rfl) (fun _ _ _ _ _ h => h) ?_
    have hxd : Ext w8 w8.drew := Ext.drewN w8 1
    have HX9 := Lib.hid (HX8.out.trans hxd)
    have HY9 := Lib.hid (HY8.out.ext hxd)
    have HQ9 := Lib.hid (HQ8.out.ext hxd)
    have HD9 := Lib.hid (HD8.out.ext hxd)
    have HP9 := Lib.hid (HP8.out.ext hxd)
    have HG9 := Lib.hid (HG8.out.ext hxd)
    have HR9 := Lib.hid (HR8.out.ext hxd)
    have HB9 := Lib.hid (HB8.out.ext hxd)
    have HRB9 := Lib.hid (HRB8.out.ext hxd)
    have HH9 := Lib.hid (HH8.out.ext hxd)
    have HRH9 := Lib.hid (HRH8.out.ext hxd)
    clear hxd HX8 HY8 HQ8 HD8 HP8 HG8 HR8 HB8 HRB8 HH8 HRH8
    generalize w8.drew = w9 at *
    have hsm := sameG_any _ _ G G w9 HH9.out HG9.out (by have := HFT.out; omega) (by have := HFT.out; omega)
    rw [decide_eq_true rfl] at hsm
    unfold golV at hsm
    have HSM := Lib.hid hsm
    have HCK := Lib.hid (fun w' (hx : Ext w9 w') => checkN A5 E G (golC (.slice q1 G.vars.length d1) (.slice q2 G.atoms.length d2) (.slice q3 G.ret.length d3) (.slice q4 G.hint.length d4) G) w' (HD9.out.view.ext hx) HDS.out (HG9.out.ext hx) HFT.out.1)
    clear hsm
    have f0 := HQ9.out.cell (i := 0) rfl
    repeat (first
      | (refine groX_pure rfl rfl ?_; intro K hK; go_simp; refine hK _ ?_; clear hK K)
      | (refine groX_read rfl rfl ?_; intro K S hS hK; go_simp; refine hK _ ?_; clear hK K hS S)
      | (refine groX_read rfl rfl ?_; intro K S hS hK; go_simp; refine ⟨hS _ ?_, hK _ ?_⟩; (clear hK K hS S; intro w' hx'; have hce := grows_some hx'; go_simp); clear hK K hS S))
    -- in a drawn region (GroX): a load of a whole row that is wanted: h block, HRH9.out fact RowAt, api.Goal the type's name
    refine groX_loadW rfl rfl (by first | rfl | decide | kernel_rfl) _ _ rfl h 0 rfl _ _ (HRH9.out).whole (by simp) Tryz.underlying39 rfl (by kernel_rfl) ?_
    -- in a drawn region (GroX): a load of a whole row that is wanted: g block, HR9.out fact RowAt, api.Goal the type's name
    refine groX_loadW rfl rfl (by first | rfl | decide | kernel_rfl) _ _ rfl g 0 rfl _ _ (HR9.out).whole (by simp) Tryz.underlying39 rfl (by kernel_rfl) ?_
    -- in a drawn region (GroX): a call: refine HSM.out.mono ?_; rintro e w10 ⟨rfl, hx10⟩ the contract taken and its results named, hx10 Ext over it
    refine groX_grow rfl rfl ?_
    intro K hK
    go_simp
    refine HSM.out.mono ?_; rintro e w10 ⟨rfl, hx10⟩
    go_simp
    refine hK _ _ ⟨Grows.ext hx10, ?_⟩
    clear hK K
    repeat (first
      | (refine groX_pure rfl rfl ?_; intro K hK; go_simp; refine hK _ ?_; clear hK K)
      | (refine groX_read rfl rfl ?_; intro K S hS hK; go_simp; refine hK _ ?_; clear hK K hS S)
      | (refine groX_read rfl rfl ?_; intro K S hS hK; go_simp; refine ⟨hS _ ?_, hK _ ?_⟩; (clear hK K hS S; intro w' hx'; have hce := grows_some hx'; go_simp); clear hK K hS S))
    -- in a drawn region (GroX): a load of a whole row that is wanted: y block, HY9.out.ext hx10 fact RowAt, api.Dict the type's name
    refine groX_loadW rfl rfl (by first | rfl | decide | kernel_rfl) _ _ rfl y 0 rfl _ _ (HY9.out.ext hx10).whole (by simp) Tryz.underlying28 rfl (by kernel_rfl) ?_
    -- in a drawn region (GroX): a load of a whole row that is wanted: g block, HR9.out.ext hx10 fact RowAt, api.Goal the type's name
    refine groX_loadW rfl rfl (by first | rfl | decide | kernel_rfl) _ _ rfl g 0 rfl _ _ (HR9.out.ext hx10).whole (by simp) Tryz.underlying39 rfl (by kernel_rfl) ?_
    -- in a drawn region (GroX): a call: refine (HCK.out w10 hx10).mono ?_; rintro e w11 ⟨P9, c9, rfl, hb9, hx11⟩ the contract taken and its results named, hx11 Ext over it
    refine groX_grow rfl rfl ?_
    intro K hK
    go_simp
    refine (HCK.out w10 hx10).mono ?_; rintro e w11 ⟨P9, c9, rfl, hb9, hx11⟩
    go_simp
    refine hK _ _ ⟨Grows.ext hx11, ?_⟩
    clear hK K
    obtain ⟨_, rfl⟩ := hb9.of HDOK.out (back_goal HPOK.out HGF.out)
    have hx12 := hx10.trans hx11
    have HX11 := Lib.hid (HX9.out.trans hx12)
    have HQ11 := Lib.hid (HQ9.out.ext hx12)
    have HP11 := Lib.hid (HP9.out.ext hx12)
    have HG11 := Lib.hid (HG9.out.ext hx12)
    have HR11 := Lib.hid (HR9.out.ext hx12)
    have HB11 := Lib.hid (HB9.out.ext hx12)
    have HRB11 := Lib.hid (HRB9.out.ext hx12)
    clear hx12 hx10 hx11 HX9 HQ9 HP9 HG9 HR9 HB9 HRB9 HY9 HD9 HH9 HRH9 HCK HSM f0 hb9
    have f0 := HR11.out.cell (i := 0) rfl
    repeat (first
      | (refine groX_pure rfl rfl ?_; intro K hK; go_simp; refine hK _ ?_; clear hK K)
      | (refine groX_read rfl rfl ?_; intro K S hS hK; go_simp; refine hK _ ?_; clear hK K hS S)
      | (refine groX_read rfl rfl ?_; intro K S hS hK; go_simp; refine ⟨hS _ ?_, hK _ ?_⟩; (clear hK K hS S; intro w' hx'; have hce := grows_some hx'; go_simp); clear hK K hS S))
    -- in a drawn region (GroX): a load of a whole row that is wanted: q block, HQ11.out fact RowAt, api.Pattern the type's name
    refine groX_loadW rfl rfl (by first | rfl | decide | kernel_rfl) _ _ rfl q 0 rfl _ _ (HQ11.out).whole (by simp) Tryz.underlying35 rfl (by kernel_rfl) ?_
    have HVV := Lib.hid (varsP_any _ Q w11 HP11.out.at_ HPF.out)
    unfold patV at HVV
    -- in a drawn region (GroX): a call: refine HVV.out.mono ?_; rintro e w12 ⟨vv, rfl, hvv, hx12⟩ the contract taken and its results named, hx12 Ext over it
    refine groX_grow rfl rfl ?_
    intro K hK
    go_simp
    refine HVV.out.mono ?_; rintro e w12 ⟨vv, rfl, hvv, hx12⟩
    go_simp
    refine hK _ _ ⟨Grows.ext hx12, ?_⟩
    clear hK K
    have hsv : Strs w12 vv (varsE Q) := Sl.of_own hvv
    obtain ⟨gv1, ga1, gr1, gh1, eg, gV, gA, gR, gH⟩ := HG11.out
    unfold golV golC at eg
    simp only [Value.agg.injEq, Array.mk.injEq, List.cons.injEq] at eg
    obtain ⟨rfl, rfl, rfl, _, _, _, _, _, rfl, _⟩ := eg
    have heq := eqStrs_any _ vv G.vars (varsE Q) w12 (Strs.ext gV hx12) hsv
    rw [decide_eq_true (goalF_vars HPOK.out HGF.out)] at heq
    have HEQ := Lib.hid heq
    clear heq hsv hvv gV gA gR gH f0 HVV
    -- in a drawn region (GroX): a call: refine HEQ.out.mono ?_; rintro e w13 ⟨rfl, hx13⟩ the contract taken and its results named, hx13 Ext over it
    refine groX_grow rfl rfl ?_
    intro K hK
    go_simp
    refine HEQ.out.mono ?_; rintro e w13 ⟨rfl, hx13⟩
    go_simp
    refine hK _ _ ⟨Grows.ext hx13, ?_⟩
    clear hK K
    have hx14 := hx12.trans hx13
    have HX13 := Lib.hid (HX11.out.trans hx14)
    have HQ13 := Lib.hid (HQ11.out.ext hx14)
    have HP13 := Lib.hid (HP11.out.ext hx14)
    have HR13 := Lib.hid (HR11.out.ext hx14)
    have HB13 := Lib.hid (HB11.out.ext hx14)
    have HRB13 := Lib.hid (HRB11.out.ext hx14)
    clear hx12 hx13 hx14 HX11 HQ11 HP11 HG11 HR11 HB11 HRB11 HEQ
    repeat (first
      | (refine groX_pure rfl rfl ?_; intro K hK; go_simp; refine hK _ ?_; clear hK K)
      | (refine groX_read rfl rfl ?_; intro K S hS hK; go_simp; refine hK _ ?_; clear hK K hS S)
      | (refine groX_read rfl rfl ?_; intro K S hS hK; go_simp; refine ⟨hS _ ?_, hK _ ?_⟩; (clear hK K hS S; intro w' hx'; have hce := grows_some hx'; go_simp); clear hK K hS S))
    refine groX_nil ?_
    have g1 := HQ13.out.cell (i := 1) rfl
    have g2 := HRB13.out.cell (i := 1) rfl
    by_cases h1 : Q.ret.length = 0
    · have b1 : ((Q.ret.length : Int) == 0) = true := by simp; exact List.eq_nil_of_length_eq_zero h1
      have hs : sameB (backP Q) Q = true := (sameB_iff _ _).2 (backP_same (.inl h1))
      clear h1
      have hsm := sameP_any _ _ (backP Q) Q w13 HB13.out.at_ HP13.out.at_ (by show Q.atoms.length ≤ _; omega) (by omega)
      rw [hs] at hsm
      unfold patV at hsm
      have HSM := Lib.hid hsm
      clear hsm hs
      go_upto_region 12 with fail
      apply wp_region_lit
      -- a load of a whole row: b block, HRB13.out fact RowAt, api.Pattern the type's name
      refine plain_load rfl _ _ rfl b rfl _ _ (HRB13.out) Tryz.underlying35 rfl (by kernel_rfl) ?_
      go_simp
      -- a load of a whole row: q block, HQ13.out fact RowAt, api.Pattern the type's name
      refine plain_load rfl _ _ rfl q rfl _ _ (HQ13.out) Tryz.underlying35 rfl (by kernel_rfl) ?_
      go_simp
      -- a call in a plain region: refine HSM.out.mono ?_; rintro e w14 ⟨rfl, hx14⟩ the contract taken, and its results named
      refine wpList_plain rfl fun K1 hK1 => ?_
      go_simp
      refine HSM.out.mono ?_; rintro e w14 ⟨rfl, hx14⟩
      go_simp
      refine hK1 _ _ ?_
      clear hK1 K1
      refine wpList_plain rfl fun K1 hK1 => ?_
      go_simp
      refine hK1 _ _ ?_
      clear hK1 K1
      apply wpList_nil
      go_wp2_with fail
      go_ret
      exact ⟨rfl, HX13.out.trans hx14⟩
    · have b1 : ((Q.ret.length : Int) == 0) = false := by simp; exact fun h => h1 (by rw [h]; rfl)
      by_cases h2 : (backP Q).ret.length = 0
      · have b2 : (0 < (backP Q).ret.length) = False := by simp only [eq_iff_iff, iff_false]; omega
        obtain ⟨e1, e2⟩ := backP_nil h1 h2
        have hs : sameB (backP Q) (retNil Q) = true := (sameB_iff _ _).2 e1
        have hl : ((G.ret.length : Int) == (G.vars.length : Int)) = true := by rw [goalF_ret HGF.out e2]; simp
        have HS := Lib.hid hs
        have HL := Lib.hid hl
        clear h1 h2 e1 e2 hs hl
        have gf := HQ13.out.frozen 1
        go_upto_region 14 with fail
        have hgs := grown_set w13 q 1 (.slice none 0 0)
        have HQ14 := Lib.hid (show RowAt (w13.setCell ⟨q, 1, none⟩ (.slice none 0 0)) q 35 (patL (.slice a1 Q.atoms.length c1) (.slice none 0 0) (.slice a3 Q.hint.length c3) (retNil Q)) from HQ13.out.set 1 _)
        have HB14 := Lib.hid (HB13.out.turn HQ13.out (by decide) (by decide) hgs)
        have HRB14 := Lib.hid (HRB13.out.kept hgs (fun e => HBNE.out (by have := Option.some.inj e; first | exact this | exact this.symm)))
        have HR14 := Lib.hid (HR13.out.kept hgs (fun e => row_ne HQ13.out HR13.out (by decide) (by have := Option.some.inj e; first | exact this | exact this.symm)))
        have HX14 := Lib.hid (show Ext w (w13.setCell ⟨q, 1, none⟩ (.slice none 0 0)) from Ext.set_of HX13.out (Nat.le_trans HX2.out.size HYQ.out.2) _)
        have hp14 : PatAt (w13.setCell ⟨q, 1, none⟩ (.slice none 0 0)) (patV (.slice a1 Q.atoms.length c1) (.slice none 0 0) (.slice a3 Q.hint.length c3) (retNil Q)) (retNil Q) := by
          obtain ⟨av, rv, hv1, e, p1, p2, p3⟩ := HP13.out
          unfold patV patL at e
          simp only [Value.agg.injEq, Array.mk.injEq, List.cons.injEq] at e
          obtain ⟨rfl, rfl, _, _, _, _, _, rfl, _⟩ := e
          exact ⟨_, _, _, rfl, Sl.of_own (own_turn p1 HQ13.out (by decide) hgs), Sl.of_own (World.ownsRow_nil _ w.heap.size 9 1), Sl.of_own (own_turn p3 HQ13.out (by decide) hgs)⟩
        have HP14 := Lib.hid hp14
        clear hgs hp14 HQ13 HB13 HRB13 HR13 HX13 HP13 g1 g2 gf
        generalize w13.setCell ⟨q, 1, none⟩ (.slice none 0 0) = w14 at *
        have hsm := sameP_any _ _ (backP Q) (retNil Q) w14 HB14.out.at_ HP14.out (by show Q.atoms.length ≤ _; omega) (by show Q.atoms.length ≤ _; omega)
        rw [HS.out] at hsm
        unfold patV at hsm
        have HSM := Lib.hid hsm
        clear hsm
        apply wp_region_lit
        -- a load of a whole row: b block, HRB14.out fact RowAt, api.Pattern the type's name
        refine plain_load rfl _ _ rfl b rfl _ _ (HRB14.out) Tryz.underlying35 rfl (by kernel_rfl) ?_
        go_simp
        -- a load of a whole row: q block, HQ14.out fact RowAt, api.Pattern the type's name
        refine plain_load rfl _ _ rfl q rfl _ _ (HQ14.out) Tryz.underlying35 rfl (by kernel_rfl) ?_
        go_simp
        -- a call in a plain region: refine HSM.out.mono ?_; rintro e w15 ⟨rfl, hx15⟩ the contract taken, and its results named
        refine wpList_plain rfl fun K1 hK1 => ?_
        go_simp
        refine HSM.out.mono ?_; rintro e w15 ⟨rfl, hx15⟩
        go_simp
        refine hK1 _ _ ?_
        clear hK1 K1
        have k2 := (HR14.out.ext hx15).cell (i := 2) rfl
        have k0 := (HR14.out.ext hx15).cell (i := 0) rfl
        have hl := HL.out
        refine wpList_plain rfl fun K1 hK1 => ?_
        go_simp
        refine hK1 _ _ ?_
        clear hK1 K1
        -- a guarded operation whose guard holds
        refine wpList_yes (by first | rfl | decide | kernel_rfl) fun K1 hK1 => ?_
        go_simp
        refine hK1 _ _ ?_
        clear hK1 K1
        -- a guarded operation whose guard holds
        refine wpList_yes (by first | rfl | decide | kernel_rfl) fun K1 hK1 => ?_
        go_simp
        refine hK1 _ _ ?_
        clear hK1 K1
        -- a guarded operation whose guard holds
        refine wpList_yes (by first | rfl | decide | kernel_rfl) fun K1 hK1 => ?_
        go_simp
        refine hK1 _ _ ?_
        clear hK1 K1
        -- a guarded operation whose guard holds
        refine wpList_yes (by first | rfl | decide | kernel_rfl) fun K1 hK1 => ?_
        go_simp
        refine hK1 _ _ ?_
        clear hK1 K1
        -- a guarded operation whose guard holds
        refine wpList_yes (by first | rfl | decide | kernel_rfl) fun K1 hK1 => ?_
        go_simp
        refine hK1 _ _ ?_
        clear hK1 K1
        -- a guarded operation whose guard holds
        refine wpList_yes (by first | rfl | decide | kernel_rfl) fun K1 hK1 => ?_
        go_simp
        refine hK1 _ _ ?_
        clear hK1 K1
        -- a guarded operation whose guard holds
        refine wpList_yes (by first | rfl | decide | kernel_rfl) fun K1 hK1 => ?_
        go_simp
        refine hK1 _ _ ?_
        clear hK1 K1
        refine wpList_plain rfl fun K1 hK1 => ?_
        go_simp
        refine hK1 _ _ ?_
        clear hK1 K1
        refine wpList_plain rfl fun K1 hK1 => ?_
        go_simp
        refine hK1 _ _ ?_
        clear hK1 K1
        apply wpList_nil
        go_wp2_with fail
        go_ret
        exact ⟨rfl, HX14.out.trans hx15⟩
      · have b2 : (0 < (backP Q).ret.length) = True := by simp only [eq_iff_iff, iff_true]; omega
        have hs : sameB (backP Q) Q = true := (sameB_iff _ _).2 (backP_same (.inr (by omega)))
        clear h1 h2
        have hsm := sameP_any _ _ (backP Q) Q w13 HB13.out.at_ HP13.out.at_ (by show Q.atoms.length ≤ _; omega) (by omega)
        rw [hs] at hsm
        unfold patV at hsm
        have HSM := Lib.hid hsm
        clear hsm hs
        go_upto_region 12 with fail
        apply wp_region_lit
        -- a load of a whole row: b block, HRB13.out fact RowAt, api.Pattern the type's name
        refine plain_load rfl _ _ rfl b rfl _ _ (HRB13.out) Tryz.underlying35 rfl (by kernel_rfl) ?_
        go_simp
        -- a load of a whole row: q block, HQ13.out fact RowAt, api.Pattern the type's name
        refine plain_load rfl _ _ rfl q rfl _ _ (HQ13.out) Tryz.underlying35 rfl (by kernel_rfl) ?_
        go_simp
        -- a call in a plain region: refine HSM.out.mono ?_; rintro e w14 ⟨rfl, hx14⟩ the contract taken, and its results named
        refine wpList_plain rfl fun K1 hK1 => ?_
        go_simp
        refine HSM.out.mono ?_; rintro e w14 ⟨rfl, hx14⟩
        go_simp
        refine hK1 _ _ ?_
        clear hK1 K1
        refine wpList_plain rfl fun K1 hK1 => ?_
        go_simp
        refine hK1 _ _ ?_
        clear hK1 K1
        apply wpList_nil
        go_wp2_with fail
        go_ret
        exact ⟨rfl, HX13.out.trans hx14⟩
  · have b0 : (c != 0) = true := by simpa using hc
    obtain ⟨k1, k2, k3⟩ := HOR.out.bad hc
    have b1 : ((G.atoms.length : Int) == 0) = true := by rw [k1]; rfl
    have b4 : (n ≤ (Q.atoms.length : Int)) = True := by simp only [eq_iff_iff, iff_true]; exact k3
    have f1 := HR4.out.cell (i := 1) rfl
    have f2 := HQ4.out.cell (i := 0) rfl
    by_cases h2 : c = 280
    · have b2 : (c == 280) = true := by simpa using h2
      have b3 : (n > 0) = True := by simp only [gt_iff_lt, eq_iff_iff, iff_true]; exact k2.1 h2
      clear k1 k2 k3 h2 hc
      go_wp2_with fail
      go_ret
      exact ⟨rfl, HX4.out⟩
    · have b2 : (c == 280) = false := by simpa using h2
      have b3 : (n > 0) = False := by simp only [gt_iff_lt, eq_iff_iff, iff_false]; exact fun h => h2 (k2.2 h)
      clear k1 k2 k3 h2 hc
      go_wp2_with fail
      go_ret
      exact ⟨rfl, HX4.out⟩
end Go.Proofs.YtkmbnghghbfkdaaGreat
