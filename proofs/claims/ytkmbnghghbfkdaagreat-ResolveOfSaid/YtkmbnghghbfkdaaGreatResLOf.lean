/- The law ResolveOf returns true. -/
import Derived.Test.YtkmbnghghbfkdaaGreatGp47
import Derived.Test.YtkmbnghghbfkdaaGreatOpenPats
import Derived.Test.YtkmbnghghbfkdaaGreatGp23
import Derived.Test.YtkmbnghghbfkdaaGreatGp24
import Derived.Laws.OwnMore
import Derived.Deep.AppendLies
set_option linter.unusedSimpArgs false
set_option linter.unusedVariables false
set_option maxHeartbeats 2000000
set_option maxRecDepth 100000

namespace Go.Proofs.YtkmbnghghbfkdaaGreat
open Go.RowKit Go.Shelf Go.Sort
attribute [local go_sem] Oper.semAt_some wide_fn wide_depth
def groR28 : Nat → Gro
 | 0 => .read
 | 1 => .read
 | 2 => .grow
 | 3 => .grow
 | _ => .pure
theorem golz_no : ∀ x ∈ ([.slice none 0 0, .slice none 0 0, .slice none 0 0, .bool false, .bool false, .bool false, .int .i64 0, .int .i64 0, .slice none 0 0] : List Value), ∀ s, x ≠ .string s := fun x hx s => by rintro rfl; simp at hx
theorem GolIn.varsO {B : Nat} {w : World} {a b c d : Value} {G : Gol} (h : GolIn B w (golV a b c d G) G) : w.ownsRow B 9 1 a G.vars.length (G.vars.map Value.string) := by
 obtain ⟨vv, av, rv, hv, e, h1, _⟩ := h
 unfold golV golC at e
 simp only [Value.agg.injEq, Array.mk.injEq, List.cons.injEq] at e
 obtain ⟨rfl, _⟩ := e
 exact h1
def WantG (w9 wx : World) (m : Nat) (G : Gol) : Prop := ∃ ms, Ext w9 wx ∧ RowAt wx m 39 ms ∧ ms.length = 9 ∧ GolAt wx (.agg ms.toArray) G
theorem OfR.not_dict {D : Dic} {P : Pat} {G : Gol} {n c : Int} (h : OfR D P G n c) (hd : ¬ DicOK D) : G = zGol ∧ n = 0 ∧ c = 160 := by
 cases h with
 | dict h => exact ⟨rfl, rfl, rfl⟩
 | pat h _ => exact absurd h hd
 | unk h _ _ => exact absurd h hd
 | ok h _ _ => exact absurd h hd
theorem OfR.not_pat {D : Dic} {P : Pat} {G : Gol} {n c : Int} (h : OfR D P G n c) (hd : DicOK D) (hp : P.okB = false) : G = zGol ∧ n = 0 ∧ c = 261 := by
 cases h with
 | dict h => exact absurd hd h
 | pat h _ => exact ⟨rfl, rfl, rfl⟩
 | unk h h' _ => rw [hp] at h'; cases h'
 | ok h h' _ => rw [hp] at h'; cases h'
theorem OfR.same {D : Dic} {P : Pat} {G G' : Gol} {n c n' : Int} {b : Bool} (h : OfR D P G n c) (h' : OfT D P G' n' b) (hd : DicOK D) (hp : P.okB = true) : G' = G ∧ n' = n ∧ c = (if b = true then 0 else 280) := by
 rcases h' with ⟨rfl, h1, h2⟩ | ⟨rfl, h1, h2, h3⟩
 ·obtain ⟨a, b, c⟩ := h.of hd hp h1
  exact ⟨a.symm, by rw [h2, b], c⟩
 ·cases h with
  | dict h => exact absurd hd h
  | pat h h' => rw [hp] at h'; cases h'
  | unk h h' hg => exact ⟨h2, h3, rfl⟩
  | ok h h' hg => unfold goalF at h1; rw [if_pos hg] at h1; cases h1
set_option maxHeartbeats 4000000 in
theorem rof_walk (v0 : Value) (D : Dic) (v1 : Value) (w : World) (h0 : ∃ vs, v0 = dv vs ∧ DicV w vs D ∧ ∀ i, i < 5 → ∀ s ∈ (D i).1, s.size ≤ 9223372036854775807) (h1 : ∃ xs : List PatM, PatsV w v1 xs ∧ ∀ x ∈ xs, x.2.Near) :
 Calls Tryz.prog 3 #[v0, v1] w fun e w' => e = .returned (.bool true) ∧ Ext w w' := by
 have hmo : Tryz.prog.follows .mixedOrders = true := by kernel_rfl
 obtain ⟨vs, rfl, hV0, hs0⟩ := h0
 obtain ⟨A, hA1, hA2⟩ := heads hV0.shape
 rw [show dv vs = dv (hv A) from by unfold dv; rw [hA2]]
 have hV : DicV w (hv A) D := fun i hi => by rw [← hA1 i hi]; exact hV0 i hi
 clear hA1 hA2 hV0
 have HOWD := Lib.hid (fun w' (hx : Ext w w') => ownDic18_any (hv A) D w' (hV.ext hx))
 have HDS := Lib.hid (cutD_s hs0)
 obtain ⟨xs, hX, hXn⟩ := h1
 obtain ⟨xa, xc, rfl, hxc, hxm⟩ := Sl.shape hX.1
 have HXS := Lib.hid hX
 have HXN := Lib.hid hXn
 have H0 := Lib.hid (RowAt.new w 28 (dcells (hv A)))
 have HX := Lib.hid (Ext.alloc w (.cells (dcells (hv A)).toArray 28))
 clear hV hs0 hX hXn
 unfold dv at *
 go_enter Tryz.func3, Tryz.ntmps3
 go_upto_region 1 with fail
 generalize w.alloc (.cells (dcells (hv A)).toArray 28) = w1 at *
 obtain ⟨y0, hy0⟩ : ∃ x, w.heap.size = x := ⟨_, rfl⟩
 rw [hy0] at H0
 simp only [hy0]
 clear hy0
 go_wp2_with fail
 refine (wakesG_any w1).mono ?_
 rintro e w2 ⟨rfl, hx2⟩
 have HX2 := Lib.hid (HX.out.trans hx2)
 replace H0 := Lib.hid (H0.out.ext hx2)
 clear hx2 HX
 go_upto_region 3 with fail
 apply wp_region_lit
 refine plain_load rfl _ _ rfl y0 rfl _ _ (H0.out) Tryz.underlying28 rfl (by kernel_rfl) ?_
 go_simp
 refine wpList_plain rfl fun K1 hK1 => ?_
 go_simp
 refine (HOWD.out w2 HX2.out).mono ?_; rintro e w3 ⟨us, rfl, hus, hx3⟩
 go_simp
 refine hK1 _ _ ?_
 clear hK1 K1
 obtain ⟨A5, hA5, hAe⟩ := hus.heads
 rw [show dcells us = dcells (hv A5) from by unfold dv at hAe; have h := Value.agg.inj hAe; simpa using congrArg Array.toList h]
 have HU := Lib.hid hA5
 have HX3 := Lib.hid (HX2.out.trans hx3)
 clear hus hA5 hAe hx3 HX2 H0 HOWD
 (refine wpList_plain rfl fun Y y'=>?_;go_simp;refine y' _ _ ?_;clear y' Y)
 have hax := Ext.alloc w3 (.cells #[.slice none 0 0, .slice none 0 0, .slice none 0 0, .slice none 0 0, .slice none 0 0, .slice none 0 0, .slice none 0 0, .slice none 0 0, .slice none 0 0, .slice none 0 0] 28)
 have har : RowAt (w3.alloc (.cells #[.slice none 0 0, .slice none 0 0, .slice none 0 0, .slice none 0 0, .slice none 0 0, .slice none 0 0, .slice none 0 0, .slice none 0 0, .slice none 0 0, .slice none 0 0] 28)) w3.heap.size 28 (#[.slice none 0 0, .slice none 0 0, .slice none 0 0, .slice none 0 0, .slice none 0 0, .slice none 0 0, .slice none 0 0, .slice none 0 0, .slice none 0 0, .slice none 0 0]).toList := RowAt.new _ _ _
 refine plain_store rfl _ _ _ rfl w3.heap.size (dcells (hv A5)) rfl rfl har (by kernel_rfl) rfl ((by simp [dcells, hv, Value.oneCell'])) ?_
 have hex : Ext w3 ((w3.alloc (.cells #[.slice none 0 0, .slice none 0 0, .slice none 0 0, .slice none 0 0, .slice none 0 0, .slice none 0 0, .slice none 0 0, .slice none 0 0, .slice none 0 0, .slice none 0 0] 28)).setRow w3.heap.size (dcells (hv A5)).toArray) := below_setRow hax (Nat.le_refl _) _
 have HEw4 := Lib.hid hex
 have HRy := Lib.hid (har.setRow (dcells (hv A5)))
 clear hax har hex
 go_simp
 generalize (w3.alloc (.cells #[.slice none 0 0, .slice none 0 0, .slice none 0 0, .slice none 0 0, .slice none 0 0, .slice none 0 0, .slice none 0 0, .slice none 0 0, .slice none 0 0, .slice none 0 0] 28)).setRow w3.heap.size (dcells (hv A5)).toArray = w4 at *
 obtain ⟨y, hsy⟩ : ∃ x, w3.heap.size = x := ⟨_, rfl⟩
 rw [hsy] at HRy
 simp only [hsy]
 have HSy := Lib.hid hsy
 clear hsy
 apply wpList_nil
 have HX4 := Lib.hid (HX3.out.trans HEw4.out)
 have HU4 := Lib.hid (HU.out.view.ext HEw4.out)
 have HB4 := Lib.hid (show RowAt w4 y 28 (dcells (hv A5)) from HRy.out)
 generalize cutD D = E at *
 have hdr := dright_any (hv A5) E w4 HU4.out HDS.out
 unfold dv at hdr
 have HDR := Lib.hid hdr
 clear hdr
 go_upto_region 4 with fail
 apply wp_region_lit
 refine plain_load rfl _ _ rfl y rfl _ _ (HB4.out) Tryz.underlying28 rfl (by kernel_rfl) ?_
 go_simp
 refine wpList_plain rfl fun K1 hK1 => ?_
 go_simp
 refine HDR.out.mono ?_; rintro e w5 ⟨r, rfl, hr, hx5⟩
 go_simp
 refine hK1 _ _ ?_
 clear hK1 K1
 (refine wpList_plain rfl fun Y y'=>?_;go_simp;refine y' _ _ ?_;clear y' Y)
 apply wpList_nil
 have HX5 := Lib.hid (HX4.out.trans hx5)
 have HU5 := Lib.hid (HU4.out.ext hx5)
 have HB5 := Lib.hid (HB4.out.ext hx5)
 have HRR := Lib.hid hr
 clear hx5 hr HX4 HU4 HB4 HDR
 go_wp2_with fail
 go_loopg [7, 8, 26] xs.length (fun g s7 s8 i wr => ∃ k : Nat, k ≤ xs.length ∧ g = xs.length - k ∧ i = .int .i64 k ∧ Hid (Ext w5 wr))
 case atStart => exact ⟨0, Nat.zero_le _, rfl, rfl, Lib.hid (Ext.refl _)⟩
 case round =>
  obtain ⟨k, hk, hg, rfl, HXR⟩ := hrel
  have Hg := Lib.hid hg
  clear hg
  by_cases hlt : k < xs.length
  ·obtain ⟨b, o, rfl, hcc⟩ := (HXS.out.ext (HX5.out.trans HXR.out)).at_ hlt
   have hpm := (HXS.out.ext (HX5.out.trans HXR.out)).2 _ (List.getElem_mem hlt)
   have hnr := HXN.out _ (List.getElem_mem hlt)
   generalize xs[k] = x at *
   obtain ⟨⟨pav, prv, phv⟩, P⟩ := x
   unfold PatmAt at hpm
   dsimp only at hpm hnr
   have HPP := Lib.hid (show PatAt wr (patV pav prv phv P) P from ⟨_, _, _, rfl, hpm.1, hpm.2.1, hpm.2.2⟩)
   obtain ⟨pa, pc, rfl, _, _⟩ := hpm.1.shape
   obtain ⟨ra, rc, rfl, _, _⟩ := Sl.shape hpm.2.1
   obtain ⟨ha, hc, rfl, _, _⟩ := Sl.shape hpm.2.2
   have HPF := Lib.hid (cutP_near hnr)
   have c0 := hcc 0 _ rfl
   have c1 := hcc 1 _ rfl
   have c2 := hcc 2 _ rfl
   have c3 := hcc 3 _ rfl
   have c4 := hcc 4 _ rfl
   have c5 := hcc 5 _ rfl
   have c6 := hcc 6 _ rfl
   have c7 := hcc 7 _ rfl
   simp only [Nat.add_zero] at c0
   have HAX := Lib.hid (Ext.alloc wr (.cells #[.slice pa P.atoms.length pc, .slice ra P.ret.length rc, .bool P.count, .bool P.distinct, .bool P.limited, .int .i64 P.limit, .int .i64 P.offset, .slice ha P.hint.length hc] 35))
   have HAB := Lib.hid (RowAt.new wr 35 [.slice pa P.atoms.length pc, .slice ra P.ret.length rc, .bool P.count, .bool P.distinct, .bool P.limited, .int .i64 P.limit, .int .i64 P.offset, .slice ha P.hint.length hc])
   clear hcc hpm hnr
   by_cases h4 : k = 4
   ·have hb4 : ((k : Int) == 4) = true := by rw [h4]; rfl
    clear h4
    go_wp2_with fail
    go_ret
    exact ⟨rfl, (HX5.out.trans HXR.out).trans HAX.out⟩
   ·have hb4 : ((k : Int) == 4) = false := by simp; omega
    clear h4
    go_upto_region 9 with fail
    replace HAB : Hid (RowAt (wr.alloc (.cells #[.slice pa P.atoms.length pc, .slice ra P.ret.length rc, .bool P.count, .bool P.distinct, .bool P.limited, .int .i64 P.limit, .int .i64 P.offset, .slice ha P.hint.length hc] 35)) wr.heap.size 35 (patL (.slice pa P.atoms.length pc) (.slice ra P.ret.length rc) (.slice ha P.hint.length hc) P)) := HAB
    generalize wr.alloc (.cells #[.slice pa P.atoms.length pc, .slice ra P.ret.length rc, .bool P.count, .bool P.distinct, .bool P.limited, .int .i64 P.limit, .int .i64 P.offset, .slice ha P.hint.length hc] 35) = wb at *
    obtain ⟨t, ht⟩ : ∃ t, wr.heap.size = t := ⟨_, rfl⟩
    rw [ht] at HAB
    simp only [ht]
    clear ht c0 c1 c2 c3 c4 c5 c6 c7 hb4
    have HXB := Lib.hid (HXR.out.trans HAX.out)
    have HOWP := Lib.hid (fun w' (hx : Ext wr w') => ownP18_any _ P w' (HPP.out.ext hx))
    unfold patV at HOWP
    apply wp_region_lit
    refine plain_load rfl _ _ rfl t rfl _ _ (HAB.out) Tryz.underlying35 rfl (by kernel_rfl) ?_
    go_simp
    refine wpList_plain rfl fun K1 hK1 => ?_
    go_simp
    refine (HOWP.out wb HAX.out).mono ?_; rintro e w6 ⟨u, rfl, hpo, hx6⟩
    go_simp
    refine hK1 _ _ ?_
    clear hK1 K1
    obtain ⟨a1, c1, a2, c2, a3, c3, rfl⟩ := hpo.shape
    generalize cutP P = Q at *
    have HPO := Lib.hid hpo
    unfold patV
    (refine wpList_plain rfl fun Y y'=>?_;go_simp;refine y' _ _ ?_;clear y' Y)
    have hax := Ext.alloc w6 (.cells #[.slice none 0 0, .slice none 0 0, .bool false, .bool false, .bool false, .int .i64 0, .int .i64 0, .slice none 0 0] 35)
    have har : RowAt (w6.alloc (.cells #[.slice none 0 0, .slice none 0 0, .bool false, .bool false, .bool false, .int .i64 0, .int .i64 0, .slice none 0 0] 35)) w6.heap.size 35 (#[.slice none 0 0, .slice none 0 0, .bool false, .bool false, .bool false, .int .i64 0, .int .i64 0, .slice none 0 0]).toList := RowAt.new _ _ _
    refine plain_store rfl _ _ _ rfl w6.heap.size (patL (.slice a1 Q.atoms.length c1) (.slice a2 Q.ret.length c2) (.slice a3 Q.hint.length c3) Q) rfl rfl har (by kernel_rfl) rfl ((by simp [patL, Value.oneCell'])) ?_
    have hex : Ext w6 ((w6.alloc (.cells #[.slice none 0 0, .slice none 0 0, .bool false, .bool false, .bool false, .int .i64 0, .int .i64 0, .slice none 0 0] 35)).setRow w6.heap.size (patL (.slice a1 Q.atoms.length c1) (.slice a2 Q.ret.length c2) (.slice a3 Q.hint.length c3) Q).toArray) := below_setRow hax (Nat.le_refl _) _
    have HEw7 := Lib.hid hex
    have HRq := Lib.hid (har.setRow (patL (.slice a1 Q.atoms.length c1) (.slice a2 Q.ret.length c2) (.slice a3 Q.hint.length c3) Q))
    clear hax har hex
    go_simp
    generalize (w6.alloc (.cells #[.slice none 0 0, .slice none 0 0, .bool false, .bool false, .bool false, .int .i64 0, .int .i64 0, .slice none 0 0] 35)).setRow w6.heap.size (patL (.slice a1 Q.atoms.length c1) (.slice a2 Q.ret.length c2) (.slice a3 Q.hint.length c3) Q).toArray = w7 at *
    obtain ⟨q, hsq⟩ : ∃ x, w6.heap.size = x := ⟨_, rfl⟩
    rw [hsq] at HRq
    simp only [hsq]
    have HSq := Lib.hid hsq
    clear hsq
    apply wpList_nil
    have hx7 := hx6.trans HEw7.out
    have HX7 := Lib.hid (HXB.out.trans hx7)
    have HAX7 := Lib.hid (HAX.out.trans hx7)
    have HAB7 := Lib.hid (HAB.out.ext hx7)
    have HPO7 := Lib.hid (HPO.out.ext HEw7.out)
    have HQ7 := Lib.hid (show RowAt w7 q 35 (patL (.slice a1 Q.atoms.length c1) (.slice a2 Q.ret.length c2) (.slice a3 Q.hint.length c3) Q) from HRq.out)
    have HGN := Lib.hid (goalN A5 E Q _ _ _ w7 (HU5.out.ext HX7.out) HDS.out HPO7.out.at_ HPF.out)
    go_upto_region 10 with fail
    apply wp_region_lit
    refine plain_load rfl _ _ rfl y rfl _ _ (HB5.out.ext HX7.out) Tryz.underlying28 rfl (by kernel_rfl) ?_
    go_simp
    refine plain_load rfl _ _ rfl q rfl _ _ (HQ7.out) Tryz.underlying35 rfl (by kernel_rfl) ?_
    go_simp
    refine wpList_plain rfl fun K1 hK1 => ?_
    go_simp
    refine HGN.out.mono ?_; rintro e w8 ⟨G, n, c, q1, d1, q2, d2, q3, d3, q4, d4, rfl, hor, hgi, hx8⟩
    go_simp
    refine hK1 _ _ ?_
    clear hK1 K1
    (refine wpList_plain rfl fun Y y'=>?_;go_simp;refine y' _ _ ?_;clear y' Y)
    (refine wpList_plain rfl fun Y y'=>?_;go_simp;refine y' _ _ ?_;clear y' Y)
    (refine wpList_plain rfl fun Y y'=>?_;go_simp;refine y' _ _ ?_;clear y' Y)
    (refine wpList_plain rfl fun Y y'=>?_;go_simp;refine y' _ _ ?_;clear y' Y)
    (refine wpList_plain rfl fun Y y'=>?_;go_simp;refine y' _ _ ?_;clear y' Y)
    have hax := Ext.alloc w8 (.cells #[.slice none 0 0, .slice none 0 0, .slice none 0 0, .bool false, .bool false, .bool false, .int .i64 0, .int .i64 0, .slice none 0 0] 39)
    have har : RowAt (w8.alloc (.cells #[.slice none 0 0, .slice none 0 0, .slice none 0 0, .bool false, .bool false, .bool false, .int .i64 0, .int .i64 0, .slice none 0 0] 39)) w8.heap.size 39 (#[.slice none 0 0, .slice none 0 0, .slice none 0 0, .bool false, .bool false, .bool false, .int .i64 0, .int .i64 0, .slice none 0 0]).toList := RowAt.new _ _ _
    refine plain_store rfl _ _ _ rfl w8.heap.size (golC (.slice q1 G.vars.length d1) (.slice q2 G.atoms.length d2) (.slice q3 G.ret.length d3) (.slice q4 G.hint.length d4) G) rfl rfl har (by kernel_rfl) rfl ((by simp [golC, Value.oneCell'])) ?_
    have hex : Ext w8 ((w8.alloc (.cells #[.slice none 0 0, .slice none 0 0, .slice none 0 0, .bool false, .bool false, .bool false, .int .i64 0, .int .i64 0, .slice none 0 0] 39)).setRow w8.heap.size (golC (.slice q1 G.vars.length d1) (.slice q2 G.atoms.length d2) (.slice q3 G.ret.length d3) (.slice q4 G.hint.length d4) G).toArray) := below_setRow hax (Nat.le_refl _) _
    have HEw9 := Lib.hid hex
    have HRg := Lib.hid (har.setRow (golC (.slice q1 G.vars.length d1) (.slice q2 G.atoms.length d2) (.slice q3 G.ret.length d3) (.slice q4 G.hint.length d4) G))
    clear hax har hex
    go_simp
    generalize (w8.alloc (.cells #[.slice none 0 0, .slice none 0 0, .slice none 0 0, .bool false, .bool false, .bool false, .int .i64 0, .int .i64 0, .slice none 0 0] 39)).setRow w8.heap.size (golC (.slice q1 G.vars.length d1) (.slice q2 G.atoms.length d2) (.slice q3 G.ret.length d3) (.slice q4 G.hint.length d4) G).toArray = w9 at *
    obtain ⟨g, hsg⟩ : ∃ x, w8.heap.size = x := ⟨_, rfl⟩
    rw [hsg] at HRg
    simp only [hsg]
    have HSg := Lib.hid hsg
    clear hsg
    (refine wpList_plain rfl fun Y y'=>?_;go_simp;refine y' _ _ ?_;clear y' Y)
    (refine wpList_plain rfl fun Y y'=>?_;go_simp;refine y' _ _ ?_;clear y' Y)
    apply wpList_nil
    have HX9 := Lib.hid (hx8.trans HEw9.out)
    have HGI9 := Lib.hid (hgi.ext HEw9.out)
    have HR9 := Lib.hid (show RowAt w9 g 39 (golC (.slice q1 G.vars.length d1) (.slice q2 G.atoms.length d2) (.slice q3 G.ret.length d3) (.slice q4 G.hint.length d4) G) from HRg.out)
    have HGL := Lib.hid (show w7.heap.size ≤ g by have h1 := hx8.size; have h2 := HSg.out; omega)
    have HOR := Lib.hid hor
    have hfew : G.atoms.length ≤ 1000000000 := by
     by_cases hc : c = 0
     ·obtain ⟨_, h2, h3, _⟩ := hor.zero hc
      have := golOf_fits h2 HPF.out h3
      omega
     ·have := (hor.bad hc).1
      omega
    have HFW := Lib.hid hfew
    go_upto_region 11 with fail
    apply wp_region_lit
    (refine wpList_plain rfl fun Y y'=>?_;go_simp;refine y' _ _ ?_;clear y' Y)
    have hxa := Ext.alloc w9 (.cells #[.slice none 0 0, .slice none 0 0, .slice none 0 0, .bool false, .bool false, .bool false, .int .i64 0, .int .i64 0, .slice none 0 0] 39)
    have hra : RowAt (w9.alloc (.cells #[.slice none 0 0, .slice none 0 0, .slice none 0 0, .bool false, .bool false, .bool false, .int .i64 0, .int .i64 0, .slice none 0 0] 39)) w9.heap.size 39 [.slice none 0 0, .slice none 0 0, .slice none 0 0, .bool false, .bool false, .bool false, .int .i64 0, .int .i64 0, .slice none 0 0] := RowAt.new _ _ _
    have HX10 := Lib.hid hxa
    have HM10 := Lib.hid hra
    clear hxa hra
    generalize w9.alloc (.cells #[.slice none 0 0, .slice none 0 0, .slice none 0 0, .bool false, .bool false, .bool false, .int .i64 0, .int .i64 0, .slice none 0 0] 39) = w10 at *
    obtain ⟨m, hm⟩ : ∃ m, w9.heap.size = m := ⟨_, rfl⟩
    rw [hm] at HM10
    simp only [hm]
    have HML := Lib.hid (Nat.le_of_eq hm)
    clear hm
    apply wpList_nil
    go_upto_if 42 with fail
    go_cut [14, 15, 16] (fun s14 s15 s16 wx => s14 = .int .i64 n ∧ s15 = .int .i64 c ∧ Hid (WantG w9 wx m G))
    case first =>
     cases r with
     | false =>
      obtain ⟨rfl, rfl, rfl⟩ := HOR.out.not_dict (fun h => by have := HRR.out.2 h; cases this)
      have HFN := Lib.hid (show WantG w9 w10 m zGol from ⟨[.slice none 0 0, .slice none 0 0, .slice none 0 0, .bool false, .bool false, .bool false, .int .i64 0, .int .i64 0, .slice none 0 0], HX10.out, HM10.out, rfl, (zGol_o 0 _).at_⟩)
      go_wp2_with fail
      go_meet
      exact ⟨rfl, rfl, HFN⟩
     | true =>
      have HOK := Lib.hid (HRR.out.1 rfl)
      have hrt := right16_any _ Q w10 ((HPO7.out.at_.ext HX9.out).ext HX10.out) HPF.out
      obtain ⟨okb, hokb⟩ : ∃ b, Q.okB = b := ⟨_, rfl⟩
      rw [hokb] at hrt
      unfold patV at hrt
      have HRT := Lib.hid hrt
      have HOKB := Lib.hid hokb
      go_upto_region 15 with fail
      apply wp_region_lit
      refine plain_load rfl _ _ rfl q rfl _ _ ((HQ7.out.ext HX9.out).ext HX10.out) Tryz.underlying35 rfl (by kernel_rfl) ?_
      go_simp
      refine wpList_plain rfl fun K1 hK1 => ?_
      go_simp
      refine HRT.out.mono ?_; rintro e w11 ⟨rfl, hx11⟩
      go_simp
      refine hK1 _ _ ?_
      clear hK1 K1
      apply wpList_nil
      have HX11 := Lib.hid (HX10.out.trans hx11)
      have HM11 := Lib.hid (HM10.out.ext hx11)
      cases okb with
      | false =>
       obtain ⟨rfl, rfl, rfl⟩ := HOR.out.not_pat HOK.out HOKB.out
       have HFN := Lib.hid (show WantG w9 w11 m zGol from ⟨[.slice none 0 0, .slice none 0 0, .slice none 0 0, .bool false, .bool false, .bool false, .int .i64 0, .int .i64 0, .slice none 0 0], HX11.out, HM11.out, rfl, (zGol_o 0 _).at_⟩)
       go_wp2_with fail
       go_meet
       exact ⟨rfl, rfl, HFN⟩
      | true =>
       have hof := ofR_any A5 E Q a1 a2 a3 c1 c2 c3 w11 ((HU5.out.ext HX7.out).ext (HX9.out.trans HX11.out)) (HPO7.out.at_.ext (HX9.out.trans HX11.out)) HOKB.out
       have HOF := Lib.hid hof
       clear hof
       go_upto_region 17 with fail
       apply wp_region_lit
       refine plain_load rfl _ _ rfl y rfl _ _ ((HB5.out.ext HX7.out).ext (HX9.out.trans HX11.out)) Tryz.underlying28 rfl (by kernel_rfl) ?_
       go_simp
       refine plain_load rfl _ _ rfl q rfl _ _ (HQ7.out.ext (HX9.out.trans HX11.out)) Tryz.underlying35 rfl (by kernel_rfl) ?_
       go_simp
       refine wpList_plain rfl fun K1 hK1 => ?_
       go_simp
       refine HOF.out.mono ?_; rintro e w12 ⟨gs, G', n', b', rfl, hot, hgo, hx12⟩
       go_simp
       refine hK1 _ _ ?_
       clear hK1 K1
       obtain ⟨rfl, rfl, hcb⟩ := HOR.out.same hot HOK.out HOKB.out
       obtain ⟨z1, e1, z2, e2, z3, e3, z4, e4, rfl⟩ := hgo.shape
       (refine wpList_plain rfl fun Y y'=>?_;go_simp;refine y' _ _ ?_;clear y' Y)
       (refine wpList_plain rfl fun Y y'=>?_;go_simp;refine y' _ _ ?_;clear y' Y)
       (refine wpList_plain rfl fun Y y'=>?_;go_simp;refine y' _ _ ?_;clear y' Y)
       (refine wpList_plain rfl fun Y y'=>?_;go_simp;refine y' _ _ ?_;clear y' Y)
       have hm12 := HM11.out.ext hx12
       have HFN := Lib.hid (show WantG w9 (w12.setRow m (golC (.slice z1 G'.vars.length e1) (.slice z2 G'.atoms.length e2) (.slice z3 G'.ret.length e3) (.slice z4 G'.hint.length e4) G').toArray) m G' from ⟨golC (.slice z1 G'.vars.length e1) (.slice z2 G'.atoms.length e2) (.slice z3 G'.ret.length e3) (.slice z4 G'.hint.length e4) G', below_setRow (HX11.out.trans hx12) HML.out _, hm12.setRow _, rfl, (hgo.store hm12 golz_no _).at_⟩)
       have HM12 := Lib.hid hm12
       refine plain_store rfl _ _ _ rfl m (golC (.slice z1 G'.vars.length e1) (.slice z2 G'.atoms.length e2) (.slice z3 G'.ret.length e3) (.slice z4 G'.hint.length e4) G') rfl rfl (HM12.out) (by kernel_rfl) rfl ((by simp [golC, Value.oneCell'])) ?_
       go_simp
       generalize w12.setRow m (golC (.slice z1 G'.vars.length e1) (.slice z2 G'.atoms.length e2) (.slice z3 G'.ret.length e3) (.slice z4 G'.hint.length e4) G').toArray = w13 at *
       (refine wpList_plain rfl fun Y y'=>?_;go_simp;refine y' _ _ ?_;clear y' Y)
       (refine wpList_plain rfl fun Y y'=>?_;go_simp;refine y' _ _ ?_;clear y' Y)
       apply wpList_nil
       cases b' with
       | true =>
        have hc0 : c = 0 := by rw [hcb]; rfl
        clear hcb
        subst hc0
        go_wp2_with fail
        go_meet
        exact ⟨rfl, rfl, HFN⟩
       | false =>
        have hc0 : c = 280 := by rw [hcb]; rfl
        clear hcb
        subst hc0
        go_wp2_with fail
        go_meet
        exact ⟨rfl, rfl, HFN⟩
    case rest =>
     obtain ⟨rfl, rfl, hc9⟩ := hcut
     obtain ⟨ms, hxc, hrm, hml, hgm⟩ := hc9.out
     have HSM0 := sameGR_any _ _ G G wc (HGI9.out.at_.ext hxc) hgm HFW.out HFW.out
     obtain ⟨mv, ma, mr, mh, ems, _⟩ := hgm
     obtain rfl : ms = golC mv ma mr mh G := by unfold golV at ems; simpa using ems
     rw [decide_eq_true rfl] at HSM0
     unfold golV at HSM0
     have HSM := Lib.hid HSM0
     have HXC := Lib.hid hxc
     have HRM := Lib.hid hrm
     have HVO := Lib.hid (own_ext HGI9.out.varsO hxc)
     clear hc9 hxc hrm hml ems HSM0 HX10 HM10 HML HOR HGI9
     have n1 : (c != c) = false := by simp
     have n2 : (n != n) = false := by simp
     go_upto_region 21 with fail
     apply wp_region_lit
     (refine wpList_plain rfl fun Y y'=>?_;go_simp;refine y' _ _ ?_;clear y' Y)
     (refine wpList_plain rfl fun Y y'=>?_;go_simp;refine y' _ _ ?_;clear y' Y)
     (refine wpList_plain rfl fun Y y'=>?_;go_simp;refine y' _ _ ?_;clear y' Y)
     (refine wpList_plain rfl fun Y y'=>?_;go_simp;refine y' _ _ ?_;clear y' Y)
     (refine wpList_yes (by first|rfl|decide) fun Y y'=>?_;go_simp;refine y' _ _ ?_;clear y' Y)
     (refine wpList_yes (by first|rfl|decide) fun Y y'=>?_;go_simp;refine y' _ _ ?_;clear y' Y)
     (refine wpList_yes (by first|rfl|decide) fun Y y'=>?_;go_simp;refine y' _ _ ?_;clear y' Y)
     (refine wpList_plain rfl fun Y y'=>?_;go_simp;refine y' _ _ ?_;clear y' Y)
     (refine wpList_plain rfl fun Y y'=>?_;go_simp;refine y' _ _ ?_;clear y' Y)
     refine wpList_yes (by first | rfl | decide | kernel_rfl) fun K1 hK1 => ?_
     refine wp_load_mid _ _ rfl g 0 rfl _ _ (HR9.out.ext HXC.out).whole Tryz.underlying39 rfl (by kernel_rfl) ?_
     refine hK1 _ _ ?_
     clear hK1 K1
     go_simp
     refine wpList_yes (by first | rfl | decide | kernel_rfl) fun K1 hK1 => ?_
     refine wp_load_mid _ _ rfl m 0 rfl _ _ (HRM.out).whole Tryz.underlying39 rfl (by kernel_rfl) ?_
     refine hK1 _ _ ?_
     clear hK1 K1
     go_simp
     refine wpList_yes (by first | rfl | decide | kernel_rfl) fun K1 hK1 => ?_
     go_simp
     refine HSM.out.mono ?_; rintro e w14 ⟨rfl, hx14⟩
     go_simp
     refine hK1 _ _ ?_
     clear hK1 K1
     (refine wpList_yes (by first|rfl|decide) fun Y y'=>?_;go_simp;refine y' _ _ ?_;clear y' Y)
     (refine wpList_plain rfl fun Y y'=>?_;go_simp;refine y' _ _ ?_;clear y' Y)
     apply wpList_nil
     have HX14 := Lib.hid ((HX9.out.trans HXC.out).trans hx14)
     have HR14 := Lib.hid ((HR9.out.ext HXC.out).ext hx14)
     have HV14 := Lib.hid (own_ext HVO.out hx14)
     have g0 := HR14.out.cell (i := 0) rfl
     go_wp2_with fail
     clear g0
     obtain ⟨wo, hwo⟩ : ∃ x, x = wr := ⟨_, rfl⟩
     subst hwo
     have hnv : G.vars.length ≤ 9223372036854775807 := by
      by_cases hz : 0 < G.vars.length
      ·have := (Sl.of_own HV14.out).shape
       obtain ⟨_, _, e, h1, h2⟩ := this
       omega
      ·omega
     go_loopg [70] G.vars.length (fun g' i wr => ∃ j : Nat, j ≤ G.vars.length ∧ g' = G.vars.length - j ∧ i = .int .i64 j ∧ Hid (Ext w7 wr) ∧ Hid (RowAt wr g 39 (golC (.slice q1 G.vars.length d1) (.slice q2 G.atoms.length d2) (.slice q3 G.ret.length d3) (.slice q4 G.hint.length d4) G)) ∧ Hid (∃ L : List ByteArray, L.length = G.vars.length ∧ wr.ownsRow w7.heap.size 9 1 (.slice q1 G.vars.length d1) G.vars.length (L.map Value.string)))
     case atStart => exact ⟨0, Nat.zero_le _, rfl, rfl, HX14, HR14, Lib.hid ⟨_, rfl, HV14.out⟩⟩
     case round =>
      obtain ⟨j, hj, hg2, rfl, HXJ, HRJ, HVJ⟩ := hrel
      have Hg2 := Lib.hid hg2
      clear hg2 HX14 HR14 HV14
      by_cases hltj : j < G.vars.length
      ·obtain ⟨L, hL, hO⟩ := HVJ.out
       obtain ⟨b2, dd, eform, hb2, _⟩ := hO.form (by omega)
       simp only [Value.slice.injEq, true_and] at eform
       obtain ⟨rfl, rfl⟩ := eform
       have cc := hO.cellAt j (by omega)
       rw [List.getElem?_map, List.getElem?_eq_getElem (by omega : j < L.length)] at cc
       simp only [Option.map_some] at cc
       have ff := hO.frozenAt j
       have hst := hO.stored j (.string nilB)
       have g0 := HRJ.out.cell (i := 0) rfl
       have hne : b2 ≠ g := own_ne_row hO HRJ.out (by decide) _ rfl
       have HXK := Lib.hid (show Ext w7 (wr.setCell ⟨b2, j, none⟩ (.string nilB)) from Ext.set_of HXJ.out hb2 _)
       have HRK := Lib.hid (show RowAt (wr.setCell ⟨b2, j, none⟩ (.string nilB)) g 39 _ from HRJ.out.kept hst.2 (fun e => hne (Option.some.inj e)))
       have HVK := Lib.hid (show ∃ L : List ByteArray, L.length = G.vars.length ∧ (wr.setCell ⟨b2, j, none⟩ (.string nilB)).ownsRow w7.heap.size 9 1 (.slice (some ⟨b2, 0, none⟩) G.vars.length d1) G.vars.length (L.map Value.string) from ⟨L.set j nilB, by rw [List.length_set]; exact hL, by rw [List.map_set]; exact hst.1⟩)
       obtain ⟨s0, hs0⟩ : ∃ s, L[j] = s := ⟨_, rfl⟩
       rw [hs0] at cc
       clear hst hne hO hs0 hL hb2
       unfold nilB at HXK HRK HVK
       go_wp2_with fail
       go_roundg (G.vars.length - (j + 1))
       case measure => have := Hg2.out; omega
       case rel => exact ⟨j + 1, by omega, rfl, by first | rfl | go_num, HXK, HRK, HVK⟩
      ·have he : j = G.vars.length := by omega
       have HX20 := Lib.hid (HX7.out.trans HXJ.out)
       have HQ20 := Lib.hid (HQ7.out.ext HXJ.out)
       have HT20 := Lib.hid (HAB7.out.ext HXJ.out)
       have HP20 := Lib.hid (HPO7.out.at_.ext HXJ.out)
       have HA20 := Lib.hid (HAX7.out.trans HXJ.out)
       go_upto_region 28 with fail
       refine wp_region_grox [] groR28 [0, 1, 2, 3, 4] hmo (by kernel_rfl) rfl (by kernel_rfl) (fun _ _ _ _ _ h => h) ?_
       have hxd : Ext wr wr.drew := Ext.drewN wr 1
       have HX21 := Lib.hid (HX20.out.trans hxd)
       have HQ21 := Lib.hid (HQ20.out.ext hxd)
       have HT21 := Lib.hid (HT20.out.ext hxd)
       have HP21 := Lib.hid (HP20.out.ext hxd)
       have HA21 := Lib.hid (HA20.out.trans hxd)
       generalize wr.drew = w21 at *
       refine groX_loadW rfl rfl (by first | rfl | decide | kernel_rfl) _ _ rfl q 0 rfl _ _ (HQ21.out).whole (by simp) Tryz.underlying35 rfl (by kernel_rfl) ?_
       refine groX_loadW rfl rfl (by first | rfl | decide | kernel_rfl) _ _ rfl t 0 rfl _ _ (HT21.out).whole (by simp) Tryz.underlying35 rfl (by kernel_rfl) ?_
       refine groX_grow rfl rfl ?_
       intro K hK
       go_simp
       refine (HOWP.out w21 HA21.out).mono ?_; rintro e w22 ⟨u2, rfl, hpo2, hx22⟩
       go_simp
       refine hK _ _ ⟨Grows.ext hx22, ?_⟩
       clear hK K
       have hsm := same16_any _ u2 Q Q w22 (HP21.out.ext hx22) hpo2.at_ (by have := HPF.out.few; omega) (by have := HPF.out.few; omega)
       rw [(sameB_iff Q Q).2 rfl] at hsm
       unfold patV at hsm
       have HSM2 := Lib.hid hsm
       refine groX_grow rfl rfl ?_
       intro K hK
       go_simp
       refine HSM2.out.mono ?_; rintro e w23 ⟨rfl, hx23⟩
       go_simp
       refine hK _ _ ⟨Grows.ext hx23, ?_⟩
       clear hK K
       have HX23 := Lib.hid ((HX21.out.trans hx22).trans hx23)
       repeat (first
        | (refine groX_pure rfl rfl ?_; intro K hK; go_simp; refine hK _ ?_; clear hK K)
        | (refine groX_read rfl rfl ?_; intro K S hS hK; go_simp; refine hK _ ?_; clear hK K hS S)
        | (refine groX_read rfl rfl ?_; intro K S hS hK; go_simp; refine ⟨hS _ ?_, hK _ ?_⟩; (clear hK K hS S; intro w' hx'; have hce := grows_some hx'; go_simp); clear hK K hS S))
       refine groX_nil ?_
       go_wp2_with fail
       go_roundg (xs.length - (k + 1))
       case measure => have := Hg.out; omega
       case rel => exact ⟨k + 1, by omega, rfl, by first | rfl | go_num, HX23⟩
  ·have he : k = xs.length := by omega
   go_wp2_with fail
   go_ret
   exact ⟨rfl, HX5.out.trans HXR.out⟩
end Go.Proofs.YtkmbnghghbfkdaaGreat
