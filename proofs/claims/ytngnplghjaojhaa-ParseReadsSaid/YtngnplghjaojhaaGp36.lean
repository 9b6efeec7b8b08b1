/- The document's Tokens, without premise. -/
import Derived.Test.YtngnplghjaojhaaGp35
import Derived.Test.YtngnplghjaojhaaGp34
import Derived.Test.YtngnplghjaojhaaGp08
import Derived.Test.YtngnplghjaojhaaGp25
import Derived.Test.YtngnplghjaojhaaGp03
import Derived.Test.YtngnplghjaojhaaGp19
namespace Go.Proofs.Ytngnplghjaojhaa
set_option maxRecDepth 100000
set_option maxHeartbeats 2000000
set_option linter.unusedSimpArgs false
open Go.RowKit
set_option linter.unusedVariables false
theorem told_C (ts : List Tk) (a : Option Addr) (k : Nat) : ToldC ts a k := fun w B a1 n1 k1 op p bad A h hp hA hB hAl =>
  toldS_any w B ⟨a1, n1, k1, none, 0, 0, false, false, false, 0, 0, none, 0, 0, op⟩ p bad A h hp ⟨rfl, rfl, rfl, rfl, rfl⟩ hA (World.ownsRow_nil _ _ _ _) (World.ownsRow_nil _ _ _ _) hB hAl (by
    have h := varsS_take_len A A.length (Nat.le_refl _)
    rw [List.take_length] at h
    omega)
/-- Tokens of the document: it comes to what the plain law says. -/
theorem tokensR (ts : List Tk) (a : Option Addr) (k : Nat) (w : World) (h : TkQ w ts a k) : Calls Try.prog 16 #[.slice a ts.length k] w (TokW w ts) := tokensR_any (told_C ts a k) w h
end Go.Proofs.Ytngnplghjaojhaa

/- The document's Read (under way). -/
namespace Go.Proofs.Ytngnplghjaojhaa
set_option maxRecDepth 100000
set_option maxHeartbeats 2000000
set_option linter.unusedSimpArgs false
open Go.RowKit Go.Shelf Go.Sort
attribute [local go_sem] Oper.semAt_some wide_fn wide_depth
set_option linter.unusedVariables false
def sR6 : Nat → Gro
  | 0 => .read
  | 5 => .read
  | 7 => .grow
  | _ => .pure
theorem own_toksR {w : World} {B : Nat} {u : Value} {l : List Tk} (h : w.ownsRow B 39 3 u l.length (l.flatMap tkCells)) : Toks w u l := Sl.of_own h
theorem PatIn.extR {B : Nat} {w w' : World} {v : Value} {P : Pat} (h : PatIn B w v P) (hx : Ext w w') : PatIn B w' v P := by
  obtain ⟨av, rv, hv, e, h1, h2, h3⟩ := h
  exact ⟨av, rv, hv, e, own_ext h1 hx, own_ext h2 hx, own_ext h3 hx⟩
theorem PatAt.shape {w : World} {v : Value} {P : Pat} (h : PatAt w v P) : ∃ a1 c1 a2 c2 a3 c3, v = .agg #[.slice a1 P.atoms.length c1, .slice a2 P.ret.length c2, .bool P.count, .bool P.distinct, .bool P.limited, .int .i64 P.limit, .int .i64 P.offset, .slice a3 P.hint.length c3] := by
  obtain ⟨a1, c1, a2, c2, a3, c3, e⟩ := pat_cells h
  exact ⟨a1, c1, a2, c2, a3, c3, e⟩
theorem PatIn.atR {B : Nat} {w : World} {v : Value} {P : Pat} (h : PatIn B w v P) : PatAt w v P := by
  obtain ⟨av, rv, hv, e, h1, h2, h3⟩ := h
  exact ⟨av, rv, hv, e, Sl.of_own h1, Sl.of_own h2, Sl.of_own h3⟩
/-- What Read hands back. -/
def ReadW (w : World) (s : ByteArray) (e : Ending) (w' : World) : Prop := ∃ u P n ok r, e = .returned (.tuple #[u, .int .i64 n, .bool ok]) ∧ PatIn w.heap.size w' u P ∧ ParsR s r ∧
  (match r with | .ok P' => P = P' ∧ n = (s.size : Int) ∧ ok = true | .error e => P = noPat ∧ n = e ∧ ok = false) ∧ Ext w w'
set_option maxRecDepth 100000 in
set_option maxHeartbeats 4000000 in
theorem readR_any (s : ByteArray) (w : World) (hs : s.size ≤ 9223372036854775807) : Calls Try.prog 11 #[.string s] w (ReadW w s) := by
  have hmo : Try.prog.follows .mixedOrders = true := by kernel_rfl
  have HX := Lib.hid (Ext.alloc w (.cells #[.slice none 0 0, .slice none 0 0, .bool false, .bool false, .bool false, .int .i64 0, .int .i64 0, .slice none 0 0] 26))
  have HY := Lib.hid (RowAt.new w 26 [.slice none 0 0, .slice none 0 0, .bool false, .bool false, .bool false, .int .i64 0, .int .i64 0, .slice none 0 0])
  have HRD := Lib.hid (fun W => refRead_any s W hs)
  obtain ⟨l, a, c, hl⟩ := lexed s
  have HL := Lib.hid hl
  clear hl hs
  go_enter Try.func11, Try.ntmps11
  go_upto_region 1 with fail
  generalize w.alloc (.cells #[.slice none 0 0, .slice none 0 0, .bool false, .bool false, .bool false, .int .i64 0, .int .i64 0, .slice none 0 0] 26) = w1 at *
  obtain ⟨y0, hy0⟩ : ∃ y, w.heap.size = y := ⟨_, rfl⟩
  rw [hy0] at HY
  simp only [hy0]
  have HN := Lib.hid hy0
  have HW1 := Lib.hid (show y0 < w1.heap.size from HY.out.lt)
  clear hy0
  go_wp2_with fail
  refine (HRD.out w1).mono ?_
  rw [HL.out.1]
  rintro e w2 ⟨v, rfl, ho, hx2⟩
  dsimp only at ho ⊢
  obtain ⟨va, vc, rfl⟩ := own_vw ho
  have HO := Lib.hid ho
  replace HX := Lib.hid (HX.out.trans hx2)
  replace HY := Lib.hid (HY.out.ext hx2)
  clear ho hx2 HRD
  by_cases hc : c = 0
  · subst hc
    have hl1 := HL.out.2.1
    have HTK := Lib.hid (tokensR l va vc w2 ⟨own_toksR HO.out, fun t ht => by have := (HL.out.2.2.1 t ht).1; omega, by omega⟩)
    clear hl1
    go_wp2_with fail
    refine HTK.out.mono ?_
    rintro e w3 ⟨u, P, q, ok, rfl, hpi, ⟨r, hr, hm⟩, hx3⟩
    obtain ⟨g1, g1', g2, g2', g3, g3', rfl⟩ := hpi.atR.shape
    have HPI := Lib.hid hpi
    have HRR := Lib.hid hr
    have HMM := Lib.hid hm
    have HSZ := Lib.hid (show w.heap.size ≤ w2.heap.size from HX.out.size)
    replace HX := Lib.hid (HX.out.trans hx3)
    replace HY := Lib.hid (HY.out.ext hx3)
    have HTO := Lib.hid (show Toks w3 (.slice va l.length vc) l from (own_toksR HO.out).ext hx3)
    clear hpi hr hm hx3 HTK
    go_upto_region 5 with fail
    have hxa := Ext.alloc w3 (.cells #[.slice g1 P.atoms.length g1', .slice g2 P.ret.length g2', .bool P.count, .bool P.distinct, .bool P.limited, .int .i64 P.limit, .int .i64 P.offset, .slice g3 P.hint.length g3'] 26)
    have hra := RowAt.new w3 26 [.slice g1 P.atoms.length g1', .slice g2 P.ret.length g2', .bool P.count, .bool P.distinct, .bool P.limited, .int .i64 P.limit, .int .i64 P.offset, .slice g3 P.hint.length g3']
    have hlt := HY.out.lt
    generalize w3.alloc (.cells #[.slice g1 P.atoms.length g1', .slice g2 P.ret.length g2', .bool P.count, .bool P.distinct, .bool P.limited, .int .i64 P.limit, .int .i64 P.offset, .slice g3 P.hint.length g3'] 26) = w4 at *
    obtain ⟨y8, hy8⟩ : ∃ y, w3.heap.size = y := ⟨_, rfl⟩
    rw [hy8] at hra hlt
    simp only [hy8]
    clear hy8
    have HB8 := Lib.hid hra
    have HNE := Lib.hid hlt
    replace HX := Lib.hid (HX.out.trans hxa)
    replace HY := Lib.hid (HY.out.ext hxa)
    replace HTO := Lib.hid (HTO.out.ext hxa)
    replace HPI := Lib.hid (HPI.out.extR hxa)
    clear hxa hra hlt
    by_cases hql : q < l.length
    · have HQL := Lib.hid hql
      have hqb : (q : Int) < (l.length : Int) := by omega
      obtain ⟨b, o, hsl, t0, t1, t2⟩ := HTO.out.at_ hql
      cases hsl
      have hbl : w1.heap.size ≤ b := (own_lt HO.out rfl).1
      have HBN := Lib.hid (show b ≠ y0 by have := HW1.out; omega)
      generalize hta : l[q].at_ = ta at t2
      have HTA := Lib.hid hta
      have HT2 := Lib.hid t2
      clear hql t0 t1 t2 hbl hta
      go_upto_region 6 with fail
      refine wp_region_grox [y0] sR6 [0, 1, 2, 3, 4, 5, 6, 7, 8, 9] hmo (by kernel_rfl) rfl (by kernel_rfl) (fun _ _ _ _ _ h => h) ?_
      have hxd : Ext w4 w4.drew := Ext.drewN w4 1
      replace HX := Lib.hid (HX.out.trans hxd)
      replace HY := Lib.hid (HY.out.ext hxd)
      replace HB8 := Lib.hid (HB8.out.ext hxd)
      replace HPI := Lib.hid (HPI.out.extR hxd)
      have t2 := ext_cell hxd HT2.out
      clear hxd HT2
      generalize w4.drew = w5 at *
      have hne : ¬ y8 ∈ [y0] := by have := HNE.out; simp; omega
      have hnb : ¬ b ∈ [y0] := by have := HBN.out; simpa using this
      have hnb2 : ¬ b = y0 := HBN.out
      refine groX_load rfl rfl rfl _ _ rfl y8 0 rfl _ _ HB8.out.whole hne Try.underlying26 rfl (by kernel_rfl) ?_
      repeat (first
        | (refine groX_pure rfl rfl ?_; intro K hK; go_simp; refine hK _ ?_; clear hK K)
        | (refine groX_read rfl rfl ?_; intro K S hS hK; go_simp; refine hK _ ?_; clear hK K hS S)
        | (refine groX_read rfl rfl ?_; intro K S hS hK; go_simp; refine ⟨hS _ ?_, hK _ ?_⟩; (clear hK K hS S; intro w' hx'; have hce := grows_some hx'; go_simp); clear hK K hS S))
      refine groX_store rfl rfl rfl _ _ _ rfl y0 [.slice g1 P.atoms.length g1', .slice g2 P.ret.length g2', .bool P.count, .bool P.distinct, .bool P.limited, .int .i64 P.limit, .int .i64 P.offset, .slice g3 P.hint.length g3'] rfl rfl HY.out (by simp) (by kernel_rfl) rfl (by simp [Value.oneCell']) ?_
      have hgw := setRow_grown w5 y0 ([.slice g1 P.atoms.length g1', .slice g2 P.ret.length g2', .bool P.count, .bool P.distinct, .bool P.limited, .int .i64 P.limit, .int .i64 P.offset, .slice g3 P.hint.length g3'] : List Value).toArray
      have HPO := Lib.hid (show PatIn w.heap.size (w5.setRow y0 ([.slice g1 P.atoms.length g1', .slice g2 P.ret.length g2', .bool P.count, .bool P.distinct, .bool P.limited, .int .i64 P.limit, .int .i64 P.offset, .slice g3 P.hint.length g3'] : List Value).toArray) (.agg ([.slice g1 P.atoms.length g1', .slice g2 P.ret.length g2', .bool P.count, .bool P.distinct, .bool P.limited, .int .i64 P.limit, .int .i64 P.offset, .slice g3 P.hint.length g3'] : List Value).toArray) P by
        obtain ⟨av, rv, hv, e, h1, h2, h3⟩ := HPI.out
        exact ⟨av, rv, hv, e, own_base (own_turn h1 HY.out (by decide) hgw) HSZ.out, own_base (own_turn h2 HY.out (by decide) hgw) HSZ.out, own_base (own_turn h3 HY.out (by decide) hgw) HSZ.out⟩)
      have HY6 := Lib.hid (HY.out.setRow [.slice g1 P.atoms.length g1', .slice g2 P.ret.length g2', .bool P.count, .bool P.distinct, .bool P.limited, .int .i64 P.limit, .int .i64 P.offset, .slice g3 P.hint.length g3'])
      have HX6 := Lib.hid (show Ext w (w5.setRow y0 ([.slice g1 P.atoms.length g1', .slice g2 P.ret.length g2', .bool P.count, .bool P.distinct, .bool P.limited, .int .i64 P.limit, .int .i64 P.offset, .slice g3 P.hint.length g3'] : List Value).toArray) from below_setRow HX.out (by have := HN.out; omega) _)
      clear hgw t2 hqb
      generalize w5.setRow y0 ([.slice g1 P.atoms.length g1', .slice g2 P.ret.length g2', .bool P.count, .bool P.distinct, .bool P.limited, .int .i64 P.limit, .int .i64 P.offset, .slice g3 P.hint.length g3'] : List Value).toArray = w6 at *
      repeat (first
        | (refine groX_pure rfl rfl ?_; intro K hK; go_simp; refine hK _ ?_; clear hK K)
        | (refine groX_read rfl rfl ?_; intro K S hS hK; go_simp; refine hK _ ?_; clear hK K hS S)
        | (refine groX_read rfl rfl ?_; intro K S hS hK; go_simp; refine ⟨hS _ ?_, hK _ ?_⟩; (clear hK K hS S; intro w' hx'; have hce := grows_some hx'; go_simp); clear hK K hS S))
      refine groX_nil ?_
      go_wp2_with fail
      refine bodyPost_ret (results_row2 rfl rfl HY6.out Try.underlying26 rfl (by kernel_rfl)) rfl ?_
      refine ⟨_, P, ta, ok, tokR l s.size r, rfl, HPO.out, ?_, ?_, HX6.out⟩
      · unfold ParsR; rw [HL.out.1, if_pos rfl]; exact ⟨r, HRR.out, rfl⟩
      · have hm := HMM.out
        cases r with
        | ok P' => exact absurd hm.2.1 (by have := HQL.out; omega)
        | error e =>
          obtain ⟨m1, m2, m3⟩ := hm
          subst m2
          refine ⟨m1, ?_, m3⟩
          unfold placeOf
          rw [List.getElem?_eq_getElem HQL.out]
          exact HTA.out.symm
    · have HQL := Lib.hid hql
      have hqb : ¬ (q : Int) < (l.length : Int) := by omega
      clear hql
      go_upto_region 7 with fail
      clear hqb
      apply wp_region_lit
      refine plain_load rfl _ _ rfl y8 rfl _ _ (HB8.out) Try.underlying26 rfl (by kernel_rfl) ?_
      go_simp
      refine wpList_plain rfl fun K1 hK1 => ?_
      go_simp
      refine hK1 _ _ ?_
      clear hK1 K1
      refine wpList_plain rfl fun K1 hK1 => ?_
      go_simp
      refine hK1 _ _ ?_
      clear hK1 K1
      refine wpList_plain rfl fun K1 hK1 => ?_
      go_simp
      refine hK1 _ _ ?_
      clear hK1 K1
      refine plain_store rfl _ _ _ rfl y0 [.slice g1 P.atoms.length g1', .slice g2 P.ret.length g2', .bool P.count, .bool P.distinct, .bool P.limited, .int .i64 P.limit, .int .i64 P.offset, .slice g3 P.hint.length g3'] rfl rfl HY.out (by kernel_rfl) rfl (by simp [Value.oneCell']) ?_
      have hgw := setRow_grown w4 y0 ([.slice g1 P.atoms.length g1', .slice g2 P.ret.length g2', .bool P.count, .bool P.distinct, .bool P.limited, .int .i64 P.limit, .int .i64 P.offset, .slice g3 P.hint.length g3'] : List Value).toArray
      have HPO := Lib.hid (show PatIn w.heap.size (w4.setRow y0 ([.slice g1 P.atoms.length g1', .slice g2 P.ret.length g2', .bool P.count, .bool P.distinct, .bool P.limited, .int .i64 P.limit, .int .i64 P.offset, .slice g3 P.hint.length g3'] : List Value).toArray) (.agg ([.slice g1 P.atoms.length g1', .slice g2 P.ret.length g2', .bool P.count, .bool P.distinct, .bool P.limited, .int .i64 P.limit, .int .i64 P.offset, .slice g3 P.hint.length g3'] : List Value).toArray) P by
        obtain ⟨av, rv, hv, e, h1, h2, h3⟩ := HPI.out
        exact ⟨av, rv, hv, e, own_base (own_turn h1 HY.out (by decide) hgw) HSZ.out, own_base (own_turn h2 HY.out (by decide) hgw) HSZ.out, own_base (own_turn h3 HY.out (by decide) hgw) HSZ.out⟩)
      have HY6 := Lib.hid (HY.out.setRow [.slice g1 P.atoms.length g1', .slice g2 P.ret.length g2', .bool P.count, .bool P.distinct, .bool P.limited, .int .i64 P.limit, .int .i64 P.offset, .slice g3 P.hint.length g3'])
      have HX6 := Lib.hid (show Ext w (w4.setRow y0 ([.slice g1 P.atoms.length g1', .slice g2 P.ret.length g2', .bool P.count, .bool P.distinct, .bool P.limited, .int .i64 P.limit, .int .i64 P.offset, .slice g3 P.hint.length g3'] : List Value).toArray) from below_setRow HX.out (by have := HN.out; omega) _)
      clear hgw
      go_simp
      generalize w4.setRow y0 ([.slice g1 P.atoms.length g1', .slice g2 P.ret.length g2', .bool P.count, .bool P.distinct, .bool P.limited, .int .i64 P.limit, .int .i64 P.offset, .slice g3 P.hint.length g3'] : List Value).toArray = w6 at *
      refine wpList_plain rfl fun K1 hK1 => ?_
      go_simp
      refine hK1 _ _ ?_
      clear hK1 K1
      refine wpList_plain rfl fun K1 hK1 => ?_
      go_simp
      refine hK1 _ _ ?_
      clear hK1 K1
      apply wpList_nil
      go_wp2_with fail
      refine bodyPost_ret (results_row2 rfl rfl HY6.out Try.underlying26 rfl (by kernel_rfl)) rfl ?_
      refine ⟨_, P, s.size, ok, tokR l s.size r, rfl, HPO.out, ?_, ?_, HX6.out⟩
      · unfold ParsR; rw [HL.out.1, if_pos rfl]; exact ⟨r, HRR.out, rfl⟩
      · have hm := HMM.out
        cases r with
        | ok P' => exact ⟨hm.1, rfl, hm.2.2⟩
        | error e =>
          obtain ⟨m1, m2, m3⟩ := hm
          subst m2
          refine ⟨m1, ?_, m3⟩
          unfold placeOf
          rw [List.getElem?_eq_none (by have := HQL.out; omega)]
  · have HC := Lib.hid hc
    have hcb : (c != 0) = true := by simpa using hc
    clear hc
    obtain ⟨d0, d1, d2, d3, d4, d5, d6, d7⟩ := row8_facts HY.out
    go_upto_region 3 with fail
    clear hcb d0 d1 d2 d3 d4 d5 d6 d7
    apply wp_region_lit
    refine wpList_plain rfl fun K1 hK1 => ?_
    go_simp
    refine hK1 _ _ ?_
    clear hK1 K1
    refine wpList_plain rfl fun K1 hK1 => ?_
    go_simp
    refine hK1 _ _ ?_
    clear hK1 K1
    refine plain_store rfl _ _ _ rfl y0 [.slice none 0 0, .slice none 0 0, .bool false, .bool false, .bool false, .int .i64 0, .int .i64 0, .slice none 0 0] rfl rfl HY.out (by kernel_rfl) rfl (by simp [Value.oneCell']) ?_
    have HY6 := Lib.hid (HY.out.setRow [.slice none 0 0, .slice none 0 0, .bool false, .bool false, .bool false, .int .i64 0, .int .i64 0, .slice none 0 0])
    have HX6 := Lib.hid (show Ext w (w2.setRow y0 #[.slice none 0 0, .slice none 0 0, .bool false, .bool false, .bool false, .int .i64 0, .int .i64 0, .slice none 0 0]) from below_setRow HX.out (by have := HN.out; omega) _)
    go_simp
    generalize w2.setRow y0 #[.slice none 0 0, .slice none 0 0, .bool false, .bool false, .bool false, .int .i64 0, .int .i64 0, .slice none 0 0] = w6 at *
    refine wpList_plain rfl fun K1 hK1 => ?_
    go_simp
    refine hK1 _ _ ?_
    clear hK1 K1
    refine wpList_plain rfl fun K1 hK1 => ?_
    go_simp
    refine hK1 _ _ ?_
    clear hK1 K1
    apply wpList_nil
    go_wp2_with fail
    refine bodyPost_ret (results_row2 rfl rfl HY6.out Try.underlying26 rfl (by kernel_rfl)) rfl ?_
    refine ⟨_, noPat, a, false, .error a, rfl, ?_, ?_, ?_, HX6.out⟩
    · exact ⟨_, _, _, rfl, World.ownsRow_nil _ _ _ _, World.ownsRow_nil _ _ _ _, World.ownsRow_nil _ _ _ _⟩
    · unfold ParsR; rw [HL.out.1, if_neg HC.out]
    · exact ⟨rfl, rfl, rfl⟩
end Go.Proofs.Ytngnplghjaojhaa

/- What stays where some blocks are written. -/
namespace Go.Proofs.Ytngnplghjaojhaa
set_option maxRecDepth 100000
set_option maxHeartbeats 2000000
set_option linter.unusedSimpArgs false
open Go.RowKit
set_option linter.unusedVariables false
/-- A row of one's own stays where other blocks are written. -/
theorem own_grows {X : List Nat} {W W' : World} {B size n : Nat} {e : TypeId} {v : Value} {xs : List Value} (h : W.ownsRow B e size v n xs) (hg : Grows X W W') (hX : ∀ g, v.ownBlock = some g → g ∉ X) : W'.ownsRow B e size v n xs := by
  refine ⟨h.1, ?_⟩
  rcases h.2 with hn | ⟨g, cap, cur, rfl, hbg, hgg, rest⟩
  · exact .inl hn
  · exact .inr ⟨g, cap, cur, rfl, hbg, (hg.block g (Array.getElem?_eq_some_iff.1 hgg).1 (hX g rfl)).trans hgg, rest⟩
end Go.Proofs.Ytngnplghjaojhaa

/- A pattern spoiled by the law of layer 16: only its own blocks are written. -/
namespace Go.Proofs.Ytngnplghjaojhaa
set_option maxRecDepth 100000
set_option maxHeartbeats 2000000
set_option linter.unusedSimpArgs false
open Go.RowKit Go.Shelf Go.Sort
attribute [local go_sem] Oper.semAt_some wide_fn wide_depth
set_option linter.unusedVariables false

/-- Cells of texts, of kinds: each lies in one of the blocks X. -/
def StrX (W : World) (X : List Nat) (a : Option Addr) (n : Nat) : Prop := ∀ i, i < n → ∃ b o t, a = some ⟨b, o, none⟩ ∧ b ∈ X ∧ W.cell? ⟨b, o + i, none⟩ = some (.string t) ∧ W.frozen? ⟨b, o + i, none⟩ = false
def KndX (W : World) (X : List Nat) (a : Option Addr) (n : Nat) : Prop := ∀ i, i < n → ∃ b o, ∃ q : Int, a = some ⟨b, o, none⟩ ∧ b ∈ X ∧ W.cell? ⟨b, o + i * 7, none⟩ = some (.int .i64 q) ∧ W.frozen? ⟨b, o + i * 7, none⟩ = false
theorem own_frozenX {W : World} {B m n g c : Nat} {e : TypeId} {o : Nat} {xs : List Value} (h : W.ownsRow B e m (.slice (some ⟨g, o, none⟩) n c) n xs) : ∀ i, W.frozen? ⟨g, i, none⟩ = false := by
  intro i
  rcases h.2 with ⟨e, _⟩ | ⟨g', cap, cur, e, hb, hg, _⟩
  · cases e
  · cases e
    exact (show RowAt W g _ cur.toList by unfold RowAt; simpa using hg).frozen i
theorem StrX.of {W : World} {B n : Nat} {X : List Nat} {a : Option Addr} {c : Nat} {l : List ByteArray} (h : W.ownsRow B 9 1 (.slice a n c) n (l.map Value.string)) (hX : ∀ g, (Value.slice a n c).ownBlock = some g → g ∈ X) : StrX W X a n := fun i hi => by
  have hl : l.length = n := by have := h.1; simpa using this
  have hst : Strs W (.slice a n c) l := by unfold Strs; rw [hl]; exact Sl.of_own h
  obtain ⟨b, o, rfl, hc⟩ := Strs.at_ hst (show i < l.length by omega)
  exact ⟨b, o, _, rfl, hX b rfl, hc, own_frozenX h _⟩
theorem KndX.of {W : World} {B n : Nat} {X : List Nat} {a : Option Addr} {c : Nat} {l : List Atm} (h : W.ownsRow B 64 7 (.slice a n c) n (l.flatMap atCells)) (hX : ∀ g, (Value.slice a n c).ownBlock = some g → g ∈ X) : KndX W X a n := fun i hi => by
  have hl : l.length = n := by
    have := h.1
    rw [flatMap_len atCells 7 (fun _ => rfl) l] at this
    omega
  have hst : Ats W (.slice a n c) l := by unfold Ats; rw [hl]; exact Sl.of_own h
  obtain ⟨b, o, rfl, hc, _⟩ := Ats.at_ hst (show i < l.length by omega)
  exact ⟨b, o, _, rfl, hX b rfl, hc, own_frozenX h _⟩
theorem StrX.set {W : World} {X : List Nat} {n : Nat} {a : Option Addr} (h : StrX W X a n) (p : Addr) (s : ByteArray) : StrX (W.setCell p (.string s)) X a n := fun i hi => by
  obtain ⟨b, o, t, e, h1, h3, h5⟩ := h i hi
  by_cases hp : p = ⟨b, o + i, none⟩
  · subst hp
    exact ⟨b, o, s, e, h1, World.cell?_setCell_same _ _ _ h3, (World.frozen?_setCell _ _ _ _).trans h5⟩
  · exact ⟨b, o, t, e, h1, (World.cell?_setCell_other _ _ _ _ hp).trans h3, (World.frozen?_setCell _ _ _ _).trans h5⟩
theorem KndX.set {W : World} {X : List Nat} {n : Nat} {a : Option Addr} (h : KndX W X a n) (p : Addr) (s : Int) : KndX (W.setCell p (.int .i64 s)) X a n := fun i hi => by
  obtain ⟨b, o, t, e, h1, h3, h5⟩ := h i hi
  by_cases hp : p = ⟨b, o + i * 7, none⟩
  · subst hp
    exact ⟨b, o, s, e, h1, World.cell?_setCell_same _ _ _ h3, (World.frozen?_setCell _ _ _ _).trans h5⟩
  · exact ⟨b, o, t, e, h1, (World.cell?_setCell_other _ _ _ _ hp).trans h3, (World.frozen?_setCell _ _ _ _).trans h5⟩
theorem StrX.setK {W : World} {X : List Nat} {n : Nat} {a : Option Addr} (h : StrX W X a n) {p : Addr} {q : Int} (hp : W.cell? p = some (.int .i64 q)) (v : Value) : StrX (W.setCell p v) X a n := fun i hi => by
  obtain ⟨b, o, t, e, h1, h3, h5⟩ := h i hi
  exact ⟨b, o, t, e, h1, (World.cell?_setCell_other _ _ _ _ (fun e => by rw [e, h3] at hp; cases hp)).trans h3, (World.frozen?_setCell _ _ _ _).trans h5⟩
theorem KndX.setS {W : World} {X : List Nat} {n : Nat} {a : Option Addr} (h : KndX W X a n) {p : Addr} {q : ByteArray} (hp : W.cell? p = some (.string q)) (v : Value) : KndX (W.setCell p v) X a n := fun i hi => by
  obtain ⟨b, o, t, e, h1, h3, h5⟩ := h i hi
  exact ⟨b, o, t, e, h1, (World.cell?_setCell_other _ _ _ _ (fun e => by rw [e, h3] at hp; cases hp)).trans h3, (World.frozen?_setCell _ _ _ _).trans h5⟩
/-- What stands while a pattern is spoiled. -/
structure SpoX (w : World) (X : List Nat) (Y : Nat) (px : List Value) (a r : Option Addr) (na nr : Nat) (W : World) : Prop where
  grows : Grows X w W
  far : Y ∉ X
  row : RowAt W Y 26 px
  ca : KndX W X a na
  cr : StrX W X r nr
theorem SpoX.kind {w : World} {X : List Nat} {Y : Nat} {px : List Value} {a r : Option Addr} {na nr : Nat} {W : World} (H : SpoX w X Y px a r na nr W) {b o : Nat} {q : Int} (hc : W.cell? ⟨b, o, none⟩ = some (.int .i64 q)) (hX : b ∈ X) (s : Int) : SpoX w X Y px a r na nr (W.setCell ⟨b, o, none⟩ (.int .i64 s)) :=
  ⟨H.grows.trans (Grows.set hX _ _), H.far, Grows.row (Grows.set hX _ _) H.row H.far, H.ca.set _ _, H.cr.setK hc _⟩
theorem SpoX.text {w : World} {X : List Nat} {Y : Nat} {px : List Value} {a r : Option Addr} {na nr : Nat} {W : World} (H : SpoX w X Y px a r na nr W) {b o : Nat} {q : ByteArray} (hc : W.cell? ⟨b, o, none⟩ = some (.string q)) (hX : b ∈ X) (s : ByteArray) : SpoX w X Y px a r na nr (W.setCell ⟨b, o, none⟩ (.string s)) :=
  ⟨H.grows.trans (Grows.set hX _ _), H.far, Grows.row (Grows.set hX _ _) H.row H.far, H.ca.setS hc _, H.cr.set _ _⟩
set_option maxRecDepth 100000 in
/-- spoil: only blocks from B up to where w0 ends are written. -/
theorem spoil16_any (u : Value) (P : Pat) (B : Nat) (w0 w : World) (h0 : PatIn B w0 u P) (hx0 : Ext w0 w) :
    Calls Try.prog 13 #[u] w fun e w' => e = .returned (.tuple #[]) ∧ Grows (List.range' B (w0.heap.size - B)) w w' := by
  obtain ⟨av, rv, hv, rfl, oa, or_, oh⟩ := h0
  have hx1 := Ext.alloc w (.cells (patL av rv hv P).toArray 26)
  have hb0 : RowAt (w.alloc (.cells (patL av rv hv P).toArray 26)) w.heap.size 26 (patL av rv hv P) := RowAt.new _ _ _
  have hin : ∀ {e : TypeId} {m n : Nat} {v : Value} {xs : List Value}, w0.ownsRow B e m v n xs → ∀ g, v.ownBlock = some g → g ∈ List.range' B (w0.heap.size - B) := fun h g hg => by
    have := own_lt h hg
    rw [List.mem_range'_1]; omega
  have hfar : w.heap.size ∉ List.range' B (w0.heap.size - B) := fun h => by
    rw [List.mem_range'_1] at h
    have := hx0.size
    omega
  obtain ⟨a, ac, rfl⟩ := own_vw oa
  obtain ⟨r, rc, rfl⟩ := own_vw or_
  obtain ⟨z, zc, rfl⟩ := own_vw oh
  obtain ⟨_, _, e, hac, hac2⟩ := Sl.shape (Sl.of_own oa)
  cases e
  obtain ⟨_, _, e, hrc, hrc2⟩ := Sl.shape (Sl.of_own or_)
  cases e
  have h1 : P.atoms.length ≤ 9223372036854775807 := by omega
  have h2 : P.ret.length ≤ 9223372036854775807 := by omega
  clear hac2 hrc2
  have ca := KndX.of (own_ext (own_ext oa hx0) hx1) (hin oa)
  have cr := StrX.of (own_ext (own_ext or_ hx0) hx1) (hin or_)
  generalize List.range' B (w0.heap.size - B) = X at *
  unfold patL at hb0 ca cr hx1
  have HS := Lib.hid (show SpoX w X w.heap.size [.slice a P.atoms.length ac, .slice r P.ret.length rc, .bool P.count, .bool P.distinct, .bool P.limited, .int .i64 P.limit, .int .i64 P.offset, .slice z P.hint.length zc] a r P.atoms.length P.ret.length (w.alloc (.cells #[.slice a P.atoms.length ac, .slice r P.ret.length rc, .bool P.count, .bool P.distinct, .bool P.limited, .int .i64 P.limit, .int .i64 P.offset, .slice z P.hint.length zc] 26)) from ⟨Grows.ext hx1, hfar, hb0, ca, cr⟩)
  unfold patV patL
  clear hx0 hx1 hb0 ca cr hfar hin oa or_ oh
  go_enter Try.func13, Try.ntmps13
  go_upto_region 1 with fail
  generalize w.alloc _ = w1 at *
  generalize w.heap.size = y0 at *
  have k0 := HS.out.row.cell (i := 0) rfl
  go_upto_region 2 with fail
  clear k0
  go_loopg [7] P.atoms.length (fun g i wr => ∃ k : Nat, k ≤ P.atoms.length ∧ g = P.atoms.length - k ∧ i = .int .i64 k ∧ SpoX w X y0 [.slice a P.atoms.length ac, .slice r P.ret.length rc, .bool P.count, .bool P.distinct, .bool P.limited, .int .i64 P.limit, .int .i64 P.offset, .slice z P.hint.length zc] a r P.atoms.length P.ret.length wr)
  case atStart => exact ⟨0, Nat.zero_le _, rfl, rfl, HS.out⟩
  case round =>
    obtain ⟨k, hk, hg, rfl, hs⟩ := hrel
    have Hg := Lib.hid hg
    have HS1 := Lib.hid hs
    clear hg hs HS
    have k0 := HS1.out.row.cell (i := 0) rfl
    by_cases hlt : k < P.atoms.length
    · obtain ⟨b, o, q, rfl, hb1, c0, f0⟩ := HS1.out.ca k hlt
      have HN := Lib.hid (HS1.out.kind c0 hb1 0)
      clear hb1
      go_wp2_with fail
      go_roundg (P.atoms.length - (k + 1))
      case measure => have := Hg.out; omega
      case rel => exact ⟨k + 1, by omega, rfl, by go_num, HN.out⟩
    · have he : k = P.atoms.length := by omega
      have k1 := HS1.out.row.cell (i := 1) rfl
      subst he
      clear Hg
      have he := 0
      go_upto_region 7 with fail
      clear k0 k1 he
      go_loopg [19] P.ret.length (fun g i wr => ∃ k : Nat, k ≤ P.ret.length ∧ g = P.ret.length - k ∧ i = .int .i64 k ∧ SpoX w X y0 [.slice a P.atoms.length ac, .slice r P.ret.length rc, .bool P.count, .bool P.distinct, .bool P.limited, .int .i64 P.limit, .int .i64 P.offset, .slice z P.hint.length zc] a r P.atoms.length P.ret.length wr)
      case atStart => exact ⟨0, Nat.zero_le _, rfl, rfl, HS1.out⟩
      case round =>
        obtain ⟨k, hk, hg, rfl, hs⟩ := hrel
        have Hg := Lib.hid hg
        have HS2 := Lib.hid hs
        clear hg hs HS1
        have k0 := HS2.out.row.cell (i := 1) rfl
        by_cases hlt : k < P.ret.length
        · obtain ⟨b, o, q, rfl, hb1, c0, f0⟩ := HS2.out.cr k hlt
          have HN := Lib.hid (HS2.out.text c0 hb1 (⟨#[]⟩ : ByteArray))
          clear hb1
          go_wp2_with fail
          go_roundg (P.ret.length - (k + 1))
          case measure => have := Hg.out; omega
          case rel => exact ⟨k + 1, by omega, rfl, by go_num, HN.out⟩
        · have HE := Lib.hid HS2.out.grows
          go_wp2_with fail
          go_end0
          exact ⟨rfl, HE.out⟩
end Go.Proofs.Ytngnplghjaojhaa

/- Guarded operations in a plain region: wanted, or not. -/
namespace Go.Proofs.Ytngnplghjaojhaa
set_option maxRecDepth 100000
set_option maxHeartbeats 2000000
set_option linter.unusedSimpArgs false
open Go.RowKit Go.Sort
set_option linter.unusedVariables false
theorem wpList_yes {P : Program} {ops : Array Oper} {rest : List Oper} {o : Oper} {a : Act} {w : World} {Q : Exit → Act → World → Prop} (hw : Region.wanted o (yielded ops a.tmps) = true)
    (h : ∀ K : Act → World → Prop, (∀ a w, wpList P ops Q rest a w → K a w) → o.wp P a w K Q) : wpList P ops Q (o :: rest) a w :=
  wpList_step fun K hK => by rw [if_pos hw]; exact h K hK
theorem wpList_not {P : Program} {ops : Array Oper} {rest : List Oper} {o : Oper} {a : Act} {w : World} {Q : Exit → Act → World → Prop} (hw : Region.wanted o (yielded ops a.tmps) = false)
    (h : wpList P ops Q rest (a.put o.dst undef) w) : wpList P ops Q (o :: rest) a w :=
  wpList_step fun K hK => by rw [if_neg (by rw [hw]; decide)]; exact hK _ _ h
end Go.Proofs.Ytngnplghjaojhaa

/- An argument that is a row of rows of tokens. -/
namespace Go.Proofs.Ytngnplghjaojhaa
set_option maxRecDepth 100000
set_option maxHeartbeats 2000000
set_option linter.unusedSimpArgs false
open Go.ChangeShapes Go.WideShapes Go.ChangeAt Go.RowKit Go.Deep
set_option linter.unusedVariables false

/-- Rows of tokens in memory. -/
def TkRows (w : World) (v : Value) (xs : List (Value × List Tk)) : Prop := Sl w v xs.length (xs.map Prod.fst) ∧ ∀ x ∈ xs, Toks w x.1 x.2
theorem TkRows.ext {w w' : World} {v : Value} {xs : List (Value × List Tk)} (h : TkRows w v xs) (hx : Ext w w') : TkRows w' v xs := ⟨Sl.ext h.1 hx, fun x hm => (h.2 x hm).ext hx⟩
theorem TkRows.at_ {w : World} {a : Option Addr} {n c : Nat} {xs : List (Value × List Tk)} (h : TkRows w (.slice a n c) xs) {k : Nat} (hk : k < xs.length) : (∃ b o, a = some ⟨b, o, none⟩ ∧ w.cell? ⟨b, o + k, none⟩ = some xs[k].1) ∧ Toks w xs[k].1 xs[k].2 := by
  obtain ⟨a', c', e, h1⟩ := id h.1
  simp only [Value.slice.injEq] at e
  obtain ⟨_, rfl, _⟩ := e
  obtain ⟨b, o, rfl, hc⟩ := Sl.at_ h.1 (by simpa using hk : k < (xs.map Prod.fst).length)
  exact ⟨⟨b, o, rfl, by simpa using hc⟩, h.2 _ (List.getElem_mem hk)⟩
theorem threeT {α : Type} {cs : List α} (h : cs.length = 3) : ∃ c0 c1 c2, cs = [c0, c1, c2] := by
  match cs, h with
  | [c0, c1, c2], _ => exact ⟨c0, c1, c2, rfl⟩
theorem open_tokN {H : Type} {enc : TypeId × Value → H} {w : World} {base : Nat} {spare : Nat → Bool} {held : Bool} {m : Nat} {cs : List Value} {z : DataW H × List MemPlace}
    (h : DataW.trod enc Try.prog w base spare held m 39 cs = some z) (hl : Light Try.prog 39 z.1) : ∃ t : Tk, cs = tkCells t ∧ t.text.size ≤ reachBytes := by
  obtain ⟨xs, n, _, hz, hlc, hlen, hf⟩ := DataW.trod_struct Try.underlying39 h
  rw [show Try.prog.cellsOf 39 = 3 from by kernel_rfl] at hlc
  obtain ⟨c0, c1, c2, rfl⟩ := threeT hlc
  have hlen' : xs.length = 3 := hlen
  obtain ⟨x0, x1, x2, rfl⟩ := threeT hlen'
  have h0 : DataW.trod enc Try.prog w base spare held n 3 [c0] = some x0 := hf 0 _ rfl
  have h1 : DataW.trod enc Try.prog w base spare held n 9 [c1] = some x1 := hf 1 _ rfl
  have h2 : DataW.trod enc Try.prog w base spare held n 3 [c2] = some x2 := hf 2 _ rfl
  rw [hz] at hl
  have l1 : Light Try.prog 9 x1.1 := light_part (i := 1) Try.underlying39 hl rfl rfl
  obtain ⟨q0, e0, _, _⟩ := DataW.trod_int Try.underlying3 h0
  obtain ⟨s1, e1, z1, _⟩ := DataW.trod_string Try.underlying9 h1
  obtain ⟨q2, e2, _, _⟩ := DataW.trod_int Try.underlying3 h2
  simp at e0 e1 e2
  subst e0 e1 e2
  rw [z1] at l1
  exact ⟨⟨q0, s1, q2⟩, rfl, light_str l1⟩
theorem open_toksN {H : Type} {enc : TypeId × Value → H} {w : World} {base : Nat} {spare : Nat → Bool} {held : Bool} {m : Nat} {v : Value} {z : DataW H × List MemPlace}
    (h : DataW.trod enc Try.prog w base spare held m 36 [v] = some z) (hl : Light Try.prog 36 z.1) : ∃ l, Toks w v l ∧ ∀ t ∈ l, t.text.size ≤ reachBytes := by
  have hC : Try.prog.cellsOf 39 = 3 := by kernel_rfl
  rcases open_slice Try.underlying36 h with ⟨hcs, _⟩ | ⟨x, len, cap, m, n, D, Pl, hcs, _, hlc, hm, hz, hx, hcell⟩
  · simp at hcs
    subst hcs
    exact ⟨[], Sl.nil w, fun t ht => by simp at ht⟩
  · simp at hcs
    subst hcs
    have hlm : len ≤ m := by split at hz <;> omega
    rw [hx] at hl
    rw [hC] at hcell
    obtain ⟨xs, hx1, hx2⟩ := choose_row len (fun i (t : Tk) => (∀ j v, (tkCells t)[j]? = some v → w.cell? (x.add (i * 3 + j)) = some v) ∧ t.text.size ≤ reachBytes) (fun i hi => by
      obtain ⟨cs', hc, ht⟩ := hcell i (by omega)
      obtain ⟨a, rfl, hn⟩ := open_tokN ht (light_elem Try.underlying36 hl (List.mem_map.2 ⟨i, by simpa using hi, rfl⟩))
      obtain ⟨_, hcl, hat⟩ := World.cells?_some hc
      refine ⟨a, fun j v hj => ?_, hn⟩
      have hjl : j < 3 := (List.getElem?_eq_some_iff.1 hj).1
      have := hat j hjl
      rw [Go.Deep.add_add] at this
      rw [this, hj])
    refine ⟨xs, ?_, fun t ht => ?_⟩
    · have := sl_of_rows (w := w) (x := x) tkCells (m := 3) (fun _ => rfl) (by omega) hlc hm xs hx1 (fun i hi j v hj => (hx2 i hi).1 j v hj)
      unfold Toks; rw [hx1]; exact this
    · obtain ⟨i, hi, rfl⟩ := List.getElem_of_mem ht
      exact (hx2 i hi).2
theorem open_tkrows {H : Type} {enc : TypeId × Value → H} {w : World} {M : Reach} {base base' : Nat} {spare : Nat → Bool} {held : Bool} {v : Value} {d : DataW H} {p : List MemPlace}
    (ho : Value.okWide Try.prog w M base' 35 v) (h : DataW.Trod enc Try.prog w base spare held 35 v d p) (hl : Light Try.prog 35 d) :
    ∃ xs : List (Value × List Tk), TkRows w v xs ∧ ∀ x ∈ xs, ∀ t ∈ x.2, t.text.size ≤ reachBytes := by
  obtain ⟨a0, len0, cap0, rfl⟩ := okWide_slice Try.underlying35 ho
  obtain ⟨fuel, hf⟩ := h
  have hf' : DataW.trod enc Try.prog w base spare held fuel 35 [.slice a0 len0 cap0] = some (d, p) := by simpa [Value.cells] using hf
  have hC : Try.prog.cellsOf 36 = 1 := by kernel_rfl
  rcases open_slice Try.underlying35 hf' with ⟨hcs, _⟩ | ⟨x, len, cap, m, n, D, Pl, hcs, _, hlc, hm, hz, hx, hcell⟩
  · simp at hcs
    obtain ⟨rfl, rfl, rfl⟩ := hcs
    exact ⟨[], ⟨Sl.nil w, fun t ht => by cases ht⟩, fun t ht => by cases ht⟩
  · simp at hcs
    obtain ⟨rfl, rfl, rfl⟩ := hcs
    have hlm : len0 ≤ m := by split at hz <;> omega
    obtain ⟨rfl, _⟩ := Prod.mk.inj hx
    rw [hC] at hcell
    obtain ⟨xs, hx1, hx2⟩ := choose_row len0 (fun i (t : Value × List Tk) => (∀ j v, [t.1][j]? = some v → w.cell? (x.add (i * 1 + j)) = some v) ∧ Toks w t.1 t.2 ∧ ∀ u ∈ t.2, u.text.size ≤ reachBytes) (fun i hi => by
      obtain ⟨cs', hc, ht⟩ := hcell i (by omega)
      obtain ⟨_, hcl, hat⟩ := World.cells?_some hc
      obtain ⟨c0, rfl⟩ : ∃ c, cs' = [c] := by
        match cs', hcl with
        | [c], _ => exact ⟨c, rfl⟩
      obtain ⟨l, hn1, hn2⟩ := open_toksN ht (light_elem Try.underlying35 hl (List.mem_map.2 ⟨i, by simpa using hi, rfl⟩))
      refine ⟨(c0, l), fun j v hj => ?_, hn1, hn2⟩
      have hjl : j < 1 := (List.getElem?_eq_some_iff.1 hj).1
      have := hat j hjl
      rw [Go.Deep.add_add] at this
      rw [this, hj])
    refine ⟨xs, ⟨?_, fun t ht => ?_⟩, fun t ht => ?_⟩
    · have := sl_of_rows (w := w) (x := x) (fun (t : Value × List Tk) => [t.1]) (m := 1) (fun _ => rfl) (by omega) hlc hm xs hx1 (fun i hi j v hj => (hx2 i hi).1 j v hj)
      rw [hx1]
      rwa [show xs.flatMap (fun t => [t.1]) = xs.map Prod.fst from by rw [List.map_eq_flatMap]] at this
    · obtain ⟨i, hi, rfl⟩ := List.getElem_of_mem ht
      exact (hx2 i hi).2.1
    · obtain ⟨i, hi, rfl⟩ := List.getElem_of_mem ht
      exact (hx2 i hi).2.2
end Go.Proofs.Ytngnplghjaojhaa
