/- ParseReads: the walk. -/
import Derived.Test.YtngnplghjaojhaaGp25
import Derived.Test.YtngnplghjaojhaaGp36
import Derived.Test.YtngnplghjaojhaaGp00
namespace Go.Proofs.Ytngnplghjaojhaa
set_option maxRecDepth 100000
set_option maxHeartbeats 2000000
set_option linter.unusedSimpArgs false
open Go.RowKit Go.Shelf Go.Sort
attribute [local go_sem] Oper.semAt_some wide_fn wide_depth
set_option linter.unusedVariables false

/-- A pattern of the call's own, with its shape. -/
theorem PatIn.cut {B : Nat} {w : World} {v : Value} {Q : Pat} (h : PatIn B w v Q) : ∃ a1 c1 a2 c2 a3 c3, v = .agg #[.slice a1 Q.atoms.length c1, .slice a2 Q.ret.length c2, .bool Q.count, .bool Q.distinct, .bool Q.limited, .int .i64 Q.limit, .int .i64 Q.offset, .slice a3 Q.hint.length c3] := by
  obtain ⟨av, rv, hv, rfl, h1, h2, h3⟩ := h
  obtain ⟨a1, c1, rfl⟩ := own_vw h1
  obtain ⟨a2, c2, rfl⟩ := own_vw h2
  obtain ⟨a3, c3, rfl⟩ := own_vw h3
  exact ⟨_, _, _, _, _, _, rfl⟩
theorem PatIn.noV (B : Nat) (w : World) : PatIn B w pnoV zPat := ⟨_, _, _, rfl, World.ownsRow_nil _ _ _ _, World.ownsRow_nil _ _ _ _, World.ownsRow_nil _ _ _ _⟩
theorem parse_I (s : ByteArray) (w : World) (hs : s.size ≤ 9223372036854775807) :
    Calls Try.prog 10 #[.string s] w fun e w' => ∃ r Q n c a1 c1 a2 c2 a3 c3, ParsR s r ∧ PResIs s r Q n c ∧
      e = .returned (.tuple #[.agg #[.slice a1 Q.atoms.length c1, .slice a2 Q.ret.length c2, .bool Q.count, .bool Q.distinct, .bool Q.limited, .int .i64 Q.limit, .int .i64 Q.offset, .slice a3 Q.hint.length c3], .int .i64 n, .int .i64 c]) ∧ PatIn w.heap.size w' (.agg #[.slice a1 Q.atoms.length c1, .slice a2 Q.ret.length c2, .bool Q.count, .bool Q.distinct, .bool Q.limited, .int .i64 Q.limit, .int .i64 Q.offset, .slice a3 Q.hint.length c3]) Q ∧ Ext w w' := by
  refine (parse_any s w hs).mono ?_
  rintro e w' ⟨r, hr, hx, hm⟩
  cases r with
  | ok P =>
    obtain ⟨v, rfl, hp⟩ := hm
    obtain ⟨a1, c1, a2, c2, a3, c3, rfl⟩ := hp.cut
    exact ⟨_, P, _, _, a1, c1, a2, c2, a3, c3, hr, .inl ⟨rfl, rfl, rfl, hr.okB⟩, rfl, hp, hx⟩
  | error q =>
    subst hm
    exact ⟨_, zPat, _, _, none, 0, none, 0, none, 0, hr, .inr ⟨rfl, rfl, rfl⟩, rfl, PatIn.noV _ _, hx⟩
/-- What the document's Read hands back, with its shape. -/
theorem readR_I (s : ByteArray) (w : World) (hs : s.size ≤ 9223372036854775807) :
    Calls Try.prog 11 #[.string s] w fun e w' => ∃ r Q n b a1 c1 a2 c2 a3 c3, ParsR s r ∧ ((r = .ok Q ∧ n = (s.size : Int) ∧ b = true) ∨ (r = .error n ∧ Q = zPat ∧ b = false)) ∧
      e = .returned (.tuple #[.agg #[.slice a1 Q.atoms.length c1, .slice a2 Q.ret.length c2, .bool Q.count, .bool Q.distinct, .bool Q.limited, .int .i64 Q.limit, .int .i64 Q.offset, .slice a3 Q.hint.length c3], .int .i64 n, .bool b]) ∧ PatIn w.heap.size w' (.agg #[.slice a1 Q.atoms.length c1, .slice a2 Q.ret.length c2, .bool Q.count, .bool Q.distinct, .bool Q.limited, .int .i64 Q.limit, .int .i64 Q.offset, .slice a3 Q.hint.length c3]) Q ∧ Ext w w' := by
  refine (readR_any s w hs).mono ?_
  rintro e w' ⟨u, P, n, ok, r, rfl, hp, hr, hm, hx⟩
  obtain ⟨a1, c1, a2, c2, a3, c3, rfl⟩ := hp.cut
  refine ⟨r, P, n, ok, a1, c1, a2, c2, a3, c3, hr, ?_, rfl, hp, hx⟩
  cases r with
  | ok P' => obtain ⟨e1, e2, e3⟩ := hm; exact .inl ⟨by rw [e1], e2, e3⟩
  | error q' => obtain ⟨e1, e2, e3⟩ := hm; exact .inr ⟨by rw [e2], e1, e3⟩
/-- What is one's own stays where only older blocks are written. -/
theorem PatIn.grows {B : Nat} {X : List Nat} {w w' : World} {v : Value} {P : Pat} (h : PatIn B w v P) (hg : Grows X w w') (hX : ∀ g ∈ X, g < B) : PatIn B w' v P := by
  obtain ⟨av, rv, hv, e, h1, h2, h3⟩ := h
  have k : ∀ {e : TypeId} {m n : Nat} {v : Value} {xs : List Value}, w.ownsRow B e m v n xs → w'.ownsRow B e m v n xs := fun h => own_grows h hg (fun g hb hm => by
    have h1 := (own_lt h hb).1
    have h2 := hX g hm
    omega)
  exact ⟨av, rv, hv, e, k h1, k h2, k h3⟩
/-- Only newer blocks are written. -/
theorem Grows.below {X : List Nat} {B : Nat} {w w' : World} (h : Grows X w w') (hX : ∀ g ∈ X, B ≤ g) (hB : B ≤ w.heap.size) : Below B w w' :=
  ⟨h.os, h.tape, h.output, h.size, fun i hi => h.block i (by omega) (fun hm => by have := hX i hm; omega)⟩
set_option maxRecDepth 100000 in
set_option maxHeartbeats 4000000 in
theorem preads_walk (v0 : Value) (ss : List ByteArray) (w : World) (h0 : Strs w v0 ss ∧ ∀ s ∈ ss, s.size ≤ 9223372036854775807) :
    Calls Try.prog 3 #[v0] w fun e w' => e = .returned (.bool true) ∧ Ext w w' := by
  obtain ⟨hX, _⟩ := h0
  obtain ⟨xa, xc, rfl, hxc, hxm⟩ := Sl.shape hX
  have HXS := Lib.hid hX
  clear hX
  go_enter Try.func3, Try.ntmps3
  go_wp2_with fail
  refine (wakesP_any _).mono ?_
  rintro e w1 ⟨rfl, hx1⟩
  have HX1 := Lib.hid hx1
  clear hx1
  go_wp2_with fail
  go_loopg [3, 4, 18] ss.length (fun g s3 s4 i wr => ∃ k : Nat, k ≤ ss.length ∧ g = ss.length - k ∧ i = .int .i64 k ∧ Hid (Ext w1 wr))
  case atStart => exact ⟨0, Nat.zero_le _, rfl, rfl, Lib.hid (Ext.refl _)⟩
  case round =>
    obtain ⟨k, hk, hg, rfl, HXR⟩ := hrel
    have Hg := Lib.hid hg
    clear hg
    by_cases hlt : k < ss.length
    · obtain ⟨b, o, rfl, c0⟩ := (Strs.ext HXS.out (HX1.out.trans HXR.out)).at_ hlt
      generalize ss[k] = s0 at *
      by_cases h6 : k = 6
      · have hb6 : ((k : Int) == 6) = true := by rw [h6]; rfl
        clear h6
        go_wp2_with fail
        go_ret
        exact ⟨rfl, HX1.out.trans HXR.out⟩
      · have hb6 : ((k : Int) == 6) = false := by simp; omega
        clear h6
        obtain ⟨m, S, hm, hS, hSm, hcut⟩ := cut_text s0 510 510 rfl
        have HPI := Lib.hid (fun w' => parse_I S w' (by omega))
        have HRI := Lib.hid (fun w' => readR_I S w' (by omega))
        clear hS hSm
        go_upto_region 8 with fail
        clear c0 hcut hm
        apply wp_region_lit
        refine wpList_plain rfl fun K1 hK1 => ?_
        go_simp
        refine hK1 _ _ ?_
        clear hK1 K1
        refine wpList_plain rfl fun K1 hK1 => ?_
        go_simp
        refine (HPI.out wr).mono ?_
        rintro e w2 ⟨rA, QA, nA, cA, pA, pA', qA, qA', sA, sA', hrA, hiA, rfl, hpA, hxA⟩
        have HRA := Lib.hid hrA
        have HIA := Lib.hid hiA
        have HPA := Lib.hid hpA
        clear hrA hiA hpA
        -- behind a call of Read: its results, the box of the pattern: w2 the world before, w3 the world behind, bA the box's name, [.slice pA QA.atoms.length pA', .slice qA QA.ret.length qA', .bool QA.count, .bool QA.distinct, .bool QA.limited, .int .i64 QA.limit, .int .i64 QA.offset, .slice sA QA.hint.length sA'] its cells
        go_simp
        refine hK1 _ _ ?_
        clear hK1 K1
        refine wpList_plain rfl fun K1 hK1 => ?_
        go_simp
        refine hK1 _ _ ?_
        clear hK1 K1
        refine wpList_plain rfl fun K1 hK1 => ?_
        go_simp
        refine hK1 _ _ ?_
        clear hK1 K1
        refine wpList_plain rfl fun K1 hK1 => ?_
        go_simp
        refine hK1 _ _ ?_
        clear hK1 K1
        refine wpList_plain rfl fun K1 hK1 => ?_
        go_simp
        refine hK1 _ _ ?_
        clear hK1 K1
        refine wpList_plain rfl fun K1 hK1 => ?_
        go_simp
        refine hK1 _ _ ?_
        clear hK1 K1
        have hxb := Ext.alloc w2 (.cells #[.slice none 0 0, .slice none 0 0, .bool false, .bool false, .bool false, .int .i64 0, .int .i64 0, .slice none 0 0] 26)
        have hnb : RowAt (w2.alloc (.cells #[.slice none 0 0, .slice none 0 0, .bool false, .bool false, .bool false, .int .i64 0, .int .i64 0, .slice none 0 0] 26)) w2.heap.size 26 [.slice none 0 0, .slice none 0 0, .bool false, .bool false, .bool false, .int .i64 0, .int .i64 0, .slice none 0 0] := RowAt.new _ _ _
        refine plain_store rfl _ _ _ rfl w2.heap.size [.slice pA QA.atoms.length pA', .slice qA QA.ret.length qA', .bool QA.count, .bool QA.distinct, .bool QA.limited, .int .i64 QA.limit, .int .i64 QA.offset, .slice sA QA.hint.length sA'] rfl rfl hnb (by kernel_rfl) rfl (by simp [Value.oneCell']) ?_
        have hxs : Ext w2 ((w2.alloc (.cells #[.slice none 0 0, .slice none 0 0, .bool false, .bool false, .bool false, .int .i64 0, .int .i64 0, .slice none 0 0] 26)).setRow w2.heap.size ([.slice pA QA.atoms.length pA', .slice qA QA.ret.length qA', .bool QA.count, .bool QA.distinct, .bool QA.limited, .int .i64 QA.limit, .int .i64 QA.offset, .slice sA QA.hint.length sA']).toArray) := below_setRow hxb (Nat.le_refl _) _
        have HNbA := Lib.hid (hnb.setRow [.slice pA QA.atoms.length pA', .slice qA QA.ret.length qA', .bool QA.count, .bool QA.distinct, .bool QA.limited, .int .i64 QA.limit, .int .i64 QA.offset, .slice sA QA.hint.length sA'])
        have HEbA := Lib.hid hxs
        clear hxb hnb hxs
        generalize (w2.alloc (.cells #[.slice none 0 0, .slice none 0 0, .bool false, .bool false, .bool false, .int .i64 0, .int .i64 0, .slice none 0 0] 26)).setRow w2.heap.size ([.slice pA QA.atoms.length pA', .slice qA QA.ret.length qA', .bool QA.count, .bool QA.distinct, .bool QA.limited, .int .i64 QA.limit, .int .i64 QA.offset, .slice sA QA.hint.length sA']).toArray = w3 at *
        obtain ⟨bA, hbA⟩ : ∃ z, w2.heap.size = z := ⟨_, rfl⟩
        rw [hbA] at HNbA
        simp only [hbA]
        have HSbA := Lib.hid hbA
        clear hbA
        go_simp
        refine wpList_plain rfl fun K1 hK1 => ?_
        go_simp
        refine hK1 _ _ ?_
        clear hK1 K1
        refine wpList_plain rfl fun K1 hK1 => ?_
        go_simp
        refine hK1 _ _ ?_
        clear hK1 K1
        apply wpList_nil
        have HXA := Lib.hid hxA
        have HX3 := Lib.hid (hxA.trans HEbA.out)
        have HE3 := Lib.hid HEbA.out
        clear hxA HEbA
        go_upto_region 9 with fail
        apply wp_region_lit
        refine wpList_plain rfl fun K1 hK1 => ?_
        go_simp
        refine hK1 _ _ ?_
        clear hK1 K1
        refine wpList_plain rfl fun K1 hK1 => ?_
        go_simp
        refine (HRI.out w3).mono ?_
        rintro e w6 ⟨rB, QB, nB, okB, pB, pB', qB, qB', sB, sB', hrB, hiB, rfl, hpB, hxB⟩
        have HRB := Lib.hid hrB
        have HIB := Lib.hid hiB
        have HPB := Lib.hid hpB
        clear hrB hiB hpB HRI
        -- behind a call of Read: its results, the box of the pattern: w6 the world before, w7 the world behind, bB the box's name, [.slice pB QB.atoms.length pB', .slice qB QB.ret.length qB', .bool QB.count, .bool QB.distinct, .bool QB.limited, .int .i64 QB.limit, .int .i64 QB.offset, .slice sB QB.hint.length sB'] its cells
        go_simp
        refine hK1 _ _ ?_
        clear hK1 K1
        refine wpList_plain rfl fun K1 hK1 => ?_
        go_simp
        refine hK1 _ _ ?_
        clear hK1 K1
        refine wpList_plain rfl fun K1 hK1 => ?_
        go_simp
        refine hK1 _ _ ?_
        clear hK1 K1
        refine wpList_plain rfl fun K1 hK1 => ?_
        go_simp
        refine hK1 _ _ ?_
        clear hK1 K1
        refine wpList_plain rfl fun K1 hK1 => ?_
        go_simp
        refine hK1 _ _ ?_
        clear hK1 K1
        refine wpList_plain rfl fun K1 hK1 => ?_
        go_simp
        refine hK1 _ _ ?_
        clear hK1 K1
        have hxb := Ext.alloc w6 (.cells #[.slice none 0 0, .slice none 0 0, .bool false, .bool false, .bool false, .int .i64 0, .int .i64 0, .slice none 0 0] 26)
        have hnb : RowAt (w6.alloc (.cells #[.slice none 0 0, .slice none 0 0, .bool false, .bool false, .bool false, .int .i64 0, .int .i64 0, .slice none 0 0] 26)) w6.heap.size 26 [.slice none 0 0, .slice none 0 0, .bool false, .bool false, .bool false, .int .i64 0, .int .i64 0, .slice none 0 0] := RowAt.new _ _ _
        refine plain_store rfl _ _ _ rfl w6.heap.size [.slice pB QB.atoms.length pB', .slice qB QB.ret.length qB', .bool QB.count, .bool QB.distinct, .bool QB.limited, .int .i64 QB.limit, .int .i64 QB.offset, .slice sB QB.hint.length sB'] rfl rfl hnb (by kernel_rfl) rfl (by simp [Value.oneCell']) ?_
        have hxs : Ext w6 ((w6.alloc (.cells #[.slice none 0 0, .slice none 0 0, .bool false, .bool false, .bool false, .int .i64 0, .int .i64 0, .slice none 0 0] 26)).setRow w6.heap.size ([.slice pB QB.atoms.length pB', .slice qB QB.ret.length qB', .bool QB.count, .bool QB.distinct, .bool QB.limited, .int .i64 QB.limit, .int .i64 QB.offset, .slice sB QB.hint.length sB']).toArray) := below_setRow hxb (Nat.le_refl _) _
        have HNbB := Lib.hid (hnb.setRow [.slice pB QB.atoms.length pB', .slice qB QB.ret.length qB', .bool QB.count, .bool QB.distinct, .bool QB.limited, .int .i64 QB.limit, .int .i64 QB.offset, .slice sB QB.hint.length sB'])
        have HEbB := Lib.hid hxs
        clear hxb hnb hxs
        generalize (w6.alloc (.cells #[.slice none 0 0, .slice none 0 0, .bool false, .bool false, .bool false, .int .i64 0, .int .i64 0, .slice none 0 0] 26)).setRow w6.heap.size ([.slice pB QB.atoms.length pB', .slice qB QB.ret.length qB', .bool QB.count, .bool QB.distinct, .bool QB.limited, .int .i64 QB.limit, .int .i64 QB.offset, .slice sB QB.hint.length sB']).toArray = w7 at *
        obtain ⟨bB, hbB⟩ : ∃ z, w6.heap.size = z := ⟨_, rfl⟩
        rw [hbB] at HNbB
        simp only [hbB]
        have HSbB := Lib.hid hbB
        clear hbB
        go_simp
        refine wpList_plain rfl fun K1 hK1 => ?_
        go_simp
        refine hK1 _ _ ?_
        clear hK1 K1
        refine wpList_plain rfl fun K1 hK1 => ?_
        go_simp
        refine hK1 _ _ ?_
        clear hK1 K1
        apply wpList_nil
        have hx7 := hxB.trans HEbB.out
        have HX7 := Lib.hid (HX3.out.trans hx7)
        have HE7 := Lib.hid (HE3.out.trans hx7)
        have HB7 := Lib.hid (HNbA.out.ext hx7)
        have HLB := Lib.hid (show w2.heap.size ≤ bB by have h1 := HSbB.out; have h2 := HE3.out.size; have h3 := hxB.size; omega)
        replace HPB := Lib.hid (PatIn.extR HPB.out HEbB.out)
        have hall : QB = QA ∧ nB = nA ∧ ((cA = 0 ∧ okB = true) ∨ (cA = 260 ∧ okB = false)) ∧ QA.atoms.length ≤ 1000000000 := by
          have hs := HRA.out.same HRB.out
          subst hs
          have hf : QA.Fits := by
            rcases HIA.out with ⟨_, _, _, h⟩ | ⟨_, h, _⟩
            · exact okB_fits h
            · rw [h]; exact zPat_fits
          have hf2 : QA.atoms.length ≤ 1000000000 := by have := hf.2; omega
          rcases HIA.out with ⟨e1, e2, e3, _⟩ | ⟨e1, e2, e3⟩
          · rcases HIB.out with ⟨g1, g2, g3⟩ | ⟨g1, _⟩
            · rw [e1] at g1; cases g1
              exact ⟨rfl, by rw [g2, e2], .inl ⟨e3, g3⟩, hf2⟩
            · rw [e1] at g1; cases g1
          · rcases HIB.out with ⟨g1, _⟩ | ⟨g1, g2, g3⟩
            · rw [e1] at g1; cases g1
            · rw [e1] at g1; cases g1
              exact ⟨by rw [g2, e2], rfl, .inr ⟨e3, g3⟩, hf2⟩
        obtain ⟨rfl, rfl, hcb, hfew⟩ := hall
        have HFW := Lib.hid hfew
        have hsm := same16_any _ _ QB QB w7 (PatIn.extR HPA.out HE7.out).atR HPB.out.atR hfew hfew
        rw [(sameB_iff QB QB).2 rfl] at hsm
        have HSM := Lib.hid hsm
        clear hx7 hxB HEbB HRA HIA hfew hsm HX3 HNbA HSbA HSbB HXA
        have n1 : (nB != nB) = false := by simp
        clear hb6
        go_upto_region 10 with fail
        rcases hcb with ⟨rfl, rfl⟩ | ⟨rfl, rfl⟩
        · apply wp_region_lit
          refine wpList_plain rfl fun K1 hK1 => ?_
          go_simp
          refine hK1 _ _ ?_
          clear hK1 K1
          refine wpList_plain rfl fun K1 hK1 => ?_
          go_simp
          refine hK1 _ _ ?_
          clear hK1 K1
          refine wpList_plain rfl fun K1 hK1 => ?_
          go_simp
          refine hK1 _ _ ?_
          clear hK1 K1
          refine wpList_plain rfl fun K1 hK1 => ?_
          go_simp
          refine hK1 _ _ ?_
          clear hK1 K1
          refine wpList_plain rfl fun K1 hK1 => ?_
          go_simp
          refine hK1 _ _ ?_
          clear hK1 K1
          -- a guarded operation whose guard holds
          refine wpList_yes (by first | rfl | decide | kernel_rfl) fun K1 hK1 => ?_
          go_simp
          refine hK1 _ _ ?_
          clear hK1 K1
          -- a guarded operation whose guard holds
          refine wpList_yes (by first | rfl | decide | kernel_rfl) fun K1 hK1 => ?_
          go_simp
          refine hK1 _ _ ?_
          clear hK1 K1
          -- a guarded operation whose guard holds
          refine wpList_yes (by first | rfl | decide | kernel_rfl) fun K1 hK1 => ?_
          go_simp
          refine hK1 _ _ ?_
          clear hK1 K1
          -- a guarded operation whose guard does not hold
          refine wpList_not (by first | rfl | decide | kernel_rfl) ?_
          go_simp
          -- a guarded operation whose guard does not hold
          refine wpList_not (by first | rfl | decide | kernel_rfl) ?_
          go_simp
          -- a guarded operation whose guard holds
          refine wpList_yes (by first | rfl | decide | kernel_rfl) fun K1 hK1 => ?_
          go_simp
          refine hK1 _ _ ?_
          clear hK1 K1
          refine wpList_plain rfl fun K1 hK1 => ?_
          go_simp
          refine hK1 _ _ ?_
          clear hK1 K1
          refine wpList_plain rfl fun K1 hK1 => ?_
          go_simp
          refine hK1 _ _ ?_
          clear hK1 K1
          -- a guarded operation whose guard holds
          refine wpList_yes (by first | rfl | decide | kernel_rfl) fun K1 hK1 => ?_
          go_simp
          refine hK1 _ _ ?_
          clear hK1 K1
          -- a guarded operation whose guard holds
          refine wpList_yes (by first | rfl | decide | kernel_rfl) fun K1 hK1 => ?_
          go_simp
          refine hK1 _ _ ?_
          clear hK1 K1
          -- a guarded operation whose guard holds
          refine wpList_yes (by first | rfl | decide | kernel_rfl) fun K1 hK1 => ?_
          go_simp
          refine hK1 _ _ ?_
          clear hK1 K1
          refine wpList_plain rfl fun K1 hK1 => ?_
          go_simp
          refine hK1 _ _ ?_
          clear hK1 K1
          refine wpList_plain rfl fun K1 hK1 => ?_
          go_simp
          refine hK1 _ _ ?_
          clear hK1 K1
          -- a guarded load of a whole row, whose guard holds: bA block, HB7.out fact RowAt, api.Pattern the type's name
          refine wpList_yes (by first | rfl | decide | kernel_rfl) fun K1 hK1 => ?_
          refine wp_load_mid _ _ rfl bA 0 rfl _ _ (HB7.out).whole Try.underlying26 rfl (by kernel_rfl) ?_
          refine hK1 _ _ ?_
          clear hK1 K1
          go_simp
          -- a guarded load of a whole row, whose guard holds: bB block, HNbB.out fact RowAt, api.Pattern the type's name
          refine wpList_yes (by first | rfl | decide | kernel_rfl) fun K1 hK1 => ?_
          refine wp_load_mid _ _ rfl bB 0 rfl _ _ (HNbB.out).whole Try.underlying26 rfl (by kernel_rfl) ?_
          refine hK1 _ _ ?_
          clear hK1 K1
          go_simp
          -- a guarded call whose guard holds: refine HSM.out.mono ?_; rintro e w8 ⟨rfl, hx8⟩ the contract taken, and its results named
          refine wpList_yes (by first | rfl | decide | kernel_rfl) fun K1 hK1 => ?_
          go_simp
          refine HSM.out.mono ?_; rintro e w8 ⟨rfl, hx8⟩
          go_simp
          refine hK1 _ _ ?_
          clear hK1 K1
          -- a guarded operation whose guard holds
          refine wpList_yes (by first | rfl | decide | kernel_rfl) fun K1 hK1 => ?_
          go_simp
          refine hK1 _ _ ?_
          clear hK1 K1
          refine wpList_plain rfl fun K1 hK1 => ?_
          go_simp
          refine hK1 _ _ ?_
          clear hK1 K1
          apply wpList_nil
          -- ParseReads behind its first comparison: spoiled, and read anew
          have HX8 := Lib.hid ((HXR.out.trans HX7.out).trans hx8)
          have HE8 := Lib.hid (HE7.out.trans hx8)
          have HB8 := Lib.hid (HB7.out.ext hx8)
          have HN8 := Lib.hid (HNbB.out.ext hx8)
          have HP8 := Lib.hid (PatIn.extR HPB.out hx8)
          have HSP := Lib.hid (spoil16_any _ QB wr.heap.size w2 w8 HPA.out HE8.out)
          clear hx8 HB7 HNbB HPB HPA HSM HX7 HE7
          go_upto_region 12 with fail
          apply wp_region_lit
          -- a load of a whole row: bA block, HB8.out fact RowAt, api.Pattern the type's name
          refine plain_load rfl _ _ rfl bA rfl _ _ (HB8.out) Try.underlying26 rfl (by kernel_rfl) ?_
          go_simp
          -- a call in a plain region: refine HSP.out.mono ?_; rintro e w9 ⟨rfl, hgr⟩ the contract taken, and its results named
          refine wpList_plain rfl fun K1 hK1 => ?_
          go_simp
          refine HSP.out.mono ?_; rintro e w9 ⟨rfl, hgr⟩
          go_simp
          refine hK1 _ _ ?_
          clear hK1 K1
          apply wpList_nil
          have HLO : Hid (∀ g ∈ List.range' wr.heap.size (w2.heap.size - wr.heap.size), wr.heap.size ≤ g ∧ g < w2.heap.size) := Lib.hid (fun g h => by rw [List.mem_range'_1] at h; omega)
          have HN9 := Lib.hid (Grows.row hgr HN8.out (fun h => by have h1 := (HLO.out _ h).2; have h2 := HLB.out; omega))
          have HP9 := Lib.hid (PatIn.grows HP8.out hgr (fun g h => by have h1 := (HLO.out g h).2; have h2 := HE3.out.size; omega))
          have HX9 := Lib.hid (show Ext w1 w9 from Below.trans HX8.out (Grows.below hgr (fun g h => by have h1 := (HLO.out g h).1; have h2 := HXR.out.size; omega) HX8.out.size))
          clear hgr HLO HN8 HP8 HX8 HE8 HB8 HSP
          go_upto_region 13 with fail
          apply wp_region_lit
          refine wpList_plain rfl fun K1 hK1 => ?_
          go_simp
          refine hK1 _ _ ?_
          clear hK1 K1
          refine wpList_plain rfl fun K1 hK1 => ?_
          go_simp
          refine (HPI.out w9).mono ?_
          rintro e w10 ⟨rC, QC, nC, cC, pC, pC', qC, qC', sC, sC', hrC, hiC, rfl, hpC, hxC⟩
          obtain rfl : QC = QB := by
            have hs := HRB.out.same hrC
            subst hs
            rcases hiC with ⟨e1, _⟩ | ⟨e1, e2, _⟩
            · rcases HIB.out with ⟨g1, _⟩ | ⟨g1, _⟩
              · rw [e1] at g1; cases g1; rfl
              · rw [e1] at g1; cases g1
            · rcases HIB.out with ⟨g1, _⟩ | ⟨g1, g2, _⟩
              · rw [e1] at g1; cases g1
              · rw [e2, g2]
          have HPC := Lib.hid hpC
          clear hrC hiC hpC HPI
          -- behind a call of Read: its results, the box of the pattern: w10 the world before, w11 the world behind, bC the box's name, [.slice pC QC.atoms.length pC', .slice qC QC.ret.length qC', .bool QC.count, .bool QC.distinct, .bool QC.limited, .int .i64 QC.limit, .int .i64 QC.offset, .slice sC QC.hint.length sC'] its cells
          go_simp
          refine hK1 _ _ ?_
          clear hK1 K1
          refine wpList_plain rfl fun K1 hK1 => ?_
          go_simp
          refine hK1 _ _ ?_
          clear hK1 K1
          refine wpList_plain rfl fun K1 hK1 => ?_
          go_simp
          refine hK1 _ _ ?_
          clear hK1 K1
          refine wpList_plain rfl fun K1 hK1 => ?_
          go_simp
          refine hK1 _ _ ?_
          clear hK1 K1
          refine wpList_plain rfl fun K1 hK1 => ?_
          go_simp
          refine hK1 _ _ ?_
          clear hK1 K1
          refine wpList_plain rfl fun K1 hK1 => ?_
          go_simp
          refine hK1 _ _ ?_
          clear hK1 K1
          have hxb := Ext.alloc w10 (.cells #[.slice none 0 0, .slice none 0 0, .bool false, .bool false, .bool false, .int .i64 0, .int .i64 0, .slice none 0 0] 26)
          have hnb : RowAt (w10.alloc (.cells #[.slice none 0 0, .slice none 0 0, .bool false, .bool false, .bool false, .int .i64 0, .int .i64 0, .slice none 0 0] 26)) w10.heap.size 26 [.slice none 0 0, .slice none 0 0, .bool false, .bool false, .bool false, .int .i64 0, .int .i64 0, .slice none 0 0] := RowAt.new _ _ _
          refine plain_store rfl _ _ _ rfl w10.heap.size [.slice pC QC.atoms.length pC', .slice qC QC.ret.length qC', .bool QC.count, .bool QC.distinct, .bool QC.limited, .int .i64 QC.limit, .int .i64 QC.offset, .slice sC QC.hint.length sC'] rfl rfl hnb (by kernel_rfl) rfl (by simp [Value.oneCell']) ?_
          have hxs : Ext w10 ((w10.alloc (.cells #[.slice none 0 0, .slice none 0 0, .bool false, .bool false, .bool false, .int .i64 0, .int .i64 0, .slice none 0 0] 26)).setRow w10.heap.size ([.slice pC QC.atoms.length pC', .slice qC QC.ret.length qC', .bool QC.count, .bool QC.distinct, .bool QC.limited, .int .i64 QC.limit, .int .i64 QC.offset, .slice sC QC.hint.length sC']).toArray) := below_setRow hxb (Nat.le_refl _) _
          have HNbC := Lib.hid (hnb.setRow [.slice pC QC.atoms.length pC', .slice qC QC.ret.length qC', .bool QC.count, .bool QC.distinct, .bool QC.limited, .int .i64 QC.limit, .int .i64 QC.offset, .slice sC QC.hint.length sC'])
          have HEbC := Lib.hid hxs
          clear hxb hnb hxs
          generalize (w10.alloc (.cells #[.slice none 0 0, .slice none 0 0, .bool false, .bool false, .bool false, .int .i64 0, .int .i64 0, .slice none 0 0] 26)).setRow w10.heap.size ([.slice pC QC.atoms.length pC', .slice qC QC.ret.length qC', .bool QC.count, .bool QC.distinct, .bool QC.limited, .int .i64 QC.limit, .int .i64 QC.offset, .slice sC QC.hint.length sC']).toArray = w11 at *
          obtain ⟨bC, hbC⟩ : ∃ z, w10.heap.size = z := ⟨_, rfl⟩
          rw [hbC] at HNbC
          simp only [hbC]
          have HSbC := Lib.hid hbC
          clear hbC
          go_simp
          refine wpList_plain rfl fun K1 hK1 => ?_
          go_simp
          refine hK1 _ _ ?_
          clear hK1 K1
          refine wpList_plain rfl fun K1 hK1 => ?_
          go_simp
          refine hK1 _ _ ?_
          clear hK1 K1
          apply wpList_nil
          have hx11 := hxC.trans HEbC.out
          have HX11 := Lib.hid (HX9.out.trans hx11)
          have HN11 := Lib.hid (HN9.out.ext hx11)
          have hsm := same16_any _ _ QC QC w11 (PatIn.extR HPC.out HEbC.out).atR (PatIn.extR HP9.out hx11).atR HFW.out HFW.out
          rw [(sameB_iff QC QC).2 rfl] at hsm
          have HSM := Lib.hid hsm
          clear hsm hx11 hxC HEbC HPC HP9 HN9 HX9
          go_upto_region 14 with fail
          apply wp_region_lit
          -- a load of a whole row: bC block, HNbC.out fact RowAt, api.Pattern the type's name
          refine plain_load rfl _ _ rfl bC rfl _ _ (HNbC.out) Try.underlying26 rfl (by kernel_rfl) ?_
          go_simp
          -- a load of a whole row: bB block, HN11.out fact RowAt, api.Pattern the type's name
          refine plain_load rfl _ _ rfl bB rfl _ _ (HN11.out) Try.underlying26 rfl (by kernel_rfl) ?_
          go_simp
          -- a call in a plain region: refine HSM.out.mono ?_; rintro e w12 ⟨rfl, hx12⟩ the contract taken, and its results named
          refine wpList_plain rfl fun K1 hK1 => ?_
          go_simp
          refine HSM.out.mono ?_; rintro e w12 ⟨rfl, hx12⟩
          go_simp
          refine hK1 _ _ ?_
          clear hK1 K1
          refine wpList_plain rfl fun K1 hK1 => ?_
          go_simp
          refine hK1 _ _ ?_
          clear hK1 K1
          apply wpList_nil
          have HX12 := Lib.hid (HX11.out.trans hx12)
          clear hx12 HX11 HSM HNbC HN11 HIB HRB
          go_wp2_with fail
          go_roundg (ss.length - (k + 1))
          case measure => have := Hg.out; omega
          case rel => exact ⟨k + 1, by omega, rfl, by first | rfl | go_num, HX12⟩
        · apply wp_region_lit
          refine wpList_plain rfl fun K1 hK1 => ?_
          go_simp
          refine hK1 _ _ ?_
          clear hK1 K1
          refine wpList_plain rfl fun K1 hK1 => ?_
          go_simp
          refine hK1 _ _ ?_
          clear hK1 K1
          refine wpList_plain rfl fun K1 hK1 => ?_
          go_simp
          refine hK1 _ _ ?_
          clear hK1 K1
          refine wpList_plain rfl fun K1 hK1 => ?_
          go_simp
          refine hK1 _ _ ?_
          clear hK1 K1
          refine wpList_plain rfl fun K1 hK1 => ?_
          go_simp
          refine hK1 _ _ ?_
          clear hK1 K1
          -- a guarded operation whose guard holds
          refine wpList_yes (by first | rfl | decide | kernel_rfl) fun K1 hK1 => ?_
          go_simp
          refine hK1 _ _ ?_
          clear hK1 K1
          -- a guarded operation whose guard holds
          refine wpList_yes (by first | rfl | decide | kernel_rfl) fun K1 hK1 => ?_
          go_simp
          refine hK1 _ _ ?_
          clear hK1 K1
          -- a guarded operation whose guard holds
          refine wpList_yes (by first | rfl | decide | kernel_rfl) fun K1 hK1 => ?_
          go_simp
          refine hK1 _ _ ?_
          clear hK1 K1
          -- a guarded operation whose guard holds
          refine wpList_yes (by first | rfl | decide | kernel_rfl) fun K1 hK1 => ?_
          go_simp
          refine hK1 _ _ ?_
          clear hK1 K1
          -- a guarded operation whose guard holds
          refine wpList_yes (by first | rfl | decide | kernel_rfl) fun K1 hK1 => ?_
          go_simp
          refine hK1 _ _ ?_
          clear hK1 K1
          -- a guarded operation whose guard holds
          refine wpList_yes (by first | rfl | decide | kernel_rfl) fun K1 hK1 => ?_
          go_simp
          refine hK1 _ _ ?_
          clear hK1 K1
          refine wpList_plain rfl fun K1 hK1 => ?_
          go_simp
          refine hK1 _ _ ?_
          clear hK1 K1
          refine wpList_plain rfl fun K1 hK1 => ?_
          go_simp
          refine hK1 _ _ ?_
          clear hK1 K1
          -- a guarded operation whose guard holds
          refine wpList_yes (by first | rfl | decide | kernel_rfl) fun K1 hK1 => ?_
          go_simp
          refine hK1 _ _ ?_
          clear hK1 K1
          -- a guarded operation whose guard holds
          refine wpList_yes (by first | rfl | decide | kernel_rfl) fun K1 hK1 => ?_
          go_simp
          refine hK1 _ _ ?_
          clear hK1 K1
          -- a guarded operation whose guard holds
          refine wpList_yes (by first | rfl | decide | kernel_rfl) fun K1 hK1 => ?_
          go_simp
          refine hK1 _ _ ?_
          clear hK1 K1
          refine wpList_plain rfl fun K1 hK1 => ?_
          go_simp
          refine hK1 _ _ ?_
          clear hK1 K1
          refine wpList_plain rfl fun K1 hK1 => ?_
          go_simp
          refine hK1 _ _ ?_
          clear hK1 K1
          -- a guarded load of a whole row, whose guard holds: bA block, HB7.out fact RowAt, api.Pattern the type's name
          refine wpList_yes (by first | rfl | decide | kernel_rfl) fun K1 hK1 => ?_
          refine wp_load_mid _ _ rfl bA 0 rfl _ _ (HB7.out).whole Try.underlying26 rfl (by kernel_rfl) ?_
          refine hK1 _ _ ?_
          clear hK1 K1
          go_simp
          -- a guarded load of a whole row, whose guard holds: bB block, HNbB.out fact RowAt, api.Pattern the type's name
          refine wpList_yes (by first | rfl | decide | kernel_rfl) fun K1 hK1 => ?_
          refine wp_load_mid _ _ rfl bB 0 rfl _ _ (HNbB.out).whole Try.underlying26 rfl (by kernel_rfl) ?_
          refine hK1 _ _ ?_
          clear hK1 K1
          go_simp
          -- a guarded call whose guard holds: refine HSM.out.mono ?_; rintro e w8 ⟨rfl, hx8⟩ the contract taken, and its results named
          refine wpList_yes (by first | rfl | decide | kernel_rfl) fun K1 hK1 => ?_
          go_simp
          refine HSM.out.mono ?_; rintro e w8 ⟨rfl, hx8⟩
          go_simp
          refine hK1 _ _ ?_
          clear hK1 K1
          -- a guarded operation whose guard holds
          refine wpList_yes (by first | rfl | decide | kernel_rfl) fun K1 hK1 => ?_
          go_simp
          refine hK1 _ _ ?_
          clear hK1 K1
          refine wpList_plain rfl fun K1 hK1 => ?_
          go_simp
          refine hK1 _ _ ?_
          clear hK1 K1
          apply wpList_nil
          -- ParseReads behind its first comparison: spoiled, and read anew
          have HX8 := Lib.hid ((HXR.out.trans HX7.out).trans hx8)
          have HE8 := Lib.hid (HE7.out.trans hx8)
          have HB8 := Lib.hid (HB7.out.ext hx8)
          have HN8 := Lib.hid (HNbB.out.ext hx8)
          have HP8 := Lib.hid (PatIn.extR HPB.out hx8)
          have HSP := Lib.hid (spoil16_any _ QB wr.heap.size w2 w8 HPA.out HE8.out)
          clear hx8 HB7 HNbB HPB HPA HSM HX7 HE7
          go_upto_region 12 with fail
          apply wp_region_lit
          -- a load of a whole row: bA block, HB8.out fact RowAt, api.Pattern the type's name
          refine plain_load rfl _ _ rfl bA rfl _ _ (HB8.out) Try.underlying26 rfl (by kernel_rfl) ?_
          go_simp
          -- a call in a plain region: refine HSP.out.mono ?_; rintro e w9 ⟨rfl, hgr⟩ the contract taken, and its results named
          refine wpList_plain rfl fun K1 hK1 => ?_
          go_simp
          refine HSP.out.mono ?_; rintro e w9 ⟨rfl, hgr⟩
          go_simp
          refine hK1 _ _ ?_
          clear hK1 K1
          apply wpList_nil
          have HLO : Hid (∀ g ∈ List.range' wr.heap.size (w2.heap.size - wr.heap.size), wr.heap.size ≤ g ∧ g < w2.heap.size) := Lib.hid (fun g h => by rw [List.mem_range'_1] at h; omega)
          have HN9 := Lib.hid (Grows.row hgr HN8.out (fun h => by have h1 := (HLO.out _ h).2; have h2 := HLB.out; omega))
          have HP9 := Lib.hid (PatIn.grows HP8.out hgr (fun g h => by have h1 := (HLO.out g h).2; have h2 := HE3.out.size; omega))
          have HX9 := Lib.hid (show Ext w1 w9 from Below.trans HX8.out (Grows.below hgr (fun g h => by have h1 := (HLO.out g h).1; have h2 := HXR.out.size; omega) HX8.out.size))
          clear hgr HLO HN8 HP8 HX8 HE8 HB8 HSP
          go_upto_region 13 with fail
          apply wp_region_lit
          refine wpList_plain rfl fun K1 hK1 => ?_
          go_simp
          refine hK1 _ _ ?_
          clear hK1 K1
          refine wpList_plain rfl fun K1 hK1 => ?_
          go_simp
          refine (HPI.out w9).mono ?_
          rintro e w10 ⟨rC, QC, nC, cC, pC, pC', qC, qC', sC, sC', hrC, hiC, rfl, hpC, hxC⟩
          obtain rfl : QC = QB := by
            have hs := HRB.out.same hrC
            subst hs
            rcases hiC with ⟨e1, _⟩ | ⟨e1, e2, _⟩
            · rcases HIB.out with ⟨g1, _⟩ | ⟨g1, _⟩
              · rw [e1] at g1; cases g1; rfl
              · rw [e1] at g1; cases g1
            · rcases HIB.out with ⟨g1, _⟩ | ⟨g1, g2, _⟩
              · rw [e1] at g1; cases g1
              · rw [e2, g2]
          have HPC := Lib.hid hpC
          clear hrC hiC hpC HPI
          -- behind a call of Read: its results, the box of the pattern: w10 the world before, w11 the world behind, bC the box's name, [.slice pC QC.atoms.length pC', .slice qC QC.ret.length qC', .bool QC.count, .bool QC.distinct, .bool QC.limited, .int .i64 QC.limit, .int .i64 QC.offset, .slice sC QC.hint.length sC'] its cells
          go_simp
          refine hK1 _ _ ?_
          clear hK1 K1
          refine wpList_plain rfl fun K1 hK1 => ?_
          go_simp
          refine hK1 _ _ ?_
          clear hK1 K1
          refine wpList_plain rfl fun K1 hK1 => ?_
          go_simp
          refine hK1 _ _ ?_
          clear hK1 K1
          refine wpList_plain rfl fun K1 hK1 => ?_
          go_simp
          refine hK1 _ _ ?_
          clear hK1 K1
          refine wpList_plain rfl fun K1 hK1 => ?_
          go_simp
          refine hK1 _ _ ?_
          clear hK1 K1
          refine wpList_plain rfl fun K1 hK1 => ?_
          go_simp
          refine hK1 _ _ ?_
          clear hK1 K1
          have hxb := Ext.alloc w10 (.cells #[.slice none 0 0, .slice none 0 0, .bool false, .bool false, .bool false, .int .i64 0, .int .i64 0, .slice none 0 0] 26)
          have hnb : RowAt (w10.alloc (.cells #[.slice none 0 0, .slice none 0 0, .bool false, .bool false, .bool false, .int .i64 0, .int .i64 0, .slice none 0 0] 26)) w10.heap.size 26 [.slice none 0 0, .slice none 0 0, .bool false, .bool false, .bool false, .int .i64 0, .int .i64 0, .slice none 0 0] := RowAt.new _ _ _
          refine plain_store rfl _ _ _ rfl w10.heap.size [.slice pC QC.atoms.length pC', .slice qC QC.ret.length qC', .bool QC.count, .bool QC.distinct, .bool QC.limited, .int .i64 QC.limit, .int .i64 QC.offset, .slice sC QC.hint.length sC'] rfl rfl hnb (by kernel_rfl) rfl (by simp [Value.oneCell']) ?_
          have hxs : Ext w10 ((w10.alloc (.cells #[.slice none 0 0, .slice none 0 0, .bool false, .bool false, .bool false, .int .i64 0, .int .i64 0, .slice none 0 0] 26)).setRow w10.heap.size ([.slice pC QC.atoms.length pC', .slice qC QC.ret.length qC', .bool QC.count, .bool QC.distinct, .bool QC.limited, .int .i64 QC.limit, .int .i64 QC.offset, .slice sC QC.hint.length sC']).toArray) := below_setRow hxb (Nat.le_refl _) _
          have HNbC := Lib.hid (hnb.setRow [.slice pC QC.atoms.length pC', .slice qC QC.ret.length qC', .bool QC.count, .bool QC.distinct, .bool QC.limited, .int .i64 QC.limit, .int .i64 QC.offset, .slice sC QC.hint.length sC'])
          have HEbC := Lib.hid hxs
          clear hxb hnb hxs
          generalize (w10.alloc (.cells #[.slice none 0 0, .slice none 0 0, .bool false, .bool false, .bool false, .int .i64 0, .int .i64 0, .slice none 0 0] 26)).setRow w10.heap.size ([.slice pC QC.atoms.length pC', .slice qC QC.ret.length qC', .bool QC.count, .bool QC.distinct, .bool QC.limited, .int .i64 QC.limit, .int .i64 QC.offset, .slice sC QC.hint.length sC']).toArray = w11 at *
          obtain ⟨bC, hbC⟩ : ∃ z, w10.heap.size = z := ⟨_, rfl⟩
          rw [hbC] at HNbC
          simp only [hbC]
          have HSbC := Lib.hid hbC
          clear hbC
          go_simp
          refine wpList_plain rfl fun K1 hK1 => ?_
          go_simp
          refine hK1 _ _ ?_
          clear hK1 K1
          refine wpList_plain rfl fun K1 hK1 => ?_
          go_simp
          refine hK1 _ _ ?_
          clear hK1 K1
          apply wpList_nil
          have hx11 := hxC.trans HEbC.out
          have HX11 := Lib.hid (HX9.out.trans hx11)
          have HN11 := Lib.hid (HN9.out.ext hx11)
          have hsm := same16_any _ _ QC QC w11 (PatIn.extR HPC.out HEbC.out).atR (PatIn.extR HP9.out hx11).atR HFW.out HFW.out
          rw [(sameB_iff QC QC).2 rfl] at hsm
          have HSM := Lib.hid hsm
          clear hsm hx11 hxC HEbC HPC HP9 HN9 HX9
          go_upto_region 14 with fail
          apply wp_region_lit
          -- a load of a whole row: bC block, HNbC.out fact RowAt, api.Pattern the type's name
          refine plain_load rfl _ _ rfl bC rfl _ _ (HNbC.out) Try.underlying26 rfl (by kernel_rfl) ?_
          go_simp
          -- a load of a whole row: bB block, HN11.out fact RowAt, api.Pattern the type's name
          refine plain_load rfl _ _ rfl bB rfl _ _ (HN11.out) Try.underlying26 rfl (by kernel_rfl) ?_
          go_simp
          -- a call in a plain region: refine HSM.out.mono ?_; rintro e w12 ⟨rfl, hx12⟩ the contract taken, and its results named
          refine wpList_plain rfl fun K1 hK1 => ?_
          go_simp
          refine HSM.out.mono ?_; rintro e w12 ⟨rfl, hx12⟩
          go_simp
          refine hK1 _ _ ?_
          clear hK1 K1
          refine wpList_plain rfl fun K1 hK1 => ?_
          go_simp
          refine hK1 _ _ ?_
          clear hK1 K1
          apply wpList_nil
          have HX12 := Lib.hid (HX11.out.trans hx12)
          clear hx12 HX11 HSM HNbC HN11 HIB HRB
          go_wp2_with fail
          go_roundg (ss.length - (k + 1))
          case measure => have := Hg.out; omega
          case rel => exact ⟨k + 1, by omega, rfl, by first | rfl | go_num, HX12⟩
    · have he : k = ss.length := by omega
      subst he
      go_wp2_with fail
      go_ret
      exact ⟨rfl, HX1.out.trans HXR.out⟩
end Go.Proofs.Ytngnplghjaojhaa
