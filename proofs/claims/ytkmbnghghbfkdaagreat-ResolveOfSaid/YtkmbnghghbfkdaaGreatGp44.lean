/- The goal of a pattern, led back, and with more names: plain. -/
import Derived.Test.YtkmbnghghbfkdaaGreatGp34
import Derived.Test.YtkmbnghghbfkdaaGreatGp39
import Derived.Test.YtkmbnghghbfkdaaGreatGp24
import Derived.Test.YtkmbnghghbfkdaaGreatGp27
import Derived.Test.YtkmbnghghbfkdaaGreatGp43
import Derived.Test.YtkmbnghghbfkdaaGreatGp21
import Derived.Test.YtkmbnghghbfkdaaGreatGp13
import Derived.Test.YtkmbnghghbfkdaaGreatGp17
set_option linter.unusedSimpArgs false
set_option linter.unusedVariables false
set_option maxHeartbeats 2000000
set_option maxRecDepth 100000

namespace Go.Proofs.YtkmbnghghbfkdaaGreat
theorem preF_short {α β : Type} {f : α → Option β} {l : List α} (hl : (preF f l).2 = false) : (preF f l).1.length < l.length := by
 induction l with
 | nil => cases hl
 | cons a l ih =>
  cases hf : f a with
  | none => simp [preF, hf]
  | some b =>
   simp only [preF, hf] at hl ⊢
   have := ih hl
   simp only [List.length_cons]
   omega
theorem goalF_some {D : Dic} {P : Pat} {G : Gol} (h : goalF D P = some G) : (bndsF D (varsS P.atoms) P.atoms).2 = true ∧ G = golOf P (bndsF D (varsS P.atoms) P.atoms).1 := by
 unfold goalF at h
 split at h
 ·rename_i hb; cases h; exact ⟨hb, rfl⟩
 ·cases h
theorem OfR.zero {D : Dic} {P : Pat} {G : Gol} {n c : Int} (h : OfR D P G n c) (hc : c = 0) : DicOK D ∧ P.okB = true ∧ goalF D P = some G ∧ n = P.atoms.length := by
 cases h with
 | dict h => omega
 | pat h h' => omega
 | unk h h' hg => omega
 | ok h h' hg => exact ⟨h, h', by unfold goalF; rw [if_pos hg], rfl⟩
theorem OfR.of {D : Dic} {P : Pat} {G0 : Gol} (hok : DicOK D) (hp : P.okB = true) (hg0 : goalF D P = some G0) {G : Gol} {n c : Int} (h : OfR D P G n c) : G = G0 ∧ n = P.atoms.length ∧ c = 0 := by
 obtain ⟨b1, b2⟩ := goalF_some hg0
 cases h with
 | dict h => exact absurd hok h
 | pat h h' => rw [hp] at h'; cases h'
 | unk h h' hg => rw [b1] at hg; cases hg
 | ok h h' hg => exact ⟨b2.symm, rfl, rfl⟩
theorem OfR.bad {D : Dic} {P : Pat} {G : Gol} {n c : Int} (h : OfR D P G n c) (hc : c ≠ 0) : G.atoms.length = 0 ∧ ((c = 280) ↔ 0 < n) ∧ n ≤ P.atoms.length := by
 cases h with
 | dict h => exact ⟨rfl, by omega, by omega⟩
 | pat h h' => exact ⟨rfl, by omega, by omega⟩
 | unk h h' hg =>
  have := preF_short (f := bndF D (varsS P.atoms)) (l := P.atoms) hg
  exact ⟨rfl, ⟨fun _ => by omega, fun _ => rfl⟩, by unfold bndsF; omega⟩
 | ok h h' hg => exact absurd rfl hc
end Go.Proofs.YtkmbnghghbfkdaaGreat

/- Several structs are made by calls, each kept in a box of its own, in one statement: whatever order the calls, the boxes and the stores come in. No program in sight. -/
namespace Go.Proofs.YtkmbnghghbfkdaaGreat
open Go.RowKit Go.Sort
section
variable {n : Nat} {w0 : World} {V : Nat → Value} {O : Nat → World → Value → Prop} {T : Nat → TypeId} {z : Nat → List Value} {S : Nat → Bool} {us : List Value} {W : World}
end
end Go.Proofs.YtkmbnghghbfkdaaGreat

/- A dictionary and a pattern of the law's own, each in a box. -/
namespace Go.Proofs.YtkmbnghghbfkdaaGreat
open Go.RowKit Go.Shelf Go.Sort
attribute [local go_sem] Oper.semAt_some wide_fn wide_depth
theorem PatOwn.ext {B : Nat} {w w' : World} {v : Value} {P : Pat} (h : PatOwn B w v P) (hx : Ext w w') : PatOwn B w' v P := by
 obtain ⟨av, rv, hv, e, h1, h2, h3⟩ := h
 exact ⟨av, rv, hv, e, own_ext h1 hx, own_ext h2 hx, own_ext h3 hx⟩
theorem PatOwn.at_ {B : Nat} {W : World} {v : Value} {P : Pat} (h : PatOwn B W v P) : PatAt W v P := by
 obtain ⟨av, rv, hv, e, h1, h2, h3⟩ := h
 exact ⟨av, rv, hv, e, Sl.of_own h1, Sl.of_own h2, Sl.of_own h3⟩
theorem PatOwn.shape {B : Nat} {W : World} {v : Value} {P : Pat} (h : PatOwn B W v P) : ∃ a1 c1 a2 c2 a3 c3, v = patV (.slice a1 P.atoms.length c1) (.slice a2 P.ret.length c2) (.slice a3 P.hint.length c3) P := by
 obtain ⟨av, rv, hv, rfl, h1, h2, h3⟩ := h
 obtain ⟨a1, c1, rfl⟩ := own_vw h1
 obtain ⟨a2, c2, rfl⟩ := own_vw h2
 obtain ⟨a3, c3, rfl⟩ := own_vw h3
 exact ⟨_, _, _, _, _, _, rfl⟩
theorem GolIn.shape {B : Nat} {W : World} {v : Value} {G : Gol} (h : GolIn B W v G) : ∃ a1 c1 a2 c2 a3 c3 a4 c4, v = golV (.slice a1 G.vars.length c1) (.slice a2 G.atoms.length c2) (.slice a3 G.ret.length c3) (.slice a4 G.hint.length c4) G := by
 obtain ⟨vv, av, rv, hv, rfl, h1, h2, h3, h4⟩ := h
 obtain ⟨a1, c1, rfl⟩ := own_vw h1
 obtain ⟨a2, c2, rfl⟩ := own_vw h2
 obtain ⟨a3, c3, rfl⟩ := own_vw h3
 obtain ⟨a4, c4, rfl⟩ := own_vw h4
 exact ⟨_, _, _, _, _, _, _, _, rfl⟩
theorem DicOwn.heads {B : Nat} {W : World} {us : Nat → Value × Value} {D : Dic} (h : DicOwn B W us D) : ∃ A : Heads, DicOwn B W (hv A) D ∧ dv us = dv (hv A) := by
 obtain ⟨A, hA1, hA2⟩ := Go.Proofs.YtkmbnghghbfkdaaGreat.heads (vs := us) (fun i hi => by obtain ⟨a, c, b, d, e, _⟩ := (h i hi).pair; exact ⟨_, _, _, _, _, _, e⟩)
 exact ⟨A, fun i hi => by rw [← hA1 i hi]; exact h i hi, by unfold dv; rw [hA2]⟩
theorem cutP_near {P : Pat} (h : P.Near) : (cutP P).Fits :=
 ⟨fun a ha => by
  obtain ⟨h1, h2, h3, h4, _, _⟩ := h.1 a (List.mem_of_mem_take ha)
  unfold reachBytes at h1 h2 h3 h4
  exact ⟨by omega, by omega, by omega, by omega⟩, by show (P.atoms.take 42).length ≤ 100000; rw [List.length_take]; omega⟩
theorem PatAt.parts {w : World} {a b c : Value} {P : Pat} (h : PatAt w (patV a b c P) P) : Ats w a P.atoms ∧ Strs w b P.ret ∧ Strs w c P.hint := by
 obtain ⟨av, rv, hv, e, h1, h2, h3⟩ := h
 unfold patV patL at e
 simp only [Value.agg.injEq, Array.mk.injEq, List.cons.injEq] at e
 obtain ⟨rfl, rfl, _, _, _, _, _, rfl, _⟩ := e
 exact ⟨h1, h2, h3⟩
theorem goalN (A : Heads) (D : Dic) (P : Pat) (a b c : Value) (w : World) (hV : DicV w (hv A) D) (hS : DicS D) (hP : PatAt w (patV a b c P) P) (hf : P.Fits) :
 Calls Tryz.prog 13 #[.agg (dcells (hv A)).toArray, .agg (patL a b c P).toArray] w fun e w' => ∃ G n c q1 d1 q2 d2 q3 d3 q4 d4, e = .returned (.tuple #[.agg (golC (.slice q1 G.vars.length d1) (.slice q2 G.atoms.length d2) (.slice q3 G.ret.length d3) (.slice q4 G.hint.length d4) G).toArray, .int .i64 n, .int .i64 c]) ∧
  OfR D P G n c ∧ GolIn w.heap.size w' (golV (.slice q1 G.vars.length d1) (.slice q2 G.atoms.length d2) (.slice q3 G.ret.length d3) (.slice q4 G.hint.length d4) G) G ∧ Ext w w' := by
 obtain ⟨h1, h2, h3⟩ := hP.parts
 refine (goal_any A D P a b c w hV hS h1 h2 h3 hf).mono ?_
 rintro e w' ⟨gv, G, n, c, he, ho, hg, hx⟩
 obtain ⟨a1, c1, a2, c2, a3, c3, a4, c4, rfl⟩ := hg.shape
 exact ⟨G, n, c, _, _, _, _, _, _, _, _, he, ho, hg, hx⟩
theorem termS_from {T : List ByteArray} {t : Bool × ByteArray} {s : ByteArray} (h : s ∈ termS T t) : s ∈ T ∨ s = t.2 := by
 unfold termS at h
 split at h
 ·exact .inl h
 ·rcases List.mem_append.1 h with h | h
  ·exact .inl h
  ·exact .inr (List.mem_singleton.1 h)
theorem varsS_of {s : ByteArray} (l : List Atm) (T : List ByteArray) (h : s ∈ l.foldl (fun T a => termS (termS T (a.fk, a.fn)) (a.tk, a.tn)) T) : s ∈ T ∨ ∃ a ∈ l, s = a.fn ∨ s = a.tn := by
 induction l generalizing T with
 | nil => exact .inl h
 | cons a l ih =>
  rcases ih _ h with h | ⟨b, hb, h⟩
  ·rcases termS_from h with h | h
   ·rcases termS_from h with h | h
    ·exact .inl h
    ·exact .inr ⟨a, List.mem_cons_self .., .inl h⟩
   ·exact .inr ⟨a, List.mem_cons_self .., .inr h⟩
  ·exact .inr ⟨b, List.mem_cons_of_mem _ hb, h⟩
theorem golOf_fits {D : Dic} {P : Pat} {G : Gol} (hok : P.okB = true) (hf : P.Fits) (hg : goalF D P = some G) : G.Fits ∧ G.atoms.length = P.atoms.length ∧ P.atoms.length ≤ 40 := by
 obtain ⟨hb, rfl⟩ := goalF_some hg
 obtain ⟨⟨_, k1⟩, k2, k3, k4, _, _⟩ := okB_parts hok
 have hlen : (bndsF D (varsS P.atoms) P.atoms).1.length = P.atoms.length := by
  have := preF_len (bndF D (varsS P.atoms)) P.atoms
  unfold bndsF at hb ⊢
  exact this.2 hb
 have r1 := chosenB_len k3
 have r2 := chosenB_len k4
 refine ⟨⟨⟨?_, ?_, ?_, ?_⟩, fun s hs => ?_⟩, hlen, k1⟩
 ·show (bndsF D (varsS P.atoms) P.atoms).1.length ≤ _
  omega
 ·show (List.map _ (if P.ret = [] then varsS P.atoms else P.ret)).length ≤ _
  rw [List.length_map]
  split <;> omega
 ·show (List.map _ P.hint).length ≤ _
  rw [List.length_map]; omega
 ·show (varsS P.atoms).length ≤ _
  omega
 ·rcases varsS_of P.atoms [] hs with h | ⟨a, ha, h⟩
  ·cases h
  ·have := hf.atoms a ha
   rcases h with rfl | rfl
   ·exact this.fn
   ·exact this.tn
section
variable {P : Program} {Q : Exit → Act → World → Prop} {ops : Array Oper} {o : Oper} {a : Act} {w : World} {X : List Nat} {ks : Nat → Gro} {i : Nat} {r : List Nat}
theorem groX_loadW (ho : ops[i]? = some o) (hk : ks i = .read) (hwt : Region.wanted o (yielded ops a.tmps) = true) (ty : TypeId) (x : Operand) (hop : o.op = .load ty x) (b off : Nat) (hx : a.eval x = .pointer (some ⟨b, off, none⟩)) (cs : List Value) (d : TypeDesc) (hc : w.rangeAt b off cs) (hb : b ∉ X)
 (hu : P.underlying ty = some d) (hd : d.isRow = true) (hi : (P.info? ty).map (·.size) = some cs.length)
 (h : GroX X P ops Q ks r (a.put o.dst (.agg cs.toArray)) w) : GroX X P ops Q ks (i :: r) a w := by
 refine groX_read ho hk fun K S hS hK => ?_
 rw [if_pos hwt]
 have hq : ∀ w', w'.rangeAt b off cs → o.quietAt P a (fun x => x = w') w' (.agg cs.toArray) := fun w' hc' => by
  unfold Oper.quietAt execOp
  simp only [hop, hx, Instr.loadAt, Instr.sureAddr, Sem.run_bind, Sem.run_pure, Result.andThen_ok, run_loadVar_mid w' b off ty cs d hc' hu hd hi]
  simp [Oper.quietUpon]
 exact ⟨_, hq w hc, hS _ (fun w' hg => hq w' (hg.range hc hb)), hK _ h⟩
end
end Go.Proofs.YtkmbnghghbfkdaaGreat

/- The document: ids, places. -/
namespace Go.Proofs.YtkmbnghghbfkdaaGreat
open Go.RowKit Go.Shelf Go.Sort
attribute [local go_sem] Oper.semAt_some wide_fn wide_depth
theorem idR_any (A : Heads) (D : Dic) (kind : Int) (s : ByteArray) (w : World) (hV : DicV w (hv A) D) :
 Calls Tryz.prog 98 #[.agg (dcells (hv A)).toArray, .int .i64 kind, .string s] w fun e w' => e = .returned (.int .i64 (idF D kind s)) ∧ Ext w w' := by
 have HN := Lib.hid (show NamV w (ofV (hv A)) (ofD D) from hV.names)
 have H0 := Lib.hid (RowAt.new w 28 (dcells (hv A)))
 have HX := Lib.hid (Ext.alloc w (.cells (dcells (hv A)).toArray 28))
 clear hV
 go_enter Tryz.func98, Tryz.ntmps98
 go_upto_region 1 with fail
 generalize w.alloc (.cells (dcells (hv A)).toArray 28) = w1 at *
 obtain ⟨y0, hy0⟩ : ∃ x, w.heap.size = x := ⟨_, rfl⟩
 rw [hy0] at H0
 simp only [hy0]
 clear hy0
 have hof := of_any (hv A) (fun i hi => ⟨_, _, _, _, _, _, rfl⟩) w1
 unfold dv nv at hof
 have HOF := Lib.hid hof
 have HID := Lib.hid (fun w' (hx : Ext w1 w') => refId_any (ofV (hv A)) (ofD D) kind s w' (HN.out.ext (HX.out.trans hx)))
 unfold nv at HID
 clear hof
 apply wp_region_lit
 refine plain_load rfl _ _ rfl y0 rfl _ _ (H0.out) Tryz.underlying28 rfl (by kernel_rfl) ?_
 go_simp
 refine wpList_plain rfl fun K1 hK1 => ?_
 go_simp
 refine HOF.out.mono ?_; rintro e w2 ⟨rfl, hx2⟩
 go_simp
 refine hK1 _ _ ?_
 clear hK1 K1
 refine wpList_plain rfl fun K1 hK1 => ?_
 go_simp
 refine hK1 _ _ ?_
 clear hK1 K1
 refine wpList_plain rfl fun K1 hK1 => ?_
 go_simp
 refine hK1 _ _ ?_
 clear hK1 K1
 refine wpList_plain rfl fun K1 hK1 => ?_
 go_simp
 refine (HID.out w2 hx2).mono ?_; rintro e w3 ⟨rfl, hx3⟩
 go_simp
 refine hK1 _ _ ?_
 clear hK1 K1
 refine wpList_plain rfl fun K1 hK1 => ?_
 go_simp
 refine hK1 _ _ ?_
 clear hK1 K1
 apply wpList_nil
 go_wp2_with fail
 go_ret
 exact ⟨rfl, (HX.out.trans hx2).trans hx3⟩
theorem findF_stop {T : List ByteArray} {s : ByteArray} {j : Nat} (hj : j < T.length) (he : T[j] = s) (h : ∀ i (hi : i < j), T[i]? ≠ some s) : findF T s = j :=
 findF_yes.2 ⟨hj, he, fun i hi e => h i hi (by rw [List.getElem?_eq_getElem (by omega), e])⟩
set_option maxHeartbeats 1000000 in
theorem placeR_any (s : ByteArray) (v : Value) (T : List ByteArray) (w : World) (hT : Strs w v T) :
 Calls Tryz.prog 96 #[v, .string s] w fun e w' => e = .returned (.int .i64 (findF T s)) ∧ Ext w w' := by
 obtain ⟨a, c, rfl, hc1, hc2⟩ := Sl.shape hT
 have HT := Lib.hid hT
 clear hT
 go_enter Tryz.func96, Tryz.ntmps96
 go_wp2_with fail
 go_loopg [9] T.length (fun g i wr => ∃ j : Nat, j ≤ T.length ∧ g = T.length - j ∧ i = .int .i64 j ∧ Hid (∀ i (hi : i < j), T[i]? ≠ some s) ∧ Ext w wr)
 case atStart => exact ⟨0, Nat.zero_le _, rfl, rfl, Lib.hid (fun i hi => by omega), Ext.refl _⟩
 case round =>
  obtain ⟨j, hj, hg, rfl, HB, hxr⟩ := hrel
  have Hg := Lib.hid hg
  clear hg
  by_cases hlt : j < T.length
  ·obtain ⟨b, o, rfl, c0⟩ := (HT.out.ext hxr).at_ hlt
   have hst := fun h => findF_stop (s := s) hlt h HB.out
   have hgo : T[j] ≠ s → ∀ i (hi : i < j + 1), T[i]? ≠ some s := fun hne i hi => by
    by_cases e : i = j
    ·subst e; rw [List.getElem?_eq_getElem hlt]; exact fun h => hne (Option.some.inj h)
    ·exact HB.out i (by omega)
   generalize T[j] = x at *
   have HST := Lib.hid hst
   have HGO := Lib.hid hgo
   clear hst hgo
   by_cases hxs : x = s
   ·have hs : (x.toList == s.toList) = true := str_yes hxs
    have HF := Lib.hid (HST.out hxs)
    clear hxs
    go_wp2_with fail
    go_ret
    exact ⟨by rw [HF.out]; rfl, hxr⟩
   ·have hs : (x.toList == s.toList) = false := str_no hxs
    have HD := Lib.hid (HGO.out hxs)
    clear hxs
    go_wp2_with fail
    go_roundg (T.length - (j + 1))
    case measure => have := Hg.out; omega
    case rel => exact ⟨j + 1, by omega, rfl, by go_num, HD, hxr⟩
  ·have he : j = T.length := by omega
   subst he
   have HF : Hid (findF T s = -1) := Lib.hid (findF_no.2 (fun hm => by
    obtain ⟨i, hi, e⟩ := List.getElem_of_mem hm
    exact HB.out i hi (by rw [List.getElem?_eq_getElem hi, e])))
   go_wp2_with fail
   go_ret
   exact ⟨by rw [HF.out]; rfl, hxr⟩
set_option maxHeartbeats 1000000 in
theorem placesR_any (v u : Value) (L V : List ByteArray) (w : World) (hL : Strs w v L) (hV : Strs w u V) (hn : L.length ≤ 1000000) :
 Calls Tryz.prog 52 #[v, u] w fun e w' => ∃ a c, e = .returned (.slice a L.length c) ∧ w'.ownsRow w.heap.size 3 1 (.slice a L.length c) L.length ((L.map (findF V)).map (Value.int .i64)) ∧ Ext w w' := by
 obtain ⟨la, lc, rfl, hlc1, hlc2⟩ := Sl.shape hL
 obtain ⟨va, vc, rfl, hvc1, hvc2⟩ := Sl.shape hV
 have HL := Lib.hid hL
 have HV := Lib.hid (fun s w' (hx : Ext w w') => placeR_any s _ V w' (Strs.ext hV hx))
 clear hL hV
 go_enter Tryz.func52, Tryz.ntmps52
 go_wp2_with fail
 go_loopg [5, 10] L.length (fun g out i wr => ∃ (k : Nat) (oa : Option Addr) (oc : Nat), k ≤ L.length ∧ g = L.length - k ∧ i = .int .i64 k ∧ out = .slice oa k oc ∧ Hid (Ext w wr) ∧ Hid (wr.ownsRow w.heap.size 3 1 (.slice oa k oc) k (((L.take k).map (findF V)).map (Value.int .i64))))
 case atStart => exact ⟨0, none, 0, Nat.zero_le _, rfl, rfl, rfl, Lib.hid (Ext.refl _), Lib.hid (World.ownsRow_nil _ _ _ _)⟩
 case round =>
  obtain ⟨k, oa, oc, hk, hg, rfl, rfl, HXR, HO⟩ := hrel
  have Hg := Lib.hid hg
  clear hg
  have hk6 : k ≤ 1000000 := by omega
  by_cases hlt : k < L.length
  ·obtain ⟨b, o, rfl, c0⟩ := (Strs.ext HL.out HXR.out).at_ hlt
   have htk := List.take_succ_eq_append_getElem hlt
   generalize L[k] = s at *
   have HTK := Lib.hid htk
   clear htk
   have HC := Lib.hid (HV.out s wr HXR.out)
   go_wp2_with fail
   refine HC.out.mono ?_
   rintro e w2 ⟨rfl, hx2⟩
   have HX2 := Lib.hid (HXR.out.trans hx2)
   have HO2 := Lib.hid (own_ext HO.out hx2)
   clear hx2 HXR HO HC c0
   go_wp2_with (at_builtin; refine wpList_append_sl _ rfl _ _ 23 rfl elIn rfl (own_ext HO2.out (Ext.alloc _ _)) rfl (Sl.new _ #[.int .i64 (findF V s)] 3 1 1 (Nat.le_refl _) ?_) rfl ?_ ?_ ?_ ?_ ?_)
   ·unfold maxLen; omega
   ·rfl
   ·omega
   ·unfold maxLen; omega
   ·have := HX2.out.size; simp; omega
   intro v' w6 how6 hb6 hg6 _
   obtain ⟨va', vc', rfl⟩ := own_vw how6
   have HX6 := Lib.hid (show Ext w w6 from Below.trans (HX2.out.trans (Ext.alloc _ _)) hb6)
   have HO6 := Lib.hid (show w6.ownsRow w.heap.size 3 1 (.slice va' (k + 1) vc') (k + 1) (((L.take (k + 1)).map (findF V)).map (Value.int .i64)) by
    rw [HTK.out, List.map_append, List.map_append, List.map_take, List.map_take, List.map_map]; exact how6)
   clear how6 hb6 hg6
   go_wp2_with fail
   go_roundg (L.length - (k + 1))
   case measure => have := Hg.out; omega
   case rel => exact ⟨k + 1, va', vc', by omega, rfl, by first | rfl | go_num, rfl, HX6, HO6⟩
  ·have he : k = L.length := by omega
   subst he
   have ho := HO.out
   rw [List.take_length] at ho
   have HO2 := Lib.hid ho
   clear ho HO
   go_wp2_with fail
   go_ret
   exact ⟨oa, oc, rfl, HO2.out, HXR.out⟩
end Go.Proofs.YtkmbnghghbfkdaaGreat

/- The document: a term's argument. -/
namespace Go.Proofs.YtkmbnghghbfkdaaGreat
open Go.RowKit Go.Shelf Go.Sort
attribute [local go_sem] Oper.semAt_some wide_fn wide_depth
def argT (D : Dic) (V : List ByteArray) (k : Bool) (s : ByteArray) : Arg × Bool := if k = true then (⟨-1, idF D 0 s⟩, decide (0 ≤ idF D 0 s)) else (⟨findF V s, 0⟩, true)
theorem argT_F (D : Dic) (V : List ByteArray) (k : Bool) (s : ByteArray) : argF D V k s = if (argT D V k s).2 = true then some (argT D V k s).1 else none := by
 unfold argF argT
 cases k with
 | true =>
  rw [if_pos rfl, if_pos rfl]
  by_cases h : 0 ≤ idF D 0 s
  ·rw [if_pos h]; simp [h]
  ·rw [if_neg h]; simp [h]
 | false => simp
set_option maxRecDepth 100000 in
theorem argR_any (A : Heads) (D : Dic) (V : List ByteArray) (vv : Value) (k : Bool) (s : ByteArray) (w : World) (hV : DicV w (hv A) D) (hVV : Strs w vv V) :
 Calls Tryz.prog 97 #[.agg (dcells (hv A)).toArray, vv, .agg #[.bool k, .string s]] w fun e w' => e = .returned (.tuple #[.agg #[.int .i64 (argT D V k s).1.var, .int .i64 (argT D V k s).1.id], .bool (argT D V k s).2]) ∧ Ext w w' := by
 have HI := Lib.hid (fun w' (hx : Ext w w') => idR_any A D 0 s w' (hV.ext hx))
 have HP := Lib.hid (fun w' (hx : Ext w w') => placeR_any s vv V w' (Strs.ext hVV hx))
 clear hV hVV
 cases k with
 | false =>
  have he : argT D V false s = (⟨findF V s, 0⟩, true) := rfl
  rw [he]
  dsimp only
  clear he
  generalize findF V s = q at *
  have hbx := boxes3 w (dcells (hv A)) 28 ([.bool false, .string s]) 86 ([.int .i64 0, .int .i64 0]) 73
  have HBX := Lib.hid hbx
  clear hbx
  go_enter Tryz.func97, Tryz.ntmps97
  go_upto_region 1 with fail
  generalize ((w.alloc (.cells (dcells (hv A)).toArray 28)).alloc (.cells ([.bool false, .string s]).toArray 86)).alloc (.cells ([.int .i64 0, .int .i64 0]).toArray 73) = w1 at *
  obtain ⟨y0, hy0⟩ : ∃ x, w.heap.size = x := ⟨_, rfl⟩
  obtain ⟨y1, hy1⟩ : ∃ x, y0 + 1 = x := ⟨_, rfl⟩
  obtain ⟨y2, hy2⟩ : ∃ x, y1 + 1 = x := ⟨_, rfl⟩
  rw [hy0, hy1, hy2] at HBX
  simp only [hy0, hy1, hy2]
  have HN := Lib.hid (show w.heap.size = y0 ∧ y0 + 1 = y1 ∧ y1 + 1 = y2 from ⟨hy0, hy1, hy2⟩)
  have HX := Lib.hid HBX.out.1
  have H0 := Lib.hid HBX.out.2.1
  have H1 := Lib.hid HBX.out.2.2.1
  have H2 := Lib.hid HBX.out.2.2.2
  clear hy0 hy1 hy2 HBX
  have k0 := H1.out.cell (i := 0) rfl
  have k1 := H1.out.cell (i := 1) rfl
  go_upto_region 2 with fail
  apply wp_region_lit
  refine wpList_plain rfl fun K1 hK1 => ?_
  go_simp
  refine hK1 _ _ ?_
  clear hK1 K1
  refine wpList_plain rfl fun K1 hK1 => ?_
  go_simp
  refine hK1 _ _ ?_
  clear hK1 K1
  refine wpList_plain rfl fun K1 hK1 => ?_
  go_simp
  refine hK1 _ _ ?_
  clear hK1 K1
  refine wpList_plain rfl fun K1 hK1 => ?_
  go_simp
  refine (HP.out w1 HX.out).mono ?_; rintro e w2 ⟨rfl, hx2⟩
  go_simp
  refine hK1 _ _ ?_
  clear hK1 K1
  refine wpList_built rfl _ _ rfl #[.int .i64 q, .int .i64 0] (by kernel_rfl) ?_
  have HX2 := Lib.hid (HX.out.trans hx2)
  have HB2 := Lib.hid (H2.out.ext hx2)
  clear hx2 HX H0 H1 H2 HI HP k0 k1
  refine plain_store rfl _ _ _ rfl y2 ([.int .i64 q, .int .i64 0]) rfl rfl (HB2.out) (by kernel_rfl) rfl ((by simp [Value.oneCell'])) ?_
  have HRR := Lib.hid ((HB2.out).setRow ([.int .i64 q, .int .i64 0]))
  have HXX := Lib.hid (show Ext w ((w2).setRow y2 ([.int .i64 q, .int .i64 0]).toArray) from below_setRow (HX2.out) ((by have := HN.out; omega)) _)
  go_simp
  generalize (w2).setRow y2 ([.int .i64 q, .int .i64 0]).toArray = wend at *
  refine wpList_plain rfl fun K1 hK1 => ?_
  go_simp
  refine hK1 _ _ ?_
  clear hK1 K1
  apply wpList_nil
  go_wp2_with fail
  exact bodyPost_ret (results_row1 rfl rfl HRR.out Tryz.underlying73 rfl (by kernel_rfl)) rfl (⟨rfl, HXX.out⟩)
 | true =>
  have he : argT D V true s = (⟨-1, idF D 0 s⟩, decide (0 ≤ idF D 0 s)) := rfl
  rw [he]
  dsimp only
  clear he
  generalize idF D 0 s = q at *
  by_cases hq : 0 ≤ q
  ·have hd : decide (0 ≤ q) = true := decide_eq_true hq
   rw [hd]
   have hge : (q ≥ 0) = True := by simp only [ge_iff_le, eq_iff_iff, iff_true]; exact hq
   clear hd hq
   have hbx := boxes3 w (dcells (hv A)) 28 ([.bool true, .string s]) 86 ([.int .i64 0, .int .i64 0]) 73
   have HBX := Lib.hid hbx
   clear hbx
   go_enter Tryz.func97, Tryz.ntmps97
   go_upto_region 1 with fail
   generalize ((w.alloc (.cells (dcells (hv A)).toArray 28)).alloc (.cells ([.bool true, .string s]).toArray 86)).alloc (.cells ([.int .i64 0, .int .i64 0]).toArray 73) = w1 at *
   obtain ⟨y0, hy0⟩ : ∃ x, w.heap.size = x := ⟨_, rfl⟩
   obtain ⟨y1, hy1⟩ : ∃ x, y0 + 1 = x := ⟨_, rfl⟩
   obtain ⟨y2, hy2⟩ : ∃ x, y1 + 1 = x := ⟨_, rfl⟩
   rw [hy0, hy1, hy2] at HBX
   simp only [hy0, hy1, hy2]
   have HN := Lib.hid (show w.heap.size = y0 ∧ y0 + 1 = y1 ∧ y1 + 1 = y2 from ⟨hy0, hy1, hy2⟩)
   have HX := Lib.hid HBX.out.1
   have H0 := Lib.hid HBX.out.2.1
   have H1 := Lib.hid HBX.out.2.2.1
   have H2 := Lib.hid HBX.out.2.2.2
   clear hy0 hy1 hy2 HBX
   have k0 := H1.out.cell (i := 0) rfl
   have k1 := H1.out.cell (i := 1) rfl
   go_upto_region 3 with fail
   apply wp_region_lit
   refine plain_load rfl _ _ rfl y0 rfl _ _ (H0.out) Tryz.underlying28 rfl (by kernel_rfl) ?_
   go_simp
   refine wpList_plain rfl fun K1 hK1 => ?_
   go_simp
   refine hK1 _ _ ?_
   clear hK1 K1
   refine wpList_plain rfl fun K1 hK1 => ?_
   go_simp
   refine hK1 _ _ ?_
   clear hK1 K1
   refine wpList_plain rfl fun K1 hK1 => ?_
   go_simp
   refine (HI.out w1 HX.out).mono ?_; rintro e w2 ⟨rfl, hx2⟩
   go_simp
   refine hK1 _ _ ?_
   clear hK1 K1
   refine wpList_plain rfl fun K1 hK1 => ?_
   go_simp
   refine hK1 _ _ ?_
   clear hK1 K1
   apply wpList_nil
   have HX2 := Lib.hid (HX.out.trans hx2)
   have HB2 := Lib.hid (H2.out.ext hx2)
   clear hx2 HX H0 H1 H2 HI HP k0 k1
   go_upto_region 4 with fail
   apply wp_region_lit
   refine wpList_plain rfl fun K1 hK1 => ?_
   go_simp
   refine hK1 _ _ ?_
   clear hK1 K1
   refine wpList_built rfl _ _ rfl #[.int .i64 (-1), .int .i64 q] (by kernel_rfl) ?_
   refine wpList_plain rfl fun K1 hK1 => ?_
   go_simp
   refine hK1 _ _ ?_
   clear hK1 K1
   refine wpList_plain rfl fun K1 hK1 => ?_
   go_simp
   refine hK1 _ _ ?_
   clear hK1 K1
   refine plain_store rfl _ _ _ rfl y2 ([.int .i64 (-1), .int .i64 q]) rfl rfl (HB2.out) (by kernel_rfl) rfl ((by simp [Value.oneCell'])) ?_
   have HRR := Lib.hid ((HB2.out).setRow ([.int .i64 (-1), .int .i64 q]))
   have HXX := Lib.hid (show Ext w ((w2).setRow y2 ([.int .i64 (-1), .int .i64 q]).toArray) from below_setRow (HX2.out) ((by have := HN.out; omega)) _)
   go_simp
   generalize (w2).setRow y2 ([.int .i64 (-1), .int .i64 q]).toArray = wend at *
   refine wpList_plain rfl fun K1 hK1 => ?_
   go_simp
   refine hK1 _ _ ?_
   clear hK1 K1
   apply wpList_nil
   go_wp2_with fail
   exact bodyPost_ret (results_row1 rfl rfl HRR.out Tryz.underlying73 rfl (by kernel_rfl)) rfl (⟨rfl, HXX.out⟩)
  ·have hd : decide (0 ≤ q) = false := decide_eq_false hq
   rw [hd]
   have hge : (q ≥ 0) = False := by simp only [ge_iff_le, eq_iff_iff, iff_false]; exact hq
   clear hd hq
   have hbx := boxes3 w (dcells (hv A)) 28 ([.bool true, .string s]) 86 ([.int .i64 0, .int .i64 0]) 73
   have HBX := Lib.hid hbx
   clear hbx
   go_enter Tryz.func97, Tryz.ntmps97
   go_upto_region 1 with fail
   generalize ((w.alloc (.cells (dcells (hv A)).toArray 28)).alloc (.cells ([.bool true, .string s]).toArray 86)).alloc (.cells ([.int .i64 0, .int .i64 0]).toArray 73) = w1 at *
   obtain ⟨y0, hy0⟩ : ∃ x, w.heap.size = x := ⟨_, rfl⟩
   obtain ⟨y1, hy1⟩ : ∃ x, y0 + 1 = x := ⟨_, rfl⟩
   obtain ⟨y2, hy2⟩ : ∃ x, y1 + 1 = x := ⟨_, rfl⟩
   rw [hy0, hy1, hy2] at HBX
   simp only [hy0, hy1, hy2]
   have HN := Lib.hid (show w.heap.size = y0 ∧ y0 + 1 = y1 ∧ y1 + 1 = y2 from ⟨hy0, hy1, hy2⟩)
   have HX := Lib.hid HBX.out.1
   have H0 := Lib.hid HBX.out.2.1
   have H1 := Lib.hid HBX.out.2.2.1
   have H2 := Lib.hid HBX.out.2.2.2
   clear hy0 hy1 hy2 HBX
   have k0 := H1.out.cell (i := 0) rfl
   have k1 := H1.out.cell (i := 1) rfl
   go_upto_region 3 with fail
   apply wp_region_lit
   refine plain_load rfl _ _ rfl y0 rfl _ _ (H0.out) Tryz.underlying28 rfl (by kernel_rfl) ?_
   go_simp
   refine wpList_plain rfl fun K1 hK1 => ?_
   go_simp
   refine hK1 _ _ ?_
   clear hK1 K1
   refine wpList_plain rfl fun K1 hK1 => ?_
   go_simp
   refine hK1 _ _ ?_
   clear hK1 K1
   refine wpList_plain rfl fun K1 hK1 => ?_
   go_simp
   refine (HI.out w1 HX.out).mono ?_; rintro e w2 ⟨rfl, hx2⟩
   go_simp
   refine hK1 _ _ ?_
   clear hK1 K1
   refine wpList_plain rfl fun K1 hK1 => ?_
   go_simp
   refine hK1 _ _ ?_
   clear hK1 K1
   apply wpList_nil
   have HX2 := Lib.hid (HX.out.trans hx2)
   have HB2 := Lib.hid (H2.out.ext hx2)
   clear hx2 HX H0 H1 H2 HI HP k0 k1
   go_upto_region 4 with fail
   apply wp_region_lit
   refine wpList_plain rfl fun K1 hK1 => ?_
   go_simp
   refine hK1 _ _ ?_
   clear hK1 K1
   refine wpList_built rfl _ _ rfl #[.int .i64 (-1), .int .i64 q] (by kernel_rfl) ?_
   refine wpList_plain rfl fun K1 hK1 => ?_
   go_simp
   refine hK1 _ _ ?_
   clear hK1 K1
   refine wpList_plain rfl fun K1 hK1 => ?_
   go_simp
   refine hK1 _ _ ?_
   clear hK1 K1
   refine plain_store rfl _ _ _ rfl y2 ([.int .i64 (-1), .int .i64 q]) rfl rfl (HB2.out) (by kernel_rfl) rfl ((by simp [Value.oneCell'])) ?_
   have HRR := Lib.hid ((HB2.out).setRow ([.int .i64 (-1), .int .i64 q]))
   have HXX := Lib.hid (show Ext w ((w2).setRow y2 ([.int .i64 (-1), .int .i64 q]).toArray) from below_setRow (HX2.out) ((by have := HN.out; omega)) _)
   go_simp
   generalize (w2).setRow y2 ([.int .i64 (-1), .int .i64 q]).toArray = wend at *
   refine wpList_plain rfl fun K1 hK1 => ?_
   go_simp
   refine hK1 _ _ ?_
   clear hK1 K1
   apply wpList_nil
   go_wp2_with fail
   exact bodyPost_ret (results_row1 rfl rfl HRR.out Tryz.underlying73 rfl (by kernel_rfl)) rfl (⟨rfl, HXX.out⟩)
end Go.Proofs.YtkmbnghghbfkdaaGreat
