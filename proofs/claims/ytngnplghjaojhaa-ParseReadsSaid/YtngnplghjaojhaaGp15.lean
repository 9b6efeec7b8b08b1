/- The document's state: is a word told here? -/
import Derived.Test.YtngnplghjaojhaaGp14
import Derived.Test.YtngnplghjaojhaaGp02
import Derived.Test.YtngnplghjaojhaaGp08
import Derived.Test.YtngnplghjaojhaaGp10
namespace Go.Proofs.Ytngnplghjaojhaa
set_option maxRecDepth 100000
set_option maxHeartbeats 2000000
set_option linter.unusedSimpArgs false
open Go.RowKit Go.Shelf Go.Sort
attribute [local go_sem] Oper.semAt_some wide_fn wide_depth
set_option linter.unusedVariables false
theorem str_dec (x y : ByteArray) : (x.toList == y.toList) = decide (x = y) := by
  by_cases h : x = y
  · rw [str_yes h, decide_eq_true h]
  · rw [str_no h, decide_eq_false h]
/-- Does the word stand here? -/
def saysR (ts : List Tk) (p : Nat) (bad : Bool) (word : ByteArray) : Bool := !bad && (decide (kindAt ts p = 1) && decide (textAt ts p = word))
set_option maxRecDepth 100000 in
set_option maxHeartbeats 1000000 in
theorem says_bad {w : World} (c : Sc) (tv : Value) (p : Nat) (word : ByteArray) (htv : ∃ a n cap, tv = .slice a n cap) :
    Calls Try.prog 54 #[stV c tv p true, .string word] w fun e w' => e = .returned (.bool false) ∧ Ext w w' := by
  obtain ⟨a, n, cap, rfl⟩ := htv
  obtain ⟨a1, n1, k1, a2, n2, k2, cn, ds, lm, li, off, a3, n3, k3, op⟩ := c
  unfold stV
  dsimp only
  go_enter Try.func54, Try.ntmps54
  go_wp2_with fail
  go_ret
  exact ⟨rfl, Ext.alloc _ _⟩
set_option maxRecDepth 100000 in
set_option maxHeartbeats 1000000 in
theorem says_good {w : World} {ts : List Tk} {tv : Value} {p : Nat} (h : TkS w ts tv p) (c : Sc) (word : ByteArray) (hl : ts.length ≤ 1000000) :
    Calls Try.prog 54 #[stV c tv p false, .string word] w fun e w' => e = .returned (.bool (saysR ts p false word)) ∧ Ext w w' := by
  obtain ⟨a, cap, rfl, hcap, hmax⟩ := h.toks.shape
  obtain ⟨a1, n1, k1, a2, n2, k2, cn, ds, lm, li, off, a3, n3, k3, op⟩ := c
  have hx0 := Ext.alloc w (.cells (stL ⟨a1, n1, k1, a2, n2, k2, cn, ds, lm, li, off, a3, n3, k3, op⟩ (.slice a ts.length cap) p false).toArray 70)
  have hb0 : RowAt (w.alloc (.cells (stL ⟨a1, n1, k1, a2, n2, k2, cn, ds, lm, li, off, a3, n3, k3, op⟩ (.slice a ts.length cap) p false).toArray 70)) w.heap.size 70 (stL ⟨a1, n1, k1, a2, n2, k2, cn, ds, lm, li, off, a3, n3, k3, op⟩ (.slice a ts.length cap) p false) := RowAt.new _ _ _
  have H := Lib.hid (h.ext hx0)
  have HB := Lib.hid hb0
  have HX := Lib.hid hx0
  have hks := kindS_any (h.ext hx0) ⟨a1, n1, k1, a2, n2, k2, cn, ds, lm, li, off, a3, n3, k3, op⟩ false
  unfold stV at hks
  dsimp only at hks
  have HKS := Lib.hid hks
  unfold stL at HB HX H HKS
  dsimp only at HB HX H HKS
  unfold stV
  dsimp only
  clear h hx0 hb0 hks
  by_cases hk : kindAt ts p = 1
  · have hlt : p < ts.length := kindAt_lt (by rw [hk]; decide)
    obtain ⟨tx, htx⟩ : ∃ tx, textAt ts p = tx := ⟨_, rfl⟩
    have htx2 : ts[p].text = tx := by rw [← htx]; unfold textAt; rw [List.getD_eq_getElem?_getD, List.getElem?_eq_getElem hlt]; rfl
    have hres : saysR ts p false word = decide (tx = word) := by unfold saysR; rw [hk, htx]; simp
    rw [hres]
    rw [hk] at HKS
    have HT := Lib.hid htx2
    have HLT := Lib.hid hlt
    clear hk htx htx2 hres
    go_enter Try.func54, Try.ntmps54
    go_upto_region 1 with fail
    generalize w.alloc (.cells #[.slice a ts.length cap, .int .i64 p, .bool false, .slice a1 n1 k1, .slice a2 n2 k2, .bool cn, .bool ds, .bool lm, .int .i64 li, .int .i64 off, .slice a3 n3 k3, .int .i64 op] 70) = w1 at *
    obtain ⟨f0, f1, f2, f3, f4, f5, f6, f7, f8, f9, f10, f11⟩ := stL_facts HB.out
    go_wp2_with fail
    refine HKS.out.mono ?_
    rintro e w2 ⟨rfl, hx2⟩
    have g0 := ext_cell hx2 f0
    have g1 := ext_cell hx2 f1
    have HX2 := Lib.hid (HX.out.trans hx2)
    obtain ⟨b, o, rfl, t0, t1, t2⟩ := (Toks.ext H.out.toks hx2).at_ HLT.out
    rw [HT.out] at t1
    clear hx2 f0 f1 f2 f3 f4 f5 f6 f7 f8 f9 f10 f11 t0 t2 H HB HX HKS
    go_wp2_with fail
    go_ret
    exact ⟨congrArg (fun b => Ending.returned (Value.bool b)) (str_dec tx word), HX2.out⟩
  · have hres : saysR ts p false word = false := by unfold saysR; simp [hk]
    rw [hres]
    have hkb : (kindAt ts p == 1) = false := by simp [hk]
    generalize kindAt ts p = kk at *
    clear hk hres
    go_enter Try.func54, Try.ntmps54
    go_upto_region 1 with fail
    generalize w.alloc (.cells #[.slice a ts.length cap, .int .i64 p, .bool false, .slice a1 n1 k1, .slice a2 n2 k2, .bool cn, .bool ds, .bool lm, .int .i64 li, .int .i64 off, .slice a3 n3 k3, .int .i64 op] 70) = w1 at *
    obtain ⟨f0, f1, f2, f3, f4, f5, f6, f7, f8, f9, f10, f11⟩ := stL_facts HB.out
    go_wp2_with fail
    refine HKS.out.mono ?_
    rintro e w2 ⟨rfl, hx2⟩
    have HX2 := Lib.hid (HX.out.trans hx2)
    clear hx2 f0 f1 f2 f3 f4 f5 f6 f7 f8 f9 f10 f11 H HB HX HKS
    go_wp2_with fail
    go_ret
    exact ⟨rfl, HX2.out⟩
end Go.Proofs.Ytngnplghjaojhaa

/- The document: is a text among others? -/
namespace Go.Proofs.Ytngnplghjaojhaa
set_option maxRecDepth 100000
set_option maxHeartbeats 2000000
set_option linter.unusedSimpArgs false
open Go.RowKit Go.Shelf Go.Sort
attribute [local go_sem] Oper.semAt_some wide_fn wide_depth
set_option linter.unusedVariables false
theorem hasB_take (s : ByteArray) (T : List ByteArray) (i : Nat) (h : i < T.length) : hasB s (T.take (i + 1)) = (hasB s (T.take i) || decide (T[i] = s)) := by
  unfold hasB
  rw [List.take_succ_eq_append_getElem h, List.any_append]; simp
theorem hasB_mem {s : ByteArray} {T : List ByteArray} {i : Nat} (h : i < T.length) (hb : T[i] = s) : hasB s T = true := by
  rw [hasB_iff]
  exact hb ▸ List.getElem_mem h
set_option maxHeartbeats 1000000 in
theorem hasS_any (s : ByteArray) (v : Value) (T : List ByteArray) (w : World) (hT : Strs w v T) :
    Calls Try.prog 70 #[v, .string s] w fun e w' => e = .returned (.bool (hasB s T)) ∧ Ext w w' := by
  obtain ⟨a, c, rfl, hc1, hc2⟩ := Sl.shape hT
  have HT := Lib.hid hT
  clear hT
  go_enter Try.func70, Try.ntmps70
  go_wp2_with fail
  go_loopg [9] T.length (fun g i wr => ∃ j : Nat, j ≤ T.length ∧ g = T.length - j ∧ i = .int .i64 j ∧ hasB s (T.take j) = false ∧ Ext w wr)
  case atStart => exact ⟨0, Nat.zero_le _, rfl, rfl, rfl, Ext.refl _⟩
  case round =>
    obtain ⟨j, hj, hg, rfl, hb, hxr⟩ := hrel
    have Hg := Lib.hid hg
    have HB := Lib.hid hb
    clear hg hb
    by_cases hlt : j < T.length
    · obtain ⟨b, o, rfl, c0⟩ := (HT.out.ext hxr).at_ hlt
      have hsn := hasB_take s T j hlt
      have hmem := fun h => hasB_mem (s := s) hlt h
      rw [HB.out, Bool.false_or] at hsn
      generalize T[j] = x at *
      have HSN := Lib.hid hsn
      have HMEM := Lib.hid hmem
      clear hsn hmem
      by_cases hxs : x = s
      · have hs : (x.toList == s.toList) = true := str_yes hxs
        have HF := Lib.hid (HMEM.out hxs)
        clear hxs
        go_wp2_with fail
        go_ret
        exact ⟨by rw [HF.out]; rfl, hxr⟩
      · have hs : (x.toList == s.toList) = false := str_no hxs
        have HD := Lib.hid hxs
        clear hxs
        go_wp2_with fail
        go_roundg (T.length - (j + 1))
        case measure => have := Hg.out; omega
        case rel => exact ⟨j + 1, by omega, rfl, by go_num, by rw [HSN.out]; exact decide_eq_false HD.out, hxr⟩
    · have he : j = T.length := by omega
      subst he
      go_wp2_with fail
      go_ret
      exact ⟨by rw [← HB.out, List.take_length]; rfl, hxr⟩
end Go.Proofs.Ytngnplghjaojhaa

/- A new row of another's elements and one more, made in any order. -/
namespace Go.Proofs.Ytngnplghjaojhaa
set_option maxRecDepth 100000
set_option maxHeartbeats 2000000
set_option linter.unusedSimpArgs false
open Go.RowKit Go.Shelf Go.Sort
attribute [local go_sem] Oper.semAt_some wide_fn wide_depth
set_option linter.unusedVariables false
/-- What stands while 'append(append([]T{}, l...), x)' is carried out: 0 the empty row, 1 the old, 2 its copy, 3 and 4 the element, 5 the row of one, 6 both, 7 it is handed on. -/
structure AppF (w0 : World) (e : TypeId) (sz n : Nat) (xs ys : List Value) (v px nm : Value) (S : Nat → Bool) (u0 u1 u2 u3 u4 u5 u6 u7 : Value) (W : World) : Prop where
  ext : Ext w0 W
  a0 : S 0 = true → S 2 = false → W.ownsRow w0.heap.size e sz u0 0 []
  a1 : S 1 = true → u1 = v
  a2 : S 2 = true → S 6 = false → W.ownsRow w0.heap.size e sz u2 n xs
  a3 : S 3 = true → u3 = px
  a4 : S 4 = true → u4 = nm
  a5 : S 5 = true → S 6 = false → W.ownsRow w0.heap.size e sz u5 1 ys
  ne : S 0 = true → S 2 = false → S 5 = true → ∀ b, u5.ownBlock = some b → u0.ownBlock ≠ some b
  a6 : S 6 = true → W.ownsRow w0.heap.size e sz u6 (n + 1) (xs ++ ys)
  a7 : S 7 = true → W.ownsRow w0.heap.size e sz u7 (n + 1) (xs ++ ys)
  d2 : S 2 = true → S 0 = true
  d6 : S 6 = true → S 2 = true ∧ S 5 = true
  d7 : S 7 = true → S 6 = true
def AppG (w0 : World) (e : TypeId) (sz n : Nat) (xs ys : List Value) (v px nm : Value) (S : Nat → Bool) (us : List Value) (W : World) : Prop :=
  ∃ u0 u1 u2 u3 u4 u5 u6 u7, us = [u0, u1, u2, u3, u4, u5, u6, u7] ∧ AppF w0 e sz n xs ys v px nm S u0 u1 u2 u3 u4 u5 u6 u7 W
theorem own_in {W : World} {B : Nat} {e : TypeId} {sz n b : Nat} {v : Value} {xs : List Value} (h : W.ownsRow B e sz v n xs) (hb : v.ownBlock = some b) : b < W.heap.size := by
  rcases h.2 with ⟨rfl, _⟩ | ⟨g, cap, cur, rfl, h1, h2, _⟩
  · cases hb
  · cases hb
    exact (Array.getElem?_eq_some_iff.1 h2).1
theorem own_far {w w' : World} {B size n : Nat} {ty : TypeId} {v : Value} {xs : List Value} {row : Option Nat} (h : w.ownsRow B ty size v n xs) (hg : w.grownBy w' row) (hv : ∀ b, v.ownBlock = some b → row ≠ some b) : w'.ownsRow B ty size v n xs := by
  refine ⟨h.1, ?_⟩
  rcases h.2 with hn | ⟨g', cap, cur, rfl, hbg, hgg, rest⟩
  · exact .inl hn
  · exact .inr ⟨g', cap, cur, rfl, hbg, (hg.block g' (Array.getElem?_eq_some_iff.1 hgg).1 (fun e => hv g' rfl e.symm)).trans hgg, rest⟩
def depA : Nat → List Nat
  | 2 => [0, 1]
  | 4 => [3]
  | 5 => [4]
  | 6 => [2, 5]
  | 7 => [6]
  | _ => []
section
variable {w0 : World} {e : TypeId} {sz n : Nat} {xs ys : List Value} {v px nm : Value} {S : Nat → Bool} {us : List Value} {u0 u1 u2 u3 u4 u5 u6 u7 : Value} {W : World}
theorem AppG.start (hl : us.length = 8) (hx : Ext w0 W) : AppG w0 e sz n xs ys v px nm (fun _ => false) us W := by
  match us, hl with
  | [u0, u1, u2, u3, u4, u5, u6, u7], _ => exact ⟨u0, u1, u2, u3, u4, u5, u6, u7, rfl, hx, nofun, nofun, nofun, nofun, nofun, nofun, nofun, nofun, nofun, nofun, nofun, nofun⟩
theorem AppF.g (h : AppF w0 e sz n xs ys v px nm S u0 u1 u2 u3 u4 u5 u6 u7 W) : AppG w0 e sz n xs ys v px nm S [u0, u1, u2, u3, u4, u5, u6, u7] W := ⟨_, _, _, _, _, _, _, _, rfl, h⟩
theorem AppF.s0 (h : AppF w0 e sz n xs ys v px nm S u0 u1 u2 u3 u4 u5 u6 u7 W) (hn : S 0 = false) :
    AppG w0 e sz n xs ys v px nm (updB S 0) [.slice (some ⟨W.heap.size, 0, none⟩) 0 0, u1, u2, u3, u4, u5, u6, u7] (W.alloc (.cells #[] e)) := by
  have hx := Ext.alloc W (.cells #[] e)
  have h2 : ¬ S 2 = true := fun e => by have := h.d2 e; rw [hn] at this; cases this
  have h6 : ¬ S 6 = true := fun e => h2 (h.d6 e).1
  refine AppF.g ⟨h.ext.trans hx, fun _ _ => own_new _ _ _ _ _ _ h.ext.size (by simp) (Nat.zero_le _), h.a1, fun e => absurd e h2, h.a3, h.a4, fun e e' => own_ext (h.a5 e e') hx, fun _ _ e5 b hb hh => ?_, fun e => absurd e h6, fun e => absurd (h.d7 e) h6, fun _ => rfl, fun e => absurd e h6, h.d7⟩
  have hlt := own_in (h.a5 e5 (by simpa using h6)) hb
  have : W.heap.size = b := Option.some.inj hh
  omega
theorem AppF.s1 (h : AppF w0 e sz n xs ys v px nm S u0 u1 u2 u3 u4 u5 u6 u7 W) : AppG w0 e sz n xs ys v px nm (updB S 1) [u0, v, u2, u3, u4, u5, u6, u7] W :=
  AppF.g ⟨h.ext, h.a0, fun _ => rfl, h.a2, h.a3, h.a4, h.a5, h.ne, h.a6, h.a7, h.d2, h.d6, h.d7⟩
theorem AppF.s2 (h : AppF w0 e sz n xs ys v px nm S u0 u1 u2 u3 u4 u5 u6 u7 W) (h0 : S 0 = true) (hn : S 2 = false) {W' : World} {u : Value} (hb : Below w0.heap.size W W') (hg : W.grownBy W' u0.ownBlock) (ho : W'.ownsRow w0.heap.size e sz u n xs) :
    AppG w0 e sz n xs ys v px nm (updB S 2) [u0, u1, u, u3, u4, u5, u6, u7] W' := by
  have h6 : ¬ S 6 = true := fun e => by have := (h.d6 e).1; rw [hn] at this; cases this
  exact AppF.g ⟨Below.trans h.ext hb, fun _ e => (by cases e), h.a1, fun _ _ => ho, h.a3, h.a4, fun e e' => own_far (h.a5 e e') hg (fun b hv => h.ne h0 hn e b hv), fun _ e => (by cases e), fun e => absurd e h6, fun e => absurd (h.d7 e) h6, fun _ => h0, fun e => absurd e h6, h.d7⟩
theorem AppF.s3 (h : AppF w0 e sz n xs ys v px nm S u0 u1 u2 u3 u4 u5 u6 u7 W) : AppG w0 e sz n xs ys v px nm (updB S 3) [u0, u1, u2, px, u4, u5, u6, u7] W :=
  AppF.g ⟨h.ext, h.a0, h.a1, h.a2, fun _ => rfl, h.a4, h.a5, h.ne, h.a6, h.a7, h.d2, h.d6, h.d7⟩
theorem AppF.s4 (h : AppF w0 e sz n xs ys v px nm S u0 u1 u2 u3 u4 u5 u6 u7 W) : AppG w0 e sz n xs ys v px nm (updB S 4) [u0, u1, u2, u3, nm, u5, u6, u7] W :=
  AppF.g ⟨h.ext, h.a0, h.a1, h.a2, h.a3, fun _ => rfl, h.a5, h.ne, h.a6, h.a7, h.d2, h.d6, h.d7⟩
theorem AppF.s5 (h : AppF w0 e sz n xs ys v px nm S u0 u1 u2 u3 u4 u5 u6 u7 W) (hn : S 5 = false) (hy : ys.length = sz) :
    AppG w0 e sz n xs ys v px nm (updB S 5) [u0, u1, u2, u3, u4, .slice (some ⟨W.heap.size, 0, none⟩) 1 1, u6, u7] (W.alloc (.cells ys.toArray e)) := by
  have hx := Ext.alloc W (.cells ys.toArray e)
  have h6 : ¬ S 6 = true := fun e => by have := (h.d6 e).2; rw [hn] at this; cases this
  refine AppF.g ⟨h.ext.trans hx, fun e e' => own_ext (h.a0 e e') hx, h.a1, fun e e' => own_ext (h.a2 e e') hx, h.a3, h.a4, fun _ _ => own_new _ _ ys.toArray _ _ _ h.ext.size (by simp [hy]) (by unfold maxLen; omega), fun e0 e2 _ b hb hh => ?_, fun e => absurd e h6, fun e => absurd (h.d7 e) h6, h.d2, fun e => absurd e h6, h.d7⟩
  have hlt := own_in (h.a0 e0 e2) hh
  have : W.heap.size = b := Option.some.inj hb
  omega
theorem AppF.s6 (h : AppF w0 e sz n xs ys v px nm S u0 u1 u2 u3 u4 u5 u6 u7 W) (h2 : S 2 = true) (h5 : S 5 = true) (hn : S 6 = false) {W' : World} {u : Value} (hb : Below w0.heap.size W W') (ho : W'.ownsRow w0.heap.size e sz u (n + 1) (xs ++ ys)) :
    AppG w0 e sz n xs ys v px nm (updB S 6) [u0, u1, u2, u3, u4, u5, u, u7] W' := by
  have h7 : ¬ S 7 = true := fun e => by have := h.d7 e; rw [hn] at this; cases this
  exact AppF.g ⟨Below.trans h.ext hb, fun _ e => (by have e' : S 2 = false := e; rw [h2] at e'; cases e'), h.a1, fun _ e => (by cases e), h.a3, h.a4, fun _ e => (by cases e), fun _ e => (by have e' : S 2 = false := e; rw [h2] at e'; cases e'), fun _ => ho, fun e => absurd e h7, h.d2, fun _ => ⟨h2, h5⟩, fun e => absurd e h7⟩
theorem AppF.s7 (h : AppF w0 e sz n xs ys v px nm S u0 u1 u2 u3 u4 u5 u6 u7 W) (h6 : S 6 = true) : AppG w0 e sz n xs ys v px nm (updB S 7) [u0, u1, u2, u3, u4, u5, u6, u6] W :=
  AppF.g ⟨h.ext, h.a0, h.a1, h.a2, h.a3, h.a4, h.a5, h.ne, h.a6, fun _ => h.a6 h6, h.d2, h.d6, fun _ => h6⟩
end
end Go.Proofs.Ytngnplghjaojhaa

/- The document: variables with that of a term. -/
namespace Go.Proofs.Ytngnplghjaojhaa
set_option maxRecDepth 100000
set_option maxHeartbeats 2000000
set_option linter.unusedSimpArgs false
open Go.RowKit Go.Shelf Go.Sort
attribute [local go_sem] Oper.semAt_some wide_fn wide_depth
set_option linter.unusedVariables false
theorem nil_yes {x : ByteArray} (h : x = nilB) : x.toList.isEmpty = true := by rw [ByteArray.toList_eq, h]; rfl
theorem nil_no {x : ByteArray} (h : x ≠ nilB) : x.toList.isEmpty = false := by
  rw [ByteArray.toList_eq]
  cases hd : x.data.toList with
  | nil => exact absurd (bts_inj (show bts x = bts nilB from hd)) h
  | cons a r => rfl
theorem strs_one (T : List ByteArray) : ∀ x ∈ T.map Value.string, x.oneCell' = true := by
  intro x hx
  obtain ⟨y, _, rfl⟩ := List.mem_map.1 hx
  rfl
def termS (T : List ByteArray) (t : Bool × ByteArray) : List ByteArray := if t.1 = true ∨ t.2 = nilB ∨ hasB t.2 T = true then T else T ++ [t.2]
set_option maxHeartbeats 1000000 in
theorem termS_own (v : Value) (T : List ByteArray) (key : Bool) (name : ByteArray) (w : World) (hT : Strs w v T) (hl : T.length ≤ 1000000000) :
    Calls Try.prog 47 #[v, .agg #[.bool key, .string name]] w fun e w' => ∃ u, e = .returned u ∧ (u = v ∧ termS T (key, name) = T ∨ w'.ownsRow w.heap.size 9 1 u (termS T (key, name)).length ((termS T (key, name)).map Value.string)) ∧ Ext w w' := by
  have hmo : Try.prog.follows .mixedOrders = true := by kernel_rfl
  obtain ⟨a, c, rfl, hc1, hc2⟩ := Sl.shape hT
  have hx0 := Ext.alloc w (.cells #[.bool key, .string name] 62)
  have hb0 : RowAt (w.alloc (.cells #[.bool key, .string name] 62)) w.heap.size 62 [.bool key, .string name] := RowAt.new _ _ _
  have HX := Lib.hid hx0
  have HB := Lib.hid hb0
  have HT := Lib.hid hT
  clear hT hx0 hb0
  cases key with
  | true =>
    have hres : termS T (true, name) = T := by unfold termS; simp
    rw [hres]
    clear hres
    go_enter Try.func47, Try.ntmps47
    go_wp2_with fail
    go_ret
    exact ⟨_, rfl, .inl ⟨rfl, by trivial⟩, HX.out⟩
  | false =>
    by_cases hnm : name = nilB
    · have hs : name.toList.isEmpty = true := nil_yes hnm
      have hres : termS T (false, name) = T := by unfold termS; rw [if_pos (.inr (.inl hnm))]
      rw [hres]
      clear hres hnm
      go_enter Try.func47, Try.ntmps47
      go_wp2_with fail
      go_ret
      exact ⟨_, rfl, .inl ⟨rfl, by trivial⟩, HX.out⟩
    · have hs : name.toList.isEmpty = false := nil_no hnm
      have hha := hasS_any name _ T _ (HT.out.ext HX.out)
      have HH := Lib.hid hha
      clear hha
      by_cases hin : hasB name T = true
      · have hres : termS T (false, name) = T := by unfold termS; rw [if_pos (.inr (.inr hin))]
        rw [hres]
        rw [hin] at HH
        clear hres hnm hin
        go_enter Try.func47, Try.ntmps47
        go_wp2_with fail
        refine HH.out.mono ?_
        rintro e w1 ⟨rfl, hx1⟩
        go_wp2_with fail
        go_ret
        exact ⟨_, rfl, .inl ⟨rfl, by trivial⟩, HX.out.trans hx1⟩
      · have hres : termS T (false, name) = T ++ [name] := by unfold termS; rw [if_neg (by simp only [hnm, hin]; simp)]
        have hf : hasB name T = false := by simpa using hin
        rw [hres]
        rw [hf] at HH
        clear hres hnm hin hf
        go_enter Try.func47, Try.ntmps47
        go_wp2_with fail
        refine HH.out.mono ?_
        rintro e w1 ⟨rfl, hx1⟩
        have HX1 := Lib.hid (HX.out.trans hx1)
        have HB1 := Lib.hid (HB.out.ext hx1)
        have HT1 := Lib.hid (HT.out.ext HX1.out)
        clear hx1
        go_upto_region 3 with fail
        clear hs
        obtain ⟨x, hx⟩ : ∃ x, w.heap.size = x := ⟨_, rfl⟩
        rw [hx] at HB1
        try simp only [hx]
        clear hx
        refine wp_region_inv [19, 20, 21, 22, 23, 24, 25, 4] _ depA (AppG w1 9 1 T.length (T.map Value.string) [.string name] (.slice a T.length c) (.pointer (some ⟨x, 1, none⟩)) (.string name)) hmo (by kernel_rfl) (by kernel_rfl) (puts_self _ _) (AppG.start rfl (Ext.drewN w1 1)) ?_ ?_
        · refine ⟨?_, ?_, ?_, ?_, ?_, ?_, ?_, ?_, trivial⟩
          all_goals
            rintro S us wq hd hn ⟨u0, u1, u2, u3, u4, u5, u6, u7, rfl, hF⟩ K hK
            have hK' := fun u0 u1 u2 u3 u4 u5 u6 u7 w' h => hK [u0, u1, u2, u3, u4, u5, u6, u7] w' h
            clear hK
            simp only [puts, Act.put, List.setIfInBounds_toArray, List.set_cons_succ, List.set_cons_zero] at hK' ⊢
            have HK := Lib.hid hK'
            have HF := Lib.hid hF
            have HN := Lib.hid hn
            have HD := Lib.hid hd
            clear hK' hF hn hd
          · have hk := HK.out _ u1 u2 u3 u4 u5 u6 u7 _ (HF.out.s0 HN.out)
            go_simp
            exact hk
          · have hk := HK.out u0 _ u2 u3 u4 u5 u6 u7 _ HF.out.s1
            go_simp
            exact hk
          · have h0 := HD.out 0 (by decide)
            have hv := HF.out.a1 (HD.out 1 (by decide))
            have ho := HF.out.a0 h0 HN.out
            have hsl := HT1.out.ext HF.out.ext
            rw [← hv] at hsl
            have HO := Lib.hid ho
            have HS := Lib.hid hsl
            have H0 := Lib.hid h0
            clear hv ho hsl h0
            rw [if_pos (show Region.wanted _ _ = true from rfl)]
            refine wp_append_sl wq _ _ 22 rfl elStr rfl HO.out rfl HS.out (by simp) (strs_one T) (by omega) (by unfold maxLen; omega) HF.out.ext.size ?_
            intro v' w' ho hb hg _
            simp only [Act.put, List.setIfInBounds_toArray, List.set_cons_succ, List.set_cons_zero]
            rw [Nat.zero_add, List.nil_append] at ho
            exact HK.out u0 u1 v' u3 u4 u5 u6 u7 w' (HF.out.s2 H0.out HN.out hb hg ho)
          · have hk := HK.out u0 u1 u2 _ u4 u5 u6 u7 _ HF.out.s3
            go_simp
            exact hk
          · have hu := HF.out.a3 (HD.out 3 (by decide))
            have hk := HK.out u0 u1 u2 u3 _ u5 u6 u7 _ HF.out.s4
            have d1 := (HB1.out.ext HF.out.ext).cell (i := 1) rfl
            subst hu
            go_simp
            exact hk
          · have hu := HF.out.a4 (HD.out 4 (by decide))
            have hk := HK.out u0 u1 u2 u3 u4 _ u6 u7 _ (HF.out.s5 HN.out rfl)
            subst hu
            go_simp
            exact hk
          · have h2 := HD.out 2 (by decide)
            have h5 := HD.out 5 (by decide)
            have ho := HF.out.a2 h2 HN.out
            have hsl := Sl.of_own (HF.out.a5 h5 HN.out)
            rw [if_pos (show Region.wanted _ _ = true from rfl)]
            refine wp_append_sl wq _ _ 22 rfl elStr rfl ho rfl hsl (by simp) (strs_one [name]) (by omega) (by unfold maxLen; omega) HF.out.ext.size ?_
            intro v' w' ho hb hg _
            simp only [Act.put, List.setIfInBounds_toArray, List.set_cons_succ, List.set_cons_zero]
            exact HK.out u0 u1 u2 u3 u4 u5 v' u7 w' (HF.out.s6 h2 h5 HN.out hb ho)
          · have h6 := HD.out 6 (by decide)
            have hk := HK.out u0 u1 u2 u3 u4 u5 u6 _ _ (HF.out.s7 h6)
            go_simp
            exact hk
        · rintro S us wq hS ⟨u0, u1, u2, u3, u4, u5, u6, u7, rfl, hF⟩
          have ho := hF.a7 (hS 7 (by decide))
          have HXF := Lib.hid (HX1.out.trans hF.ext)
          have HO := Lib.hid ho
          clear ho hF hS
          simp only [puts, Act.put, List.setIfInBounds_toArray, List.set_cons_succ, List.set_cons_zero]
          go_wp2_with fail
          go_ret
          refine ⟨_, rfl, .inr ?_, HXF.out⟩
          rw [List.length_append, List.map_append]
          exact own_base HO.out HX1.out.size
/-- Texts that lie in memory from B on. -/
def Fresh (B : Nat) (v : Value) (l : List ByteArray) : Prop := 0 < l.length → ∃ g o n c, v = .slice (some ⟨g, o, none⟩) n c ∧ B ≤ g
theorem Fresh.own {w : World} {B : Nat} {e : TypeId} {v : Value} {l : List ByteArray} (h : w.ownsRow B e 1 v l.length (l.map Value.string)) : Fresh B v l := fun hn => by
  obtain ⟨hl, ⟨rfl, h0⟩ | ⟨g, cap, cur, rfl, hg, _⟩⟩ := h
  · omega
  · exact ⟨g, 0, _, cap, rfl, hg⟩
theorem Fresh.low {A B : Nat} {v : Value} {l : List ByteArray} (h : Fresh B v l) (hA : A ≤ B) : Fresh A v l := fun hn => by
  obtain ⟨g, o, n, c, e, hg⟩ := h hn
  exact ⟨g, o, n, c, e, by omega⟩
theorem termS_frs (v : Value) (T : List ByteArray) (key : Bool) (name : ByteArray) (w : World) (B : Nat) (hT : Strs w v T) (hf : Fresh B v T) (hB : B ≤ w.heap.size) (hl : T.length ≤ 1000000000) :
    Calls Try.prog 47 #[v, .agg #[.bool key, .string name]] w fun e w' => ∃ u, e = .returned u ∧ (Strs w' u (termS T (key, name)) ∧ Fresh B u (termS T (key, name))) ∧ Ext w w' := by
  refine (termS_own v T key name w hT hl).mono ?_
  rintro e w' ⟨u, rfl, ⟨rfl, hr⟩ | ho, hx⟩
  · exact ⟨_, rfl, by rw [hr]; exact ⟨hT.ext hx, hf⟩, hx⟩
  · exact ⟨_, rfl, ⟨Sl.of_own ho, Fresh.low (Fresh.own ho) hB⟩, hx⟩
end Go.Proofs.Ytngnplghjaojhaa

/- The document: how many atoms are edges. -/
namespace Go.Proofs.Ytngnplghjaojhaa
set_option maxRecDepth 100000
set_option maxHeartbeats 2000000
set_option linter.unusedSimpArgs false
open Go.RowKit Go.Shelf Go.Sort
attribute [local go_sem] Oper.semAt_some wide_fn wide_depth
set_option linter.unusedVariables false
/-- Atoms in memory. -/
def Ats (w : World) (v : Value) (l : List Atm) : Prop := Sl w v l.length (l.flatMap atCells)
theorem Ats.ext {w w' : World} {v : Value} {l : List Atm} (h : Ats w v l) (hx : Ext w w') : Ats w' v l := Sl.ext h hx
theorem Ats.shape {w : World} {v : Value} {l : List Atm} (h : Ats w v l) : ∃ a c, v = .slice a l.length c ∧ l.length ≤ c ∧ c ≤ 9223372036854775807 := Sl.shape h
theorem Ats.at_ {w : World} {a : Option Addr} {n c : Nat} {l : List Atm} (h : Ats w (.slice a n c) l) {k : Nat} (hk : k < l.length) : ∃ b o, a = some ⟨b, o, none⟩ ∧
    w.cell? ⟨b, o + k * 7, none⟩ = some (.int .i64 l[k].kind) ∧ w.cell? ⟨b, o + k * 7 + 1, none⟩ = some (.bool l[k].fk) ∧ w.cell? ⟨b, o + k * 7 + 2, none⟩ = some (.string l[k].fn) ∧
    w.cell? ⟨b, o + k * 7 + 3, none⟩ = some (.string l[k].name) ∧ w.cell? ⟨b, o + k * 7 + 4, none⟩ = some (.string l[k].value) ∧ w.cell? ⟨b, o + k * 7 + 5, none⟩ = some (.bool l[k].tk) ∧ w.cell? ⟨b, o + k * 7 + 6, none⟩ = some (.string l[k].tn) := by
  obtain ⟨a', c', e, _, _, hc⟩ := id h
  simp only [Value.slice.injEq] at e
  obtain ⟨rfl, _, rfl⟩ := e
  have hlen := flatMap_len atCells 7 (fun _ => rfl) l
  obtain ⟨b, o, rfl, hcell⟩ := hc (by omega)
  have hh := fun j (hj : j < 7) => flatMap_at atCells 7 (fun _ => rfl) l k j hk hj
  exact ⟨b, o, rfl, hcell _ _ (hh 0 (by omega)), by rw [Nat.add_assoc]; exact hcell _ _ (hh 1 (by omega)), by rw [Nat.add_assoc]; exact hcell _ _ (hh 2 (by omega)), by rw [Nat.add_assoc]; exact hcell _ _ (hh 3 (by omega)), by rw [Nat.add_assoc]; exact hcell _ _ (hh 4 (by omega)), by rw [Nat.add_assoc]; exact hcell _ _ (hh 5 (by omega)), by rw [Nat.add_assoc]; exact hcell _ _ (hh 6 (by omega))⟩
theorem edgesOf_take (l : List Atm) (j : Nat) (h : j < l.length) : edgesOf (l.take (j + 1)) = edgesOf (l.take j) + (if l[j].kind = 4 then 1 else 0) := by
  unfold edgesOf
  rw [List.take_succ_eq_append_getElem h, List.filter_append, List.length_append]
  by_cases h4 : l[j].kind = 4 <;> simp [h4]
theorem edgesOf_le (l : List Atm) : edgesOf l ≤ l.length := List.length_filter_le _ _
set_option maxHeartbeats 1000000 in
theorem edgesS_any (v : Value) (l : List Atm) (w : World) (h : Ats w v l) (hl : l.length ≤ 1000000000) :
    Calls Try.prog 69 #[v] w fun e w' => e = .returned (.int .i64 (edgesOf l : Nat)) ∧ Ext w w' := by
  obtain ⟨a, c, rfl, hc1, hc2⟩ := h.shape
  have H := Lib.hid h
  clear h
  go_enter Try.func69, Try.ntmps69
  go_wp2_with fail
  go_loopg [3, 8] l.length (fun g n i wr => ∃ j m : Nat, j ≤ l.length ∧ g = l.length - j ∧ i = .int .i64 j ∧ n = .int .i64 m ∧ m = edgesOf (l.take j) ∧ Ext w wr)
  case atStart => exact ⟨0, 0, Nat.zero_le _, rfl, rfl, rfl, rfl, Ext.refl _⟩
  case round =>
    obtain ⟨j, m, hj, hg, rfl, rfl, hm, hxr⟩ := hrel
    have Hg := Lib.hid hg
    have hml : m ≤ l.length := by rw [hm]; exact Nat.le_trans (edgesOf_le _) (by simp; omega)
    have HM := Lib.hid hm
    clear hg hm
    by_cases hlt : j < l.length
    · obtain ⟨b, o, rfl, c0, c1, c2, c3, c4, c5, c6⟩ := (H.out.ext hxr).at_ hlt
      have hsn := edgesOf_take l j hlt
      rw [← HM.out] at hsn
      generalize l[j] = x at *
      obtain ⟨k, fk, fn, nm, va, tk, tn⟩ := x
      dsimp only at c0 c1 c2 c3 c4 c5 c6 hsn
      have HSN := Lib.hid hsn
      clear hsn
      have hwm : IntKind.i64.wrap ((m : Int) + 1) = (m : Int) + 1 := IntWalk.i64_in _ (by omega)
      by_cases hk : k = 4
      · have hs : (k == 4) = true := by simp [hk]
        have HS := Lib.hid (show edgesOf (l.take (j + 1)) = m + 1 by rw [HSN.out, if_pos hk])
        clear hk
        go_wp2_with fail
        go_roundg (l.length - (j + 1))
        case measure => have := Hg.out; omega
        case rel => exact ⟨j + 1, m + 1, by omega, rfl, by go_num, by go_num, HS.out.symm, hxr.trans (Ext.alloc _ _)⟩
      · have hs : (k == 4) = false := by simp [hk]
        have HS := Lib.hid (show edgesOf (l.take (j + 1)) = m by rw [HSN.out, if_neg hk]; rfl)
        clear hk
        go_wp2_with fail
        go_roundg (l.length - (j + 1))
        case measure => have := Hg.out; omega
        case rel => exact ⟨j + 1, m, by omega, rfl, by go_num, rfl, HS.out.symm, hxr.trans (Ext.alloc _ _)⟩
    · have he : j = l.length := by omega
      subst he
      go_wp2_with fail
      go_ret
      exact ⟨by rw [HM.out, List.take_length]; rfl, hxr⟩
end Go.Proofs.Ytngnplghjaojhaa

/- The document: the variables of atoms. -/
namespace Go.Proofs.Ytngnplghjaojhaa
set_option maxRecDepth 100000
set_option maxHeartbeats 2000000
set_option linter.unusedSimpArgs false
open Go.RowKit Go.Shelf Go.Sort
attribute [local go_sem] Oper.semAt_some wide_fn wide_depth
set_option linter.unusedVariables false
def varsS (l : List Atm) : List ByteArray := l.foldl (fun T a => termS (termS T (a.fk, a.fn)) (a.tk, a.tn)) []
theorem termS_len (T : List ByteArray) (t : Bool × ByteArray) : (termS T t).length ≤ T.length + 1 := by
  unfold termS
  split
  · omega
  · simp
theorem varsS_take (l : List Atm) (j : Nat) (h : j < l.length) : varsS (l.take (j + 1)) = termS (termS (varsS (l.take j)) (l[j].fk, l[j].fn)) (l[j].tk, l[j].tn) := by
  unfold varsS
  rw [List.take_succ_eq_append_getElem h, List.foldl_append]
  rfl
theorem varsS_take_len (l : List Atm) : ∀ j, j ≤ l.length → (varsS (l.take j)).length ≤ 2 * j
  | 0, _ => by simp [varsS]
  | j + 1, h => by
    have ih := varsS_take_len l j (by omega)
    have h1 := termS_len (varsS (l.take j)) (l[j].fk, l[j].fn)
    have h2 := termS_len (termS (varsS (l.take j)) (l[j].fk, l[j].fn)) (l[j].tk, l[j].tn)
    rw [varsS_take l j h]
    omega
def groV : Nat → Gro
  | 2 => .read
  | 3 => .grow
  | 5 => .read
  | 6 => .grow
  | _ => .pure
set_option maxHeartbeats 2000000 in
theorem varsS_frs (v : Value) (l : List Atm) (w : World) (h : Ats w v l) (hl : l.length ≤ 100000000) :
    Calls Try.prog 24 #[v] w fun e w' => ∃ u, e = .returned u ∧ (Strs w' u (varsS l) ∧ Fresh w.heap.size u (varsS l)) ∧ Ext w w' := by
  have hmo : Try.prog.follows .mixedOrders = true := by kernel_rfl
  obtain ⟨a, c, rfl, hc1, hc2⟩ := h.shape
  have H := Lib.hid h
  clear h
  go_enter Try.func24, Try.ntmps24
  go_wp2_with fail
  go_loopg [3, 8] l.length (fun g n i wr => ∃ j : Nat, j ≤ l.length ∧ g = l.length - j ∧ i = .int .i64 j ∧ (Strs wr n (varsS (l.take j)) ∧ Fresh w.heap.size n (varsS (l.take j))) ∧ Ext w wr)
  case atStart => exact ⟨0, Nat.zero_le _, rfl, rfl, ⟨Sl.of_own (World.ownsRow_nil w 0 9 1), fun hn => by simp [varsS] at hn⟩, Ext.refl _⟩
  case round =>
    obtain ⟨j, hj, hg, rfl, ⟨hs, hfr⟩, hxr⟩ := hrel
    have Hg := Lib.hid hg
    obtain ⟨ua, uc, hu, hu1, hu2⟩ := Sl.shape hs
    subst hu
    have HS := Lib.hid hs
    have HFR := Lib.hid hfr
    clear hg hs hu1 hu2 hfr
    by_cases hlt : j < l.length
    · obtain ⟨b, o, rfl, c0, c1, c2, c3, c4, c5, c6⟩ := (H.out.ext hxr).at_ hlt
      have hsn := varsS_take l j hlt
      have hln := varsS_take_len l j hj
      generalize varsS (l.take j) = T at *
      generalize l[j] = x at *
      obtain ⟨k, fk, fn, nm, va, tk, tn⟩ := x
      dsimp only at c0 c1 c2 c3 c4 c5 c6 hsn
      have ht1 := termS_len T (fk, fn)
      have hbx := RowAt.new wr 64 [.int .i64 k, .bool fk, .string fn, .string nm, .string va, .bool tk, .string tn]
      have hx1 := Ext.alloc wr (.cells #[.int .i64 k, .bool fk, .string fn, .string nm, .string va, .bool tk, .string tn] 64)
      have HSN := Lib.hid hsn
      have HBX := Lib.hid hbx
      have HX1 := Lib.hid (show Ext w _ from hxr.trans hx1)
      have HS1 := Lib.hid (HS.out.ext hx1)
      clear hsn hbx hx1
      go_upto_region 5 with fail
      clear c0 c1 c2 c3 c4 c5 c6
      generalize wr.alloc (.cells #[.int .i64 k, .bool fk, .string fn, .string nm, .string va, .bool tk, .string tn] 64) = w1 at *
      obtain ⟨y, hy⟩ : ∃ y, wr.heap.size = y := ⟨_, rfl⟩
      rw [hy] at HBX
      try simp only [hy]
      clear hy
      refine wp_region_gro groV [0, 1, 2, 4, 5, 3, 6, 7] hmo (by kernel_rfl) rfl (by kernel_rfl) (fun _ _ _ _ _ h => h) ?_
      have hxd := Ext.drewN w1 1
      have hb := HBX.out.ext hxd
      replace HX1 := Lib.hid (HX1.out.trans hxd)
      replace HS1 := Lib.hid (HS1.out.ext hxd)
      change GroW _ _ _ _ _ _ w1.drew
      replace hb : RowAt w1.drew y 64 [.int .i64 k, .bool fk, .string fn, .string nm, .string va, .bool tk, .string tn] := hb
      replace HX1 : Hid (Ext w w1.drew) := HX1
      replace HS1 : Hid (Strs w1.drew (.slice ua T.length uc) T) := HS1
      clear hxd HBX
      generalize w1.drew = w2 at *
      have d1 := hb.cell (i := 1) rfl
      have d2 := hb.cell (i := 2) rfl
      have d5 := hb.cell (i := 5) rfl
      have d6 := hb.cell (i := 6) rfl
      have HC1 := Lib.hid (termS_frs (.slice ua T.length uc) T fk fn w2 w.heap.size HS1.out HFR.out HX1.out.size (by omega))
      clear hb
      repeat (first
        | (refine groL_pure rfl rfl ?_; intro K hK; go_simp; refine hK _ ?_; clear hK K)
        | (refine groL_read rfl rfl ?_; intro K S hS hK; go_simp; refine hK _ ?_; clear hK K hS S)
        | (refine groL_read rfl rfl ?_; intro K S hS hK; go_simp; refine ⟨hS _ ?_, hK _ ?_⟩; (clear hK K hS S; intro w' hx'; have hce := ext_some hx'; go_simp); clear hK K hS S)
        | (refine groL_write rfl rfl ?_; intro K hK; go_simp; refine hK _ _ ?_; clear hK K))
      refine groL_grow rfl rfl ?_
      intro K hK
      go_simp
      refine HC1.out.mono ?_
      rintro e w3 ⟨u1, rfl, hu1, hx3⟩
      go_simp
      refine hK _ _ ⟨hx3, ?_⟩
      clear hK K d1 d2 d5 d6
      have HX3 := Lib.hid (HX1.out.trans hx3)
      have HC2 := Lib.hid (termS_frs u1 (termS T (fk, fn)) tk tn w3 w.heap.size hu1.1 hu1.2 HX3.out.size (by omega))
      clear hu1 hx3
      refine groL_grow rfl rfl ?_
      intro K hK
      go_simp
      refine HC2.out.mono ?_
      rintro e w4 ⟨u2, rfl, hu2, hx4⟩
      go_simp
      refine hK _ _ ⟨hx4, ?_⟩
      clear hK K
      have HU2 := Lib.hid hu2
      have HX4 := Lib.hid (HX3.out.trans hx4)
      clear hu2 hx4
      repeat (first
        | (refine groL_pure rfl rfl ?_; intro K hK; go_simp; refine hK _ ?_; clear hK K)
        | (refine groL_read rfl rfl ?_; intro K S hS hK; go_simp; refine hK _ ?_; clear hK K hS S)
        | (refine groL_read rfl rfl ?_; intro K S hS hK; go_simp; refine ⟨hS _ ?_, hK _ ?_⟩; (clear hK K hS S; intro w' hx'; have hce := ext_some hx'; go_simp); clear hK K hS S)
        | (refine groL_write rfl rfl ?_; intro K hK; go_simp; refine hK _ _ ?_; clear hK K))
      refine groL_nil ?_
      go_wp2_with fail
      go_roundg (l.length - (j + 1))
      case measure => have := Hg.out; omega
      case rel => exact ⟨j + 1, by omega, rfl, by go_num, by rw [HSN.out]; exact HU2.out, HX4.out⟩
    · have he : j = l.length := by omega
      subst he
      go_wp2_with fail
      go_ret
      refine ⟨.slice ua (varsS (l.take l.length)).length uc, rfl, ?_, hxr⟩
      have h := HS.out
      have h2 := HFR.out
      rw [List.take_length] at h h2 ⊢
      exact ⟨h, h2⟩
theorem varsS_any (v : Value) (l : List Atm) (w : World) (h : Ats w v l) (hl : l.length ≤ 100000000) :
    Calls Try.prog 24 #[v] w fun e w' => ∃ u, e = .returned u ∧ Strs w' u (varsS l) ∧ Ext w w' :=
  (varsS_frs v l w h hl).mono fun e w' ⟨u, he, hs, hx⟩ => ⟨u, he, hs.1, hx⟩
end Go.Proofs.Ytngnplghjaojhaa
