/- A region that draws its order, by what holds when some of its operations have been carried out. No program in sight. -/
import Derived.Test.YtkmbnghghbfkdaaGreatGp03
import Derived.Test.YtkmbnghghbfkdaaGreatGp02
import Derived.Test.YtkmbnghghbfkdaaGreatGp16
import Derived.Test.YtkmbnghghbfkdaaGreatGp14
import Derived.Test.YtkmbnghghbfkdaaGreatGp15
import Derived.Test.YtkmbnghghbfkdaaGreatGp01
set_option linter.unusedSimpArgs false
set_option linter.unusedVariables false
set_option maxHeartbeats 2000000
set_option maxRecDepth 100000

namespace Go.Proofs.YtkmbnghghbfkdaaGreat
open Go.RowKit Go.Sort
section
variable {P : Program} {md : Region.Mode} {ops : Array Oper} {Q : Exit → Act → World → Prop}
def acycB (md : Region.Mode) (ops : Array Oper) : Bool := (List.range ops.size).all fun i => match ops[i]? with
 | none => true
 | some o => o.after.all (fun e => !Region.binds md e || decide (e.on < i))
theorem acyc_ready {listed : Array Bool} (hB : acycB md ops = true) (hz : listed.size = ops.size) (hr : Region.ready md ops listed = []) : ∀ j, j < ops.size → listed.getD j true = true := by
 intro j
 induction j using Nat.strongRecOn with
 | _ j ih =>
  intro hj
  refine Classical.byContradiction fun hne => ?_
  have hf : listed.getD j true = false := by simpa using hne
  have hm : j ∈ Region.ready md ops listed := by
   refine mem_ready.2 ⟨hf, ops[j], Array.getElem?_eq_getElem hj, fun e he hb => ?_⟩
   have h1 := List.all_eq_true.1 hB j (List.mem_range.2 hj)
   simp only [Array.getElem?_eq_getElem hj] at h1
   have h2 := Array.all_eq_true'.1 h1 e he
   simp only [hb, Bool.not_true, Bool.false_or, decide_eq_true_eq] at h2
   have h3 := ih e.on h2 (by omega)
   have hlt : e.on < listed.size := by omega
   simp only [Array.getD, hlt, dif_pos] at h3 ⊢
   exact h3
  rw [hr] at hm
  cases hm
theorem wpAny_of_inv {R : Array Bool → Act → World → Prop} (hB : acycB md ops = true)
 (hs : ∀ listed a w i o, listed.size = ops.size → ops[i]? = some o → i ∈ Region.ready md ops listed → R listed a w → opG P ops Q o (R (listed.setIfInBounds i true)) a w)
 (he : ∀ listed a w, listed.size = ops.size → (∀ j, j < ops.size → listed.getD j true = true) → R listed a w → Q .normal a w) :
 ∀ (f : Nat) (listed : Array Bool) (a : Act) (w : World), listed.size = ops.size → listed.toList.count false = f → R listed a w → wpAny P md ops Q f listed a w
 | 0, listed, a, w, hz, hc, h => by
  have hr : Region.ready md ops listed = [] := by
   refine List.eq_nil_iff_forall_not_mem.2 fun i hi => ?_
   obtain ⟨hf, o, ho, _⟩ := mem_ready.1 hi
   have hlt : i < listed.size := by rw [hz]; exact (Array.getElem?_eq_some_iff.1 ho).1
   simp only [Array.getD, hlt, dif_pos] at hf
   have hm : false ∈ listed.toList := by
    have h1 := List.getElem_mem (l := listed.toList) (n := i) (by simpa using hlt)
    have h2 : listed.toList[i]'(by simpa using hlt) = false := by simpa using hf
    rwa [h2] at h1
   have := List.count_pos_iff.2 hm
   omega
  exact ⟨hr, he listed a w hz (acyc_ready hB hz hr) h⟩
 | f + 1, listed, a, w, hz, hc, h => by
  refine ⟨fun hr => he listed a w hz (acyc_ready hB hz hr) h, fun i hi => ?_⟩
  obtain ⟨hf, o, ho, hdep⟩ := mem_ready.1 hi
  have hlt : i < listed.size := by rw [hz]; exact (Array.getElem?_eq_some_iff.1 ho).1
  simp only [Array.getD, hlt, dif_pos] at hf
  refine wpOp_of_opG ho (opG_mono (fun a' w' h' => wpAny_of_inv hB hs he f _ a' w' (by simpa using hz) ?_ h') (hs listed a w i o hz ho hi h))
  have hl : i < listed.toList.length := by simpa using hlt
  have hg : listed.toList[i] = false := by simpa using hf
  rw [Array.toList_setIfInBounds, List.count_set hl, hg]
  show listed.toList.count false - 1 + 0 = f
  omega
def puts (a : Act) : List Tmp → List Value → Act
 | s :: ss, v :: vs => puts (a.put (some s) v) ss vs
 | _, _ => a
def depB (md : Region.Mode) (ops : Array Oper) (dep : Nat → List Nat) : Bool := (List.range ops.size).all fun i => match ops[i]? with
 | none => true
 | some o => (dep i).all fun d => o.after.any (fun e => Region.binds md e && e.on == d)
def updB (S : Nat → Bool) (i : Nat) : Nat → Bool := fun j => if j = i then true else S j
theorem updB_at (S : Nat → Bool) (i : Nat) : updB S i i = true := if_pos rfl
theorem updB_ne (S : Nat → Bool) {i j : Nat} (h : j ≠ i) : updB S i j = S j := if_neg h
def stepsI (P : Program) (Q : Exit → Act → World → Prop) (l : Array Oper) (a0 : Act) (slots : List Tmp) (dep : Nat → List Nat) (F : (Nat → Bool) → List Value → World → Prop) : List Oper → Nat → Prop
 | [], _ => True
 | o :: r, i => (∀ S us w', (∀ d ∈ dep i, S d = true) → S i = false → F S us w' → ∀ K : Act → World → Prop, (∀ us' w'', F (updB S i) us' w'' → K (puts a0 slots us') w'') →
  if Region.wanted o (yielded l (puts a0 slots us).tmps) = true then o.wp P (puts a0 slots us) w' K Q else K ((puts a0 slots us).put o.dst undef) w') ∧ stepsI P Q l a0 slots dep F r (i + 1)
theorem stepsI_at {l : Array Oper} {a0 : Act} {slots : List Tmp} {dep : Nat → List Nat} {F : (Nat → Bool) → List Value → World → Prop} : ∀ (r : List Oper) (k : Nat), stepsI P Q l a0 slots dep F r k → ∀ i o, r[i]? = some o →
 (∀ S us w', (∀ d ∈ dep (k + i), S d = true) → S (k + i) = false → F S us w' → ∀ K : Act → World → Prop, (∀ us' w'', F (updB S (k + i)) us' w'' → K (puts a0 slots us') w'') →
  if Region.wanted o (yielded l (puts a0 slots us).tmps) = true then o.wp P (puts a0 slots us) w' K Q else K ((puts a0 slots us).put o.dst undef) w')
 | [], _, _, i, o, h => by simp at h
 | x :: r, k, hs, 0, o, h => by
  simp only [List.getElem?_cons_zero, Option.some.injEq] at h
  subst h
  exact hs.1
 | x :: r, k, hs, i + 1, o, h => by
  rw [List.getElem?_cons_succ] at h
  have := stepsI_at r (k + 1) hs.2 i o h
  rw [show k + 1 + i = k + (i + 1) from by omega] at this
  exact this
theorem wp_region_inv {id : Nat} {a0 : Act} {w : World} {l : List Oper} (slots : List Tmp) (us0 : List Value) (dep : Nat → List Nat) (F : (Nat → Bool) → List Value → World → Prop)
 (hm : P.follows .mixedOrders = true) (hB : acycB .any l.toArray = true) (hD : depB .any l.toArray dep = true)
 (ha : puts a0 slots us0 = a0) (h0 : F (fun _ => false) us0 w.drew)
 (hst : stepsI P Q l.toArray a0 slots dep F l 0)
 (he : ∀ S us w', (∀ j, j < l.length → S j = true) → F S us w' → Q .normal (puts a0 slots us) w') : (Code.region id l.toArray true).wp P Q a0 w := by
 have hs : ∀ i o, l.toArray[i]? = some o → ∀ S us w', (∀ d ∈ dep i, S d = true) → S i = false → F S us w' → ∀ K : Act → World → Prop, (∀ us' w'', F (updB S i) us' w'' → K (puts a0 slots us') w'') →
  if Region.wanted o (yielded l.toArray (puts a0 slots us).tmps) = true then o.wp P (puts a0 slots us) w' K Q else K ((puts a0 slots us).put o.dst undef) w' := fun i o ho => by
  have := stepsI_at l 0 hst i o (by simpa using ho)
  rw [Nat.zero_add] at this
  exact this
 refine wp_region_any hm ?_
 refine wpAny_of_inv (md := .any) (R := fun listed a w' => ∃ us, a = puts a0 slots us ∧ F (fun j => listed.getD j false) us w') hB ?_ ?_ _ _ _ _ (by simp) (by simp) ⟨us0, ha.symm, ?_⟩
 ·rintro listed a w' i o hz ho hi ⟨us, rfl, hF⟩
  obtain ⟨hf, o', ho', hdep⟩ := mem_ready.1 hi
  obtain rfl : o = o' := Option.some.inj (ho.symm.trans ho')
  have hlt : i < listed.size := by rw [hz]; exact (Array.getElem?_eq_some_iff.1 ho).1
  have hlt' : i < l.toArray.size := by omega
  have hfi : listed.getD i false = false := by
   simp only [Array.getD, hlt, dif_pos] at hf ⊢
   exact hf
  refine hs i o ho (fun j => listed.getD j false) us w' (fun d hd => ?_) hfi hF _ (fun us' w'' h' => ⟨us', rfl, ?_⟩)
  ·have h1 := List.all_eq_true.1 hD i (List.mem_range.2 hlt')
   simp only [ho] at h1
   have h2 := List.all_eq_true.1 h1 d hd
   obtain ⟨e, he1, he2⟩ := Array.any_eq_true'.1 h2
   simp only [Bool.and_eq_true, beq_iff_eq] at he2
   have h3 := hdep e he1 he2.1
   rw [he2.2] at h3
   exact h3
  ·have : (fun j => (listed.setIfInBounds i true).getD j false) = updB (fun j => listed.getD j false) i := by
    funext j
    by_cases e : j = i
    ·subst e; rw [updB_at]; simp [Array.getD, hlt]
    ·rw [updB_ne _ e, getD_set_ne false (Ne.symm e)]
   rw [this]
   exact h'
 ·rintro listed a w' hz hall ⟨us, rfl, hF⟩
  refine he _ us w' (fun j hj => ?_) hF
  have h1 := hall j (by simpa using hj)
  have hlt : j < listed.size := by rw [hz]; simpa using hj
  simp only [Array.getD, hlt, dif_pos] at h1 ⊢
  exact h1
 ·have : (fun j => (Array.replicate l.toArray.size false).getD j false) = fun _ => false := by
   funext j
   simp only [Array.getD]
   split
   ·simp
   ·rfl
  rw [this]
  exact h0
end
end Go.Proofs.YtkmbnghghbfkdaaGreat

/- Two structs are made by two calls, each kept in a box of its own, in one statement: whatever order the calls, the boxes and the stores come in. No program in sight. -/
namespace Go.Proofs.YtkmbnghghbfkdaaGreat
open Go.RowKit Go.Sort
section
variable {w0 : World} {V0 V1 : Value} {O0 O1 : World → Value → Prop} {T0 T1 : TypeId} {z0 z1 : List Value} {S : Nat → Bool} {l0 c0 l1 c1 x0 x1 : Value} {W : World}
end
theorem puts_self : ∀ (a : Act) (slots : List Tmp), puts a slots (slots.map fun s => a.tmps.getD s undef) = a
 | _, [] => rfl
 | a, s :: ss => by
  have h : a.put (some s) (a.tmps.getD s undef) = a := by
   obtain ⟨t, d⟩ := a
   show (⟨t.setIfInBounds s (t.getD s undef), d⟩ : Act) = ⟨t, d⟩
   congr 1
   apply Array.ext_getElem?
   intro i
   rw [Array.getElem?_setIfInBounds]
   split
   ·rename_i e
    subst e
    split
    ·rename_i hl
     simp [Array.getD, hl]
    ·rename_i hl
     rw [Array.getElem?_eq_none (by omega)]
   ·rfl
  show puts (a.put (some s) (a.tmps.getD s undef)) ss (ss.map fun s => a.tmps.getD s undef) = a
  rw [h]
  exact puts_self a ss
end Go.Proofs.YtkmbnghghbfkdaaGreat

/- The document's state: a token is taken. -/
namespace Go.Proofs.YtkmbnghghbfkdaaGreat
open Go.RowKit Go.Shelf Go.Sort
attribute [local go_sem] Oper.semAt_some wide_fn wide_depth
end Go.Proofs.YtkmbnghghbfkdaaGreat

/- The document's state: the token that is looked for is taken. -/
namespace Go.Proofs.YtkmbnghghbfkdaaGreat
open Go.RowKit Go.Shelf Go.Sort
attribute [local go_sem] Oper.semAt_some wide_fn wide_depth
end Go.Proofs.YtkmbnghghbfkdaaGreat

/- The document's state: is a word told here? -/
namespace Go.Proofs.YtkmbnghghbfkdaaGreat
open Go.RowKit Go.Shelf Go.Sort
attribute [local go_sem] Oper.semAt_some wide_fn wide_depth
theorem str_dec (x y : ByteArray) : (x.toList == y.toList) = decide (x = y) := by
 by_cases h : x = y
 ·rw [str_yes h, decide_eq_true h]
 ·rw [str_no h, decide_eq_false h]
end Go.Proofs.YtkmbnghghbfkdaaGreat

/- The document: is a text among others? -/
namespace Go.Proofs.YtkmbnghghbfkdaaGreat
open Go.RowKit Go.Shelf Go.Sort
attribute [local go_sem] Oper.semAt_some wide_fn wide_depth
theorem hasB_take (s : ByteArray) (T : List ByteArray) (i : Nat) (h : i < T.length) : hasB s (T.take (i + 1)) = (hasB s (T.take i) || decide (T[i] = s)) := by
 unfold hasB
 rw [List.take_succ_eq_append_getElem h, List.any_append]; simp
theorem hasB_mem {s : ByteArray} {T : List ByteArray} {i : Nat} (h : i < T.length) (hb : T[i] = s) : hasB s T = true := by
 rw [hasB_iff]
 exact hb ▸ List.getElem_mem h
set_option maxHeartbeats 1000000 in
theorem hasS_any (s : ByteArray) (v : Value) (T : List ByteArray) (w : World) (hT : Strs w v T) :
 Calls Tryz.prog 95 #[v, .string s] w fun e w' => e = .returned (.bool (hasB s T)) ∧ Ext w w' := by
 obtain ⟨a, c, rfl, hc1, hc2⟩ := Sl.shape hT
 have HT := Lib.hid hT
 clear hT
 go_enter Tryz.func95, Tryz.ntmps95
 go_wp2_with fail
 go_loopg [9] T.length (fun g i wr => ∃ j : Nat, j ≤ T.length ∧ g = T.length - j ∧ i = .int .i64 j ∧ hasB s (T.take j) = false ∧ Ext w wr)
 case atStart => exact ⟨0, Nat.zero_le _, rfl, rfl, rfl, Ext.refl _⟩
 case round =>
  obtain ⟨j, hj, hg, rfl, hb, hxr⟩ := hrel
  have Hg := Lib.hid hg
  have HB := Lib.hid hb
  clear hg hb
  by_cases hlt : j < T.length
  ·obtain ⟨b, o, rfl, c0⟩ := (HT.out.ext hxr).at_ hlt
   have hsn := hasB_take s T j hlt
   have hmem := fun h => hasB_mem (s := s) hlt h
   rw [HB.out, Bool.false_or] at hsn
   generalize T[j] = x at *
   have HSN := Lib.hid hsn
   have HMEM := Lib.hid hmem
   clear hsn hmem
   by_cases hxs : x = s
   ·have hs : (x.toList == s.toList) = true := str_yes hxs
    have HF := Lib.hid (HMEM.out hxs)
    clear hxs
    go_wp2_with fail
    go_ret
    exact ⟨by rw [HF.out]; rfl, hxr⟩
   ·have hs : (x.toList == s.toList) = false := str_no hxs
    have HD := Lib.hid hxs
    clear hxs
    go_wp2_with fail
    go_roundg (T.length - (j + 1))
    case measure => have := Hg.out; omega
    case rel => exact ⟨j + 1, by omega, rfl, by go_num, by rw [HSN.out]; exact decide_eq_false HD.out, hxr⟩
  ·have he : j = T.length := by omega
   subst he
   go_wp2_with fail
   go_ret
   exact ⟨by rw [← HB.out, List.take_length]; rfl, hxr⟩
end Go.Proofs.YtkmbnghghbfkdaaGreat

/- A new row of another's elements and one more, made in any order. -/
namespace Go.Proofs.YtkmbnghghbfkdaaGreat
open Go.RowKit Go.Shelf Go.Sort
attribute [local go_sem] Oper.semAt_some wide_fn wide_depth
structure AppF (w0 : World) (e : TypeId) (sz n : Nat) (xs ys : List Value) (v px nm : Value) (S : Nat → Bool) (u0 u1 u2 u3 u4 u5 u6 u7 : Value) (W : World) : Prop where
 ext : Ext w0 W
 a0 : S 0 = true → S 2 = false → W.ownsRow w0.heap.size e sz u0 0 []
 a1 : S 1 = true → u1 = v
 a2 : S 2 = true → S 6 = false → W.ownsRow w0.heap.size e sz u2 n xs
 a3 : S 3 = true → u3 = px
 a4 : S 4 = true → u4 = nm
 a5 : S 5 = true → S 6 = false → W.ownsRow w0.heap.size e sz u5 1 ys
 ne : S 0 = true → S 2 = false → S 5 = true → ∀ b, u5.ownBlock = some b → u0.ownBlock ≠ some b
 a6 : S 6 = true → W.ownsRow w0.heap.size e sz u6 (n + 1) (xs ++ ys)
 a7 : S 7 = true → W.ownsRow w0.heap.size e sz u7 (n + 1) (xs ++ ys)
 d2 : S 2 = true → S 0 = true
 d6 : S 6 = true → S 2 = true ∧ S 5 = true
 d7 : S 7 = true → S 6 = true
def AppG (w0 : World) (e : TypeId) (sz n : Nat) (xs ys : List Value) (v px nm : Value) (S : Nat → Bool) (us : List Value) (W : World) : Prop :=
 ∃ u0 u1 u2 u3 u4 u5 u6 u7, us = [u0, u1, u2, u3, u4, u5, u6, u7] ∧ AppF w0 e sz n xs ys v px nm S u0 u1 u2 u3 u4 u5 u6 u7 W
theorem own_in {W : World} {B : Nat} {e : TypeId} {sz n b : Nat} {v : Value} {xs : List Value} (h : W.ownsRow B e sz v n xs) (hb : v.ownBlock = some b) : b < W.heap.size := by
 rcases h.2 with ⟨rfl, _⟩ | ⟨g, cap, cur, rfl, h1, h2, _⟩
 ·cases hb
 ·cases hb
  exact (Array.getElem?_eq_some_iff.1 h2).1
theorem own_far {w w' : World} {B size n : Nat} {ty : TypeId} {v : Value} {xs : List Value} {row : Option Nat} (h : w.ownsRow B ty size v n xs) (hg : w.grownBy w' row) (hv : ∀ b, v.ownBlock = some b → row ≠ some b) : w'.ownsRow B ty size v n xs := by
 refine ⟨h.1, ?_⟩
 rcases h.2 with hn | ⟨g', cap, cur, rfl, hbg, hgg, rest⟩
 ·exact .inl hn
 ·exact .inr ⟨g', cap, cur, rfl, hbg, (hg.block g' (Array.getElem?_eq_some_iff.1 hgg).1 (fun e => hv g' rfl e.symm)).trans hgg, rest⟩
def depA : Nat → List Nat
 | 2 => [0, 1]
 | 4 => [3]
 | 5 => [4]
 | 6 => [2, 5]
 | 7 => [6]
 | _ => []
section
variable {w0 : World} {e : TypeId} {sz n : Nat} {xs ys : List Value} {v px nm : Value} {S : Nat → Bool} {us : List Value} {u0 u1 u2 u3 u4 u5 u6 u7 : Value} {W : World}
theorem AppG.start (hl : us.length = 8) (hx : Ext w0 W) : AppG w0 e sz n xs ys v px nm (fun _ => false) us W := by
 match us, hl with
 | [u0, u1, u2, u3, u4, u5, u6, u7], _ => exact ⟨u0, u1, u2, u3, u4, u5, u6, u7, rfl, hx, nofun, nofun, nofun, nofun, nofun, nofun, nofun, nofun, nofun, nofun, nofun, nofun⟩
theorem AppF.g (h : AppF w0 e sz n xs ys v px nm S u0 u1 u2 u3 u4 u5 u6 u7 W) : AppG w0 e sz n xs ys v px nm S [u0, u1, u2, u3, u4, u5, u6, u7] W := ⟨_, _, _, _, _, _, _, _, rfl, h⟩
theorem AppF.s0 (h : AppF w0 e sz n xs ys v px nm S u0 u1 u2 u3 u4 u5 u6 u7 W) (hn : S 0 = false) :
 AppG w0 e sz n xs ys v px nm (updB S 0) [.slice (some ⟨W.heap.size, 0, none⟩) 0 0, u1, u2, u3, u4, u5, u6, u7] (W.alloc (.cells #[] e)) := by
 have hx := Ext.alloc W (.cells #[] e)
 have h2 : ¬ S 2 = true := fun e => by have := h.d2 e; rw [hn] at this; cases this
 have h6 : ¬ S 6 = true := fun e => h2 (h.d6 e).1
 refine AppF.g ⟨h.ext.trans hx, fun _ _ => own_new _ _ _ _ _ _ h.ext.size (by simp) (Nat.zero_le _), h.a1, fun e => absurd e h2, h.a3, h.a4, fun e e' => own_ext (h.a5 e e') hx, fun _ _ e5 b hb hh => ?_, fun e => absurd e h6, fun e => absurd (h.d7 e) h6, fun _ => rfl, fun e => absurd e h6, h.d7⟩
 have hlt := own_in (h.a5 e5 (by simpa using h6)) hb
 have : W.heap.size = b := Option.some.inj hh
 omega
theorem AppF.s1 (h : AppF w0 e sz n xs ys v px nm S u0 u1 u2 u3 u4 u5 u6 u7 W) : AppG w0 e sz n xs ys v px nm (updB S 1) [u0, v, u2, u3, u4, u5, u6, u7] W :=
 AppF.g ⟨h.ext, h.a0, fun _ => rfl, h.a2, h.a3, h.a4, h.a5, h.ne, h.a6, h.a7, h.d2, h.d6, h.d7⟩
theorem AppF.s2 (h : AppF w0 e sz n xs ys v px nm S u0 u1 u2 u3 u4 u5 u6 u7 W) (h0 : S 0 = true) (hn : S 2 = false) {W' : World} {u : Value} (hb : Below w0.heap.size W W') (hg : W.grownBy W' u0.ownBlock) (ho : W'.ownsRow w0.heap.size e sz u n xs) :
 AppG w0 e sz n xs ys v px nm (updB S 2) [u0, u1, u, u3, u4, u5, u6, u7] W' := by
 have h6 : ¬ S 6 = true := fun e => by have := (h.d6 e).1; rw [hn] at this; cases this
 exact AppF.g ⟨Below.trans h.ext hb, fun _ e => (by cases e), h.a1, fun _ _ => ho, h.a3, h.a4, fun e e' => own_far (h.a5 e e') hg (fun b hv => h.ne h0 hn e b hv), fun _ e => (by cases e), fun e => absurd e h6, fun e => absurd (h.d7 e) h6, fun _ => h0, fun e => absurd e h6, h.d7⟩
theorem AppF.s3 (h : AppF w0 e sz n xs ys v px nm S u0 u1 u2 u3 u4 u5 u6 u7 W) : AppG w0 e sz n xs ys v px nm (updB S 3) [u0, u1, u2, px, u4, u5, u6, u7] W :=
 AppF.g ⟨h.ext, h.a0, h.a1, h.a2, fun _ => rfl, h.a4, h.a5, h.ne, h.a6, h.a7, h.d2, h.d6, h.d7⟩
theorem AppF.s4 (h : AppF w0 e sz n xs ys v px nm S u0 u1 u2 u3 u4 u5 u6 u7 W) : AppG w0 e sz n xs ys v px nm (updB S 4) [u0, u1, u2, u3, nm, u5, u6, u7] W :=
 AppF.g ⟨h.ext, h.a0, h.a1, h.a2, h.a3, fun _ => rfl, h.a5, h.ne, h.a6, h.a7, h.d2, h.d6, h.d7⟩
theorem AppF.s5 (h : AppF w0 e sz n xs ys v px nm S u0 u1 u2 u3 u4 u5 u6 u7 W) (hn : S 5 = false) (hy : ys.length = sz) :
 AppG w0 e sz n xs ys v px nm (updB S 5) [u0, u1, u2, u3, u4, .slice (some ⟨W.heap.size, 0, none⟩) 1 1, u6, u7] (W.alloc (.cells ys.toArray e)) := by
 have hx := Ext.alloc W (.cells ys.toArray e)
 have h6 : ¬ S 6 = true := fun e => by have := (h.d6 e).2; rw [hn] at this; cases this
 refine AppF.g ⟨h.ext.trans hx, fun e e' => own_ext (h.a0 e e') hx, h.a1, fun e e' => own_ext (h.a2 e e') hx, h.a3, h.a4, fun _ _ => own_new _ _ ys.toArray _ _ _ h.ext.size (by simp [hy]) (by unfold maxLen; omega), fun e0 e2 _ b hb hh => ?_, fun e => absurd e h6, fun e => absurd (h.d7 e) h6, h.d2, fun e => absurd e h6, h.d7⟩
 have hlt := own_in (h.a0 e0 e2) hh
 have : W.heap.size = b := Option.some.inj hb
 omega
theorem AppF.s6 (h : AppF w0 e sz n xs ys v px nm S u0 u1 u2 u3 u4 u5 u6 u7 W) (h2 : S 2 = true) (h5 : S 5 = true) (hn : S 6 = false) {W' : World} {u : Value} (hb : Below w0.heap.size W W') (ho : W'.ownsRow w0.heap.size e sz u (n + 1) (xs ++ ys)) :
 AppG w0 e sz n xs ys v px nm (updB S 6) [u0, u1, u2, u3, u4, u5, u, u7] W' := by
 have h7 : ¬ S 7 = true := fun e => by have := h.d7 e; rw [hn] at this; cases this
 exact AppF.g ⟨Below.trans h.ext hb, fun _ e => (by have e' : S 2 = false := e; rw [h2] at e'; cases e'), h.a1, fun _ e => (by cases e), h.a3, h.a4, fun _ e => (by cases e), fun _ e => (by have e' : S 2 = false := e; rw [h2] at e'; cases e'), fun _ => ho, fun e => absurd e h7, h.d2, fun _ => ⟨h2, h5⟩, fun e => absurd e h7⟩
theorem AppF.s7 (h : AppF w0 e sz n xs ys v px nm S u0 u1 u2 u3 u4 u5 u6 u7 W) (h6 : S 6 = true) : AppG w0 e sz n xs ys v px nm (updB S 7) [u0, u1, u2, u3, u4, u5, u6, u6] W :=
 AppF.g ⟨h.ext, h.a0, h.a1, h.a2, h.a3, h.a4, h.a5, h.ne, h.a6, fun _ => h.a6 h6, h.d2, h.d6, fun _ => h6⟩
end
end Go.Proofs.YtkmbnghghbfkdaaGreat

/- The document: variables with that of a term. -/
namespace Go.Proofs.YtkmbnghghbfkdaaGreat
open Go.RowKit Go.Shelf Go.Sort
attribute [local go_sem] Oper.semAt_some wide_fn wide_depth
theorem nil_yes {x : ByteArray} (h : x = nilB) : x.toList.isEmpty = true := by rw [ByteArray.toList_eq, h]; rfl
theorem nil_no {x : ByteArray} (h : x ≠ nilB) : x.toList.isEmpty = false := by
 rw [ByteArray.toList_eq]
 cases hd : x.data.toList with
 | nil => exact absurd (bts_inj (show bts x = bts nilB from hd)) h
 | cons a r => rfl
theorem strs_one (T : List ByteArray) : ∀ x ∈ T.map Value.string, x.oneCell' = true := by
 intro x hx
 obtain ⟨y, _, rfl⟩ := List.mem_map.1 hx
 rfl
def termS (T : List ByteArray) (t : Bool × ByteArray) : List ByteArray := if t.1 = true ∨ t.2 = nilB ∨ hasB t.2 T = true then T else T ++ [t.2]
set_option maxHeartbeats 1000000 in
theorem termS_any (v : Value) (T : List ByteArray) (key : Bool) (name : ByteArray) (w : World) (hT : Strs w v T) (hl : T.length ≤ 1000000000) :
 Calls Tryz.prog 92 #[v, .agg #[.bool key, .string name]] w fun e w' => ∃ u, e = .returned u ∧ Strs w' u (termS T (key, name)) ∧ Ext w w' := by
 have hmo : Tryz.prog.follows .mixedOrders = true := by kernel_rfl
 obtain ⟨a, c, rfl, hc1, hc2⟩ := Sl.shape hT
 have hx0 := Ext.alloc w (.cells #[.bool key, .string name] 86)
 have hb0 : RowAt (w.alloc (.cells #[.bool key, .string name] 86)) w.heap.size 86 [.bool key, .string name] := RowAt.new _ _ _
 have HX := Lib.hid hx0
 have HB := Lib.hid hb0
 have HT := Lib.hid hT
 clear hT hx0 hb0
 cases key with
 | true =>
  have hres : termS T (true, name) = T := by unfold termS; simp
  rw [hres]
  clear hres
  go_enter Tryz.func92, Tryz.ntmps92
  go_wp2_with fail
  go_ret
  exact ⟨_, rfl, HT.out.ext HX.out, HX.out⟩
 | false =>
  by_cases hnm : name = nilB
  ·have hs : name.toList.isEmpty = true := nil_yes hnm
   have hres : termS T (false, name) = T := by unfold termS; rw [if_pos (.inr (.inl hnm))]
   rw [hres]
   clear hres hnm
   go_enter Tryz.func92, Tryz.ntmps92
   go_wp2_with fail
   go_ret
   exact ⟨_, rfl, HT.out.ext HX.out, HX.out⟩
  ·have hs : name.toList.isEmpty = false := nil_no hnm
   have hha := hasS_any name _ T _ (HT.out.ext HX.out)
   have HH := Lib.hid hha
   clear hha
   by_cases hin : hasB name T = true
   ·have hres : termS T (false, name) = T := by unfold termS; rw [if_pos (.inr (.inr hin))]
    rw [hres]
    rw [hin] at HH
    clear hres hnm hin
    go_enter Tryz.func92, Tryz.ntmps92
    go_wp2_with fail
    refine HH.out.mono ?_
    rintro e w1 ⟨rfl, hx1⟩
    go_wp2_with fail
    go_ret
    exact ⟨_, rfl, HT.out.ext (HX.out.trans hx1), HX.out.trans hx1⟩
   ·have hres : termS T (false, name) = T ++ [name] := by unfold termS; rw [if_neg (by simp only [hnm, hin]; simp)]
    have hf : hasB name T = false := by simpa using hin
    rw [hres]
    rw [hf] at HH
    clear hres hnm hin hf
    go_enter Tryz.func92, Tryz.ntmps92
    go_wp2_with fail
    refine HH.out.mono ?_
    rintro e w1 ⟨rfl, hx1⟩
    have HX1 := Lib.hid (HX.out.trans hx1)
    have HB1 := Lib.hid (HB.out.ext hx1)
    have HT1 := Lib.hid (HT.out.ext HX1.out)
    clear hx1
    go_upto_region 3 with fail
    clear hs
    obtain ⟨x, hx⟩ : ∃ x, w.heap.size = x := ⟨_, rfl⟩
    rw [hx] at HB1
    try simp only [hx]
    clear hx
    refine wp_region_inv [19, 20, 21, 22, 23, 24, 25, 4] _ depA (AppG w1 9 1 T.length (T.map Value.string) [.string name] (.slice a T.length c) (.pointer (some ⟨x, 1, none⟩)) (.string name)) hmo (by kernel_rfl) (by kernel_rfl) (puts_self _ _) (AppG.start rfl (Ext.drewN w1 1)) ?_ ?_
    ·refine ⟨?_, ?_, ?_, ?_, ?_, ?_, ?_, ?_, trivial⟩
     all_goals
      rintro S us wq hd hn ⟨u0, u1, u2, u3, u4, u5, u6, u7, rfl, hF⟩ K hK
      have hK' := fun u0 u1 u2 u3 u4 u5 u6 u7 w' h => hK [u0, u1, u2, u3, u4, u5, u6, u7] w' h
      clear hK
      simp only [puts, Act.put, List.setIfInBounds_toArray, List.set_cons_succ, List.set_cons_zero] at hK' ⊢
      have HK := Lib.hid hK'
      have HF := Lib.hid hF
      have HN := Lib.hid hn
      have HD := Lib.hid hd
      clear hK' hF hn hd
     ·have hk := HK.out _ u1 u2 u3 u4 u5 u6 u7 _ (HF.out.s0 HN.out)
      go_simp
      exact hk
     ·have hk := HK.out u0 _ u2 u3 u4 u5 u6 u7 _ HF.out.s1
      go_simp
      exact hk
     ·have h0 := HD.out 0 (by decide)
      have hv := HF.out.a1 (HD.out 1 (by decide))
      have ho := HF.out.a0 h0 HN.out
      have hsl := HT1.out.ext HF.out.ext
      rw [← hv] at hsl
      have HO := Lib.hid ho
      have HS := Lib.hid hsl
      have H0 := Lib.hid h0
      clear hv ho hsl h0
      rw [if_pos (show Region.wanted _ _ = true from rfl)]
      refine wp_append_sl wq _ _ 22 rfl elStr rfl HO.out rfl HS.out (by simp) (strs_one T) (by omega) (by unfold maxLen; omega) HF.out.ext.size ?_
      intro v' w' ho hb hg _
      simp only [Act.put, List.setIfInBounds_toArray, List.set_cons_succ, List.set_cons_zero]
      rw [Nat.zero_add, List.nil_append] at ho
      exact HK.out u0 u1 v' u3 u4 u5 u6 u7 w' (HF.out.s2 H0.out HN.out hb hg ho)
     ·have hk := HK.out u0 u1 u2 _ u4 u5 u6 u7 _ HF.out.s3
      go_simp
      exact hk
     ·have hu := HF.out.a3 (HD.out 3 (by decide))
      have hk := HK.out u0 u1 u2 u3 _ u5 u6 u7 _ HF.out.s4
      have d1 := (HB1.out.ext HF.out.ext).cell (i := 1) rfl
      subst hu
      go_simp
      exact hk
     ·have hu := HF.out.a4 (HD.out 4 (by decide))
      have hk := HK.out u0 u1 u2 u3 u4 _ u6 u7 _ (HF.out.s5 HN.out rfl)
      subst hu
      go_simp
      exact hk
     ·have h2 := HD.out 2 (by decide)
      have h5 := HD.out 5 (by decide)
      have ho := HF.out.a2 h2 HN.out
      have hsl := Sl.of_own (HF.out.a5 h5 HN.out)
      rw [if_pos (show Region.wanted _ _ = true from rfl)]
      refine wp_append_sl wq _ _ 22 rfl elStr rfl ho rfl hsl (by simp) (strs_one [name]) (by omega) (by unfold maxLen; omega) HF.out.ext.size ?_
      intro v' w' ho hb hg _
      simp only [Act.put, List.setIfInBounds_toArray, List.set_cons_succ, List.set_cons_zero]
      exact HK.out u0 u1 u2 u3 u4 u5 v' u7 w' (HF.out.s6 h2 h5 HN.out hb ho)
     ·have h6 := HD.out 6 (by decide)
      have hk := HK.out u0 u1 u2 u3 u4 u5 u6 _ _ (HF.out.s7 h6)
      go_simp
      exact hk
    ·rintro S us wq hS ⟨u0, u1, u2, u3, u4, u5, u6, u7, rfl, hF⟩
     have ho := hF.a7 (hS 7 (by decide))
     have HXF := Lib.hid (HX1.out.trans hF.ext)
     have HO := Lib.hid ho
     clear ho hF hS
     simp only [puts, Act.put, List.setIfInBounds_toArray, List.set_cons_succ, List.set_cons_zero]
     go_wp2_with fail
     go_ret
     refine ⟨_, rfl, ?_, HXF.out⟩
     have h := Sl.of_own HO.out
     unfold Strs
     rw [List.length_append, List.map_append]
     exact h
end Go.Proofs.YtkmbnghghbfkdaaGreat

/- The reader in memory; one token. -/
namespace Go.Proofs.YtkmbnghghbfkdaaGreat
open Go.RowKit Go.Shelf Go.Sort
attribute [local go_sem] Oper.semAt_some wide_fn wide_depth
end Go.Proofs.YtkmbnghghbfkdaaGreat

/- A token is taken, or found wrong. -/
namespace Go.Proofs.YtkmbnghghbfkdaaGreat
open Go.RowKit Go.Shelf Go.Sort
attribute [local go_sem] Oper.semAt_some wide_fn wide_depth
end Go.Proofs.YtkmbnghghbfkdaaGreat

/- A word, a number, tokens one behind the other. -/
namespace Go.Proofs.YtkmbnghghbfkdaaGreat
open Go.RowKit Go.Shelf Go.Sort
attribute [local go_sem] Oper.semAt_some wide_fn wide_depth
end Go.Proofs.YtkmbnghghbfkdaaGreat

/- The reader among its atoms: what is its own, and what it leaves as it was. -/
namespace Go.Proofs.YtkmbnghghbfkdaaGreat
open Go.RowKit Go.Shelf Go.Sort
def atCells (a : Atm) : List Value := [.int .i64 a.kind, .bool a.fk, .string a.fn, .string a.name, .string a.value, .bool a.tk, .string a.tn]
theorem heap_set_ne {w w' : World} {g b : Nat} (h : w.grownBy w' (some g)) (hb : b < w.heap.size) (hne : b ≠ g) : w'.heap[b]? = w.heap[b]? := h.block b hb (fun e => hne (Option.some.inj e))
theorem own_turn {W W' : World} {B size n g : Nat} {e t : TypeId} {v : Value} {xs ys : List Value} (h : W.ownsRow B e size v n xs) (hr : RowAt W g t ys) (hne : e ≠ t) (hg : W.grownBy W' (some g)) : W'.ownsRow B e size v n xs := by
 refine ⟨h.1, ?_⟩
 rcases h.2 with hn | ⟨g', cap, cur, rfl, hbg, hgg, rest⟩
 ·exact .inl hn
 ·refine .inr ⟨g', cap, cur, rfl, hbg, ?_, rest⟩
  have hg' : g' ≠ g := by
   rintro rfl
   have h1 := hgg.symm.trans hr
   simp only [Option.some.injEq, Obj.cells.injEq] at h1
   exact hne h1.2.1
  exact (heap_set_ne hg (Array.getElem?_eq_some_iff.1 hgg).1 hg').trans hgg
section
variable {w0 : World} {ts : List Tk} {tv : Value} {g : Nat} {own : List Nat} {st : PS} {d e : Nat} {av vv : Value} {m : Nat} {W W' : World}
theorem own_ne_row {w : World} {B size n g : Nat} {ty t : TypeId} {v : Value} {xs ys : List Value} (h : w.ownsRow B ty size v n xs) (hr : RowAt w g t ys) (hne : ty ≠ t) : ∀ b', v.ownBlock = some b' → b' ≠ g := by
 rintro b' hb rfl
 rcases h.2 with ⟨rfl, _⟩ | ⟨g', cap, cur, rfl, hbg, hgg, rest⟩
 ·simp [Value.ownBlock] at hb
 ·simp [Value.ownBlock] at hb
  subst hb
  have h1 := hgg.symm.trans hr
  simp only [Option.some.injEq, Obj.cells.injEq] at h1
  exact hne h1.2.1
theorem own_ne_own {w : World} {B B' size size' n n' : Nat} {ty t : TypeId} {v u : Value} {xs ys : List Value} (h : w.ownsRow B ty size v n xs) (hr : w.ownsRow B' t size' u n' ys) (hne : ty ≠ t) : ∀ b', v.ownBlock = some b' → u.ownBlock ≠ some b' := by
 rintro b' hb hu
 rcases h.2 with ⟨rfl, _⟩ | ⟨g', cap, cur, rfl, hbg, hgg, rest⟩
 ·simp [Value.ownBlock] at hb
 ·rcases hr.2 with ⟨rfl, _⟩ | ⟨g2, cap2, cur2, rfl, hbg2, hgg2, rest2⟩
  ·simp [Value.ownBlock] at hu
  ·simp [Value.ownBlock] at hb hu
   subst hb hu
   have h1 := hgg.symm.trans hgg2
   simp only [Option.some.injEq, Obj.cells.injEq] at h1
   exact hne h1.2.1
theorem own_apart {w w' : World} {B size n : Nat} {ty : TypeId} {v : Value} {xs : List Value} {row : Option Nat} (h : w.ownsRow B ty size v n xs) (hg : w.grownBy w' row) (hv : ∀ b, v.ownBlock = some b → row ≠ some b) : w'.ownsRow B ty size v n xs := by
 refine ⟨h.1, ?_⟩
 rcases h.2 with hn | ⟨g', cap, cur, rfl, hbg, hgg, rest⟩
 ·exact .inl hn
 ·exact .inr ⟨g', cap, cur, rfl, hbg, (hg.block g' (Array.getElem?_eq_some_iff.1 hgg).1 (fun e => hv g' rfl e.symm)).trans hgg, rest⟩
end
end Go.Proofs.YtkmbnghghbfkdaaGreat
