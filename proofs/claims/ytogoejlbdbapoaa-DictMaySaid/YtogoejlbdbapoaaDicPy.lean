/- A region that draws its order, by what holds when some of its operations have been carried out. No program in sight. -/
import Derived.Test.YtogoejlbdbapoaaGrow
import Derived.Test.YtogoejlbdbapoaaKit
namespace Go.Proofs.Ytogoejlbdbapoaa
set_option maxRecDepth 100000
set_option maxHeartbeats 2000000
set_option linter.unusedSimpArgs false
open Go.RowKit Go.Sort
set_option linter.unusedVariables false

section
variable {P : Program} {md : Region.Mode} {ops : Array Oper} {Q : Exit → Act → World → Prop}
/-- Operations wait for earlier ones only. -/
def acycB (md : Region.Mode) (ops : Array Oper) : Bool := (List.range ops.size).all fun i => match ops[i]? with
  | none => true
  | some o => o.after.all (fun e => !Region.binds md e || decide (e.on < i))
theorem acyc_ready {listed : Array Bool} (hB : acycB md ops = true) (hz : listed.size = ops.size) (hr : Region.ready md ops listed = []) : ∀ j, j < ops.size → listed.getD j true = true := by
  intro j
  induction j using Nat.strongRecOn with
  | _ j ih =>
    intro hj
    refine Classical.byContradiction fun hne => ?_
    have hf : listed.getD j true = false := by simpa using hne
    have hm : j ∈ Region.ready md ops listed := by
      refine mem_ready.2 ⟨hf, ops[j], Array.getElem?_eq_getElem hj, fun e he hb => ?_⟩
      have h1 := List.all_eq_true.1 hB j (List.mem_range.2 hj)
      simp only [Array.getElem?_eq_getElem hj] at h1
      have h2 := Array.all_eq_true'.1 h1 e he
      simp only [hb, Bool.not_true, Bool.false_or, decide_eq_true_eq] at h2
      have h3 := ih e.on h2 (by omega)
      have hlt : e.on < listed.size := by omega
      simp only [Array.getD, hlt, dif_pos] at h3 ⊢
      exact h3
    rw [hr] at hm
    cases hm
theorem wpAny_of_inv {R : Array Bool → Act → World → Prop} (hB : acycB md ops = true)
    (hs : ∀ listed a w i o, listed.size = ops.size → ops[i]? = some o → i ∈ Region.ready md ops listed → R listed a w → opG P ops Q o (R (listed.setIfInBounds i true)) a w)
    (he : ∀ listed a w, listed.size = ops.size → (∀ j, j < ops.size → listed.getD j true = true) → R listed a w → Q .normal a w) :
    ∀ (f : Nat) (listed : Array Bool) (a : Act) (w : World), listed.size = ops.size → listed.toList.count false = f → R listed a w → wpAny P md ops Q f listed a w
  | 0, listed, a, w, hz, hc, h => by
    have hr : Region.ready md ops listed = [] := by
      refine List.eq_nil_iff_forall_not_mem.2 fun i hi => ?_
      obtain ⟨hf, o, ho, _⟩ := mem_ready.1 hi
      have hlt : i < listed.size := by rw [hz]; exact (Array.getElem?_eq_some_iff.1 ho).1
      simp only [Array.getD, hlt, dif_pos] at hf
      have hm : false ∈ listed.toList := by
        have h1 := List.getElem_mem (l := listed.toList) (n := i) (by simpa using hlt)
        have h2 : listed.toList[i]'(by simpa using hlt) = false := by simpa using hf
        rwa [h2] at h1
      have := List.count_pos_iff.2 hm
      omega
    exact ⟨hr, he listed a w hz (acyc_ready hB hz hr) h⟩
  | f + 1, listed, a, w, hz, hc, h => by
    refine ⟨fun hr => he listed a w hz (acyc_ready hB hz hr) h, fun i hi => ?_⟩
    obtain ⟨hf, o, ho, hdep⟩ := mem_ready.1 hi
    have hlt : i < listed.size := by rw [hz]; exact (Array.getElem?_eq_some_iff.1 ho).1
    simp only [Array.getD, hlt, dif_pos] at hf
    refine wpOp_of_opG ho (opG_mono (fun a' w' h' => wpAny_of_inv hB hs he f _ a' w' (by simpa using hz) ?_ h') (hs listed a w i o hz ho hi h))
    have hl : i < listed.toList.length := by simpa using hlt
    have hg : listed.toList[i] = false := by simpa using hf
    rw [Array.toList_setIfInBounds, List.count_set hl, hg]
    show listed.toList.count false - 1 + 0 = f
    omega
/-- The slots that a region fills. -/
def puts (a : Act) : List Tmp → List Value → Act
  | s :: ss, v :: vs => puts (a.put (some s) v) ss vs
  | _, _ => a
def depB (md : Region.Mode) (ops : Array Oper) (dep : Nat → List Nat) : Bool := (List.range ops.size).all fun i => match ops[i]? with
  | none => true
  | some o => (dep i).all fun d => o.after.any (fun e => Region.binds md e && e.on == d)
def updB (S : Nat → Bool) (i : Nat) : Nat → Bool := fun j => if j = i then true else S j
theorem updB_at (S : Nat → Bool) (i : Nat) : updB S i i = true := if_pos rfl
theorem updB_ne (S : Nat → Bool) {i j : Nat} (h : j ≠ i) : updB S i j = S j := if_neg h
/-- What is owed at each operation. -/
def stepsI (P : Program) (Q : Exit → Act → World → Prop) (l : Array Oper) (a0 : Act) (slots : List Tmp) (dep : Nat → List Nat) (F : (Nat → Bool) → List Value → World → Prop) : List Oper → Nat → Prop
  | [], _ => True
  | o :: r, i => (∀ S us w', (∀ d ∈ dep i, S d = true) → S i = false → F S us w' → ∀ K : Act → World → Prop, (∀ us' w'', F (updB S i) us' w'' → K (puts a0 slots us') w'') →
      if Region.wanted o (yielded l (puts a0 slots us).tmps) = true then o.wp P (puts a0 slots us) w' K Q else K ((puts a0 slots us).put o.dst undef) w') ∧ stepsI P Q l a0 slots dep F r (i + 1)
theorem stepsI_at {l : Array Oper} {a0 : Act} {slots : List Tmp} {dep : Nat → List Nat} {F : (Nat → Bool) → List Value → World → Prop} : ∀ (r : List Oper) (k : Nat), stepsI P Q l a0 slots dep F r k → ∀ i o, r[i]? = some o →
    (∀ S us w', (∀ d ∈ dep (k + i), S d = true) → S (k + i) = false → F S us w' → ∀ K : Act → World → Prop, (∀ us' w'', F (updB S (k + i)) us' w'' → K (puts a0 slots us') w'') →
      if Region.wanted o (yielded l (puts a0 slots us).tmps) = true then o.wp P (puts a0 slots us) w' K Q else K ((puts a0 slots us).put o.dst undef) w')
  | [], _, _, i, o, h => by simp at h
  | x :: r, k, hs, 0, o, h => by
    simp only [List.getElem?_cons_zero, Option.some.injEq] at h
    subst h
    exact hs.1
  | x :: r, k, hs, i + 1, o, h => by
    rw [List.getElem?_cons_succ] at h
    have := stepsI_at r (k + 1) hs.2 i o h
    rw [show k + 1 + i = k + (i + 1) from by omega] at this
    exact this
theorem wp_region_inv {id : Nat} {a0 : Act} {w : World} {l : List Oper} (slots : List Tmp) (us0 : List Value) (dep : Nat → List Nat) (F : (Nat → Bool) → List Value → World → Prop)
    (hm : P.follows .mixedOrders = true) (hB : acycB .any l.toArray = true) (hD : depB .any l.toArray dep = true)
    (ha : puts a0 slots us0 = a0) (h0 : F (fun _ => false) us0 w.drew)
    (hst : stepsI P Q l.toArray a0 slots dep F l 0)
    (he : ∀ S us w', (∀ j, j < l.length → S j = true) → F S us w' → Q .normal (puts a0 slots us) w') : (Code.region id l.toArray true).wp P Q a0 w := by
  have hs : ∀ i o, l.toArray[i]? = some o → ∀ S us w', (∀ d ∈ dep i, S d = true) → S i = false → F S us w' → ∀ K : Act → World → Prop, (∀ us' w'', F (updB S i) us' w'' → K (puts a0 slots us') w'') →
      if Region.wanted o (yielded l.toArray (puts a0 slots us).tmps) = true then o.wp P (puts a0 slots us) w' K Q else K ((puts a0 slots us).put o.dst undef) w' := fun i o ho => by
    have := stepsI_at l 0 hst i o (by simpa using ho)
    rw [Nat.zero_add] at this
    exact this
  refine wp_region_any hm ?_
  refine wpAny_of_inv (md := .any) (R := fun listed a w' => ∃ us, a = puts a0 slots us ∧ F (fun j => listed.getD j false) us w') hB ?_ ?_ _ _ _ _ (by simp) (by simp) ⟨us0, ha.symm, ?_⟩
  · rintro listed a w' i o hz ho hi ⟨us, rfl, hF⟩
    obtain ⟨hf, o', ho', hdep⟩ := mem_ready.1 hi
    obtain rfl : o = o' := Option.some.inj (ho.symm.trans ho')
    have hlt : i < listed.size := by rw [hz]; exact (Array.getElem?_eq_some_iff.1 ho).1
    have hlt' : i < l.toArray.size := by omega
    have hfi : listed.getD i false = false := by
      simp only [Array.getD, hlt, dif_pos] at hf ⊢
      exact hf
    refine hs i o ho (fun j => listed.getD j false) us w' (fun d hd => ?_) hfi hF _ (fun us' w'' h' => ⟨us', rfl, ?_⟩)
    · have h1 := List.all_eq_true.1 hD i (List.mem_range.2 hlt')
      simp only [ho] at h1
      have h2 := List.all_eq_true.1 h1 d hd
      obtain ⟨e, he1, he2⟩ := Array.any_eq_true'.1 h2
      simp only [Bool.and_eq_true, beq_iff_eq] at he2
      have h3 := hdep e he1 he2.1
      rw [he2.2] at h3
      exact h3
    · have : (fun j => (listed.setIfInBounds i true).getD j false) = updB (fun j => listed.getD j false) i := by
        funext j
        by_cases e : j = i
        · subst e; rw [updB_at]; simp [Array.getD, hlt]
        · rw [updB_ne _ e, getD_set_ne false (Ne.symm e)]
      rw [this]
      exact h'
  · rintro listed a w' hz hall ⟨us, rfl, hF⟩
    refine he _ us w' (fun j hj => ?_) hF
    have h1 := hall j (by simpa using hj)
    have hlt : j < listed.size := by rw [hz]; simpa using hj
    simp only [Array.getD, hlt, dif_pos] at h1 ⊢
    exact h1
  · have : (fun j => (Array.replicate l.toArray.size false).getD j false) = fun _ => false := by
      funext j
      simp only [Array.getD]
      split
      · simp
      · rfl
    rw [this]
    exact h0
end
end Go.Proofs.Ytogoejlbdbapoaa

/- Two structs are made by two calls, each kept in a box of its own, in one statement: whatever order the calls, the boxes and the stores come in. No program in sight. -/
namespace Go.Proofs.Ytogoejlbdbapoaa
set_option maxRecDepth 100000
set_option maxHeartbeats 2000000
set_option linter.unusedSimpArgs false
open Go.RowKit Go.Sort
set_option linter.unusedVariables false

/-- Cells of a block are written, one behind the other. -/
def setC : World → Nat → Nat → List Value → World
  | W, _, _, [] => W
  | W, g, i, x :: xs => setC (W.setCell ⟨g, i, none⟩ x) g (i + 1) xs
theorem row_setC_ne {g g' : Nat} {t : TypeId} {ys : List Value} (hg : g ≠ g') : ∀ (xs : List Value) (i : Nat) {W : World}, RowAt W g' t ys → RowAt (setC W g i xs) g' t ys
  | [], _, _, h => h
  | x :: xs, i, _, h => row_setC_ne hg xs (i + 1) (h.kept (grown_set _ g i x) (fun e => hg (Option.some.inj e)))
theorem row_setC {g : Nat} {t : TypeId} : ∀ (xs pre ys : List Value) {W : World}, RowAt W g t (pre ++ ys) → ys.length = xs.length → RowAt (setC W g pre.length xs) g t (pre ++ xs)
  | [], pre, ys, W, h, hl => by
    obtain rfl : ys = [] := List.eq_nil_of_length_eq_zero (by simpa using hl)
    exact h
  | x :: xs, pre, y :: ys, W, h, hl => by
    have h1 := h.set pre.length x
    rw [List.set_append_right _ _ (Nat.le_refl _), Nat.sub_self, List.set_cons_zero] at h1
    have h2 := row_setC xs (pre ++ [x]) ys (W := W.setCell ⟨g, pre.length, none⟩ x) (by rw [List.append_assoc]; exact h1) (by simpa using hl)
    rw [List.length_append, List.length_singleton, List.append_assoc] at h2
    exact h2
theorem below_setC {B g : Nat} {w : World} (hg : B ≤ g) : ∀ (xs : List Value) (i : Nat) {W : World}, Below B w W → Below B w (setC W g i xs)
  | [], _, _, h => h
  | x :: xs, i, _, h => below_setC hg xs (i + 1) (h.setCell (p := ⟨g, i, none⟩) hg x)
theorem grown_setC {g : Nat} : ∀ (xs : List Value) (i : Nat) (W : World), W.grownBy (setC W g i xs) (some g)
  | [], _, W => (grown_ext (Ext.refl W)).but _
  | x :: xs, i, W => (grown_set W g i x).trans (grown_setC xs (i + 1) _)
theorem own_setC_ne {W : World} {B size n g : Nat} {e t : TypeId} {v : Value} {xs ys : List Value} (h : W.ownsRow B e size v n xs) (hr : RowAt W g t ys) (hne : e ≠ t) (zs : List Value) (i : Nat) : (setC W g i zs).ownsRow B e size v n xs := by
  refine ⟨h.1, ?_⟩
  rcases h.2 with hn | ⟨g', cap, cur, rfl, hbg, hgg, rest⟩
  · exact .inl hn
  · refine .inr ⟨g', cap, cur, rfl, hbg, ?_, rest⟩
    have hg : g' ≠ g := by
      rintro rfl
      have h1 := hgg.symm.trans hr
      simp only [Option.some.injEq, Obj.cells.injEq] at h1
      exact hne h1.2.1
    exact ((grown_setC zs i W).block g' (Array.getElem?_eq_some_iff.1 hgg).1 (fun e => hg (Option.some.inj e))).trans hgg
/-- What is so stays so where memory is made, and where the boxes are written. -/
structure Firm (T0 T1 : TypeId) (O : World → Value → Prop) : Prop where
  ext : ∀ {W W' : World} {c : Value}, Ext W W' → O W c → O W' c
  set : ∀ {W : World} {g : Nat} {t : TypeId} {ys xs : List Value} {i : Nat} {c : Value}, RowAt W g t ys → (t = T0 ∨ t = T1) → O W c → O (setC W g i xs) c
structure PairF (w0 : World) (V0 V1 : Value) (O0 O1 : World → Value → Prop) (T0 T1 : TypeId) (z0 z1 : List Value) (S : Nat → Bool) (l0 c0 l1 c1 x0 x1 : Value) (W : World) : Prop where
  ext : Ext w0 W
  a0 : S 0 = true → l0 = V0
  a1 : S 1 = true → O0 W c0
  a2 : S 2 = true → l1 = V1
  a3 : S 3 = true → O1 W c1
  a4 : S 4 = true → ∃ g, x0 = .pointer (some ⟨g, 0, none⟩) ∧ w0.heap.size ≤ g ∧ RowAt W g T0 (if S 6 = true then c0.cells.toList else z0)
  a5 : S 5 = true → ∃ g, x1 = .pointer (some ⟨g, 0, none⟩) ∧ w0.heap.size ≤ g ∧ RowAt W g T1 (if S 7 = true then c1.cells.toList else z1)
  ne : S 4 = true → S 5 = true → x0 ≠ x1
  d6 : S 6 = true → S 1 = true
  d7 : S 7 = true → S 3 = true
  s6 : S 6 = true → S 4 = true
  s7 : S 7 = true → S 5 = true
/-- As the region's law wants it. -/
def PairG (w0 : World) (V0 V1 : Value) (O0 O1 : World → Value → Prop) (T0 T1 : TypeId) (z0 z1 : List Value) (S : Nat → Bool) (us : List Value) (W : World) : Prop :=
  ∃ l0 c0 l1 c1 x0 x1, us = [l0, c0, l1, c1, x0, x1] ∧ PairF w0 V0 V1 O0 O1 T0 T1 z0 z1 S l0 c0 l1 c1 x0 x1 W
section
variable {w0 : World} {V0 V1 : Value} {O0 O1 : World → Value → Prop} {T0 T1 : TypeId} {z0 z1 : List Value} {S : Nat → Bool} {l0 c0 l1 c1 x0 x1 : Value} {W : World}
theorem PairG.start (us : List Value) (hl : us.length = 6) (hx : Ext w0 W) : PairG w0 V0 V1 O0 O1 T0 T1 z0 z1 (fun _ => false) us W := by
  match us, hl with
  | [l0, c0, l1, c1, x0, x1], _ => exact ⟨l0, c0, l1, c1, x0, x1, rfl, hx, nofun, nofun, nofun, nofun, nofun, nofun, nofun, nofun, nofun, nofun, nofun⟩
theorem PairF.g (h : PairF w0 V0 V1 O0 O1 T0 T1 z0 z1 S l0 c0 l1 c1 x0 x1 W) : PairG w0 V0 V1 O0 O1 T0 T1 z0 z1 S [l0, c0, l1, c1, x0, x1] W := ⟨_, _, _, _, _, _, rfl, h⟩
theorem PairF.load0 (h : PairF w0 V0 V1 O0 O1 T0 T1 z0 z1 S l0 c0 l1 c1 x0 x1 W) : PairG w0 V0 V1 O0 O1 T0 T1 z0 z1 (updB S 0) [V0, c0, l1, c1, x0, x1] W :=
  PairF.g ⟨h.ext, fun _ => rfl, h.a1, h.a2, h.a3, h.a4, h.a5, h.ne, h.d6, h.d7, h.s6, h.s7⟩
theorem PairF.load1 (h : PairF w0 V0 V1 O0 O1 T0 T1 z0 z1 S l0 c0 l1 c1 x0 x1 W) : PairG w0 V0 V1 O0 O1 T0 T1 z0 z1 (updB S 2) [l0, c0, V1, c1, x0, x1] W :=
  PairF.g ⟨h.ext, h.a0, h.a1, fun _ => rfl, h.a3, h.a4, h.a5, h.ne, h.d6, h.d7, h.s6, h.s7⟩
theorem PairF.call0 (h : PairF w0 V0 V1 O0 O1 T0 T1 z0 z1 S l0 c0 l1 c1 x0 x1 W) (F1 : Firm T0 T1 O1) (hn : S 1 = false) {W' : World} {u : Value} (hx : Ext W W') (ho : O0 W' u) :
    PairG w0 V0 V1 O0 O1 T0 T1 z0 z1 (updB S 1) [l0, u, l1, c1, x0, x1] W' := by
  have h6 : ¬ S 6 = true := fun e => by have := h.d6 e; rw [hn] at this; cases this
  refine PairF.g ⟨h.ext.trans hx, h.a0, fun _ => ho, h.a2, fun e => F1.ext hx (h.a3 e), fun e => ?_, fun e => ?_, h.ne, fun _ => rfl, fun e => h.d7 e, h.s6, h.s7⟩
  · obtain ⟨g, e1, e2, e3⟩ := h.a4 e
    rw [if_neg h6] at e3
    exact ⟨g, e1, e2, by rw [if_neg (show ¬ updB S 1 6 = true from h6)]; exact e3.ext hx⟩
  · obtain ⟨g, e1, e2, e3⟩ := h.a5 e
    exact ⟨g, e1, e2, e3.ext hx⟩
theorem PairF.call1 (h : PairF w0 V0 V1 O0 O1 T0 T1 z0 z1 S l0 c0 l1 c1 x0 x1 W) (F0 : Firm T0 T1 O0) (hn : S 3 = false) {W' : World} {u : Value} (hx : Ext W W') (ho : O1 W' u) :
    PairG w0 V0 V1 O0 O1 T0 T1 z0 z1 (updB S 3) [l0, c0, l1, u, x0, x1] W' := by
  have h7 : ¬ S 7 = true := fun e => by have := h.d7 e; rw [hn] at this; cases this
  refine PairF.g ⟨h.ext.trans hx, h.a0, fun e => F0.ext hx (h.a1 e), h.a2, fun _ => ho, fun e => ?_, fun e => ?_, h.ne, fun e => h.d6 e, fun _ => rfl, h.s6, h.s7⟩
  · obtain ⟨g, e1, e2, e3⟩ := h.a4 e
    exact ⟨g, e1, e2, e3.ext hx⟩
  · obtain ⟨g, e1, e2, e3⟩ := h.a5 e
    rw [if_neg h7] at e3
    exact ⟨g, e1, e2, by rw [if_neg (show ¬ updB S 3 7 = true from h7)]; exact e3.ext hx⟩
theorem PairF.new0 (h : PairF w0 V0 V1 O0 O1 T0 T1 z0 z1 S l0 c0 l1 c1 x0 x1 W) (F0 : Firm T0 T1 O0) (F1 : Firm T0 T1 O1) (hn : S 4 = false) :
    PairG w0 V0 V1 O0 O1 T0 T1 z0 z1 (updB S 4) [l0, c0, l1, c1, .pointer (some ⟨W.heap.size, 0, none⟩), x1] (W.alloc (.cells z0.toArray T0)) := by
  have hx := Ext.alloc W (.cells z0.toArray T0)
  have h6 : ¬ S 6 = true := fun e => by have := h.s6 e; rw [hn] at this; cases this
  refine PairF.g ⟨h.ext.trans hx, h.a0, fun e => F0.ext hx (h.a1 e), h.a2, fun e => F1.ext hx (h.a3 e), fun _ => ⟨_, rfl, h.ext.size, ?_⟩, fun e => ?_, fun _ e he => ?_, h.d6, h.d7, fun _ => rfl, h.s7⟩
  · rw [if_neg (show ¬ updB S 4 6 = true from h6)]
    exact RowAt.new _ _ _
  · obtain ⟨g, e1, e2, e3⟩ := h.a5 e
    exact ⟨g, e1, e2, e3.ext hx⟩
  · obtain ⟨g, e1, e2, e3⟩ := h.a5 e
    rw [e1] at he
    have := e3.lt
    simp at he
    try omega
theorem PairF.new1 (h : PairF w0 V0 V1 O0 O1 T0 T1 z0 z1 S l0 c0 l1 c1 x0 x1 W) (F0 : Firm T0 T1 O0) (F1 : Firm T0 T1 O1) (hn : S 5 = false) :
    PairG w0 V0 V1 O0 O1 T0 T1 z0 z1 (updB S 5) [l0, c0, l1, c1, x0, .pointer (some ⟨W.heap.size, 0, none⟩)] (W.alloc (.cells z1.toArray T1)) := by
  have hx := Ext.alloc W (.cells z1.toArray T1)
  have h7 : ¬ S 7 = true := fun e => by have := h.s7 e; rw [hn] at this; cases this
  refine PairF.g ⟨h.ext.trans hx, h.a0, fun e => F0.ext hx (h.a1 e), h.a2, fun e => F1.ext hx (h.a3 e), fun e => ?_, fun _ => ⟨_, rfl, h.ext.size, ?_⟩, fun e _ he => ?_, h.d6, h.d7, h.s6, fun _ => rfl⟩
  · obtain ⟨g, e1, e2, e3⟩ := h.a4 e
    exact ⟨g, e1, e2, e3.ext hx⟩
  · rw [if_neg (show ¬ updB S 5 7 = true from h7)]
    exact RowAt.new _ _ _
  · obtain ⟨g, e1, e2, e3⟩ := h.a4 e
    rw [e1] at he
    have := e3.lt
    simp at he
    try omega
theorem PairF.store0 (h : PairF w0 V0 V1 O0 O1 T0 T1 z0 z1 S l0 c0 l1 c1 x0 x1 W) (F0 : Firm T0 T1 O0) (F1 : Firm T0 T1 O1) (h1 : S 1 = true) (hn : S 6 = false) {g : Nat} (hx : x0 = .pointer (some ⟨g, 0, none⟩)) (h4 : S 4 = true) (hz : z0.length = c0.cells.toList.length) :
    PairG w0 V0 V1 O0 O1 T0 T1 z0 z1 (updB S 6) [l0, c0, l1, c1, x0, x1] (setC W g 0 c0.cells.toList) := by
  obtain ⟨g', e1, e2, e3⟩ := h.a4 h4
  rw [hx] at e1
  cases e1
  rw [if_neg (by rw [hn]; simp)] at e3
  refine PairF.g ⟨below_setC e2 _ 0 h.ext, h.a0, fun e => F0.set e3 (.inl rfl) (h.a1 e), h.a2, fun e => F1.set e3 (.inl rfl) (h.a3 e), fun _ => ⟨g, hx, e2, ?_⟩, fun e => ?_, h.ne, fun _ => h1, h.d7, fun _ => h4, h.s7⟩
  · rw [if_pos (updB_at S 6)]
    exact row_setC c0.cells.toList [] z0 e3 hz
  · obtain ⟨g2, f1, f2, f3⟩ := h.a5 e
    refine ⟨g2, f1, f2, row_setC_ne (fun he => ?_) _ _ f3⟩
    exact h.ne h4 e (by rw [hx, f1, he])
theorem PairF.store1 (h : PairF w0 V0 V1 O0 O1 T0 T1 z0 z1 S l0 c0 l1 c1 x0 x1 W) (F0 : Firm T0 T1 O0) (F1 : Firm T0 T1 O1) (h1 : S 3 = true) (hn : S 7 = false) {g : Nat} (hx : x1 = .pointer (some ⟨g, 0, none⟩)) (h4 : S 5 = true) (hz : z1.length = c1.cells.toList.length) :
    PairG w0 V0 V1 O0 O1 T0 T1 z0 z1 (updB S 7) [l0, c0, l1, c1, x0, x1] (setC W g 0 c1.cells.toList) := by
  obtain ⟨g', e1, e2, e3⟩ := h.a5 h4
  rw [hx] at e1
  cases e1
  rw [if_neg (by rw [hn]; simp)] at e3
  refine PairF.g ⟨below_setC e2 _ 0 h.ext, h.a0, fun e => F0.set e3 (.inr rfl) (h.a1 e), h.a2, fun e => F1.set e3 (.inr rfl) (h.a3 e), fun e => ?_, fun _ => ⟨g, hx, e2, ?_⟩, h.ne, h.d6, fun _ => h1, h.s6, fun _ => h4⟩
  · obtain ⟨g2, f1, f2, f3⟩ := h.a4 e
    refine ⟨g2, f1, f2, row_setC_ne (fun he => ?_) _ _ f3⟩
    exact h.ne e h4 (by rw [hx, f1, he])
  · rw [if_pos (updB_at S 7)]
    exact row_setC c1.cells.toList [] z1 e3 hz
end
theorem puts_self : ∀ (a : Act) (slots : List Tmp), puts a slots (slots.map fun s => a.tmps.getD s undef) = a
  | _, [] => rfl
  | a, s :: ss => by
    have h : a.put (some s) (a.tmps.getD s undef) = a := by
      obtain ⟨t, d⟩ := a
      show (⟨t.setIfInBounds s (t.getD s undef), d⟩ : Act) = ⟨t, d⟩
      congr 1
      apply Array.ext_getElem?
      intro i
      rw [Array.getElem?_setIfInBounds]
      split
      · rename_i e
        subst e
        split
        · rename_i hl
          simp [Array.getD, hl]
        · rename_i hl
          rw [Array.getElem?_eq_none (by omega)]
      · rfl
    show puts (a.put (some s) (a.tmps.getD s undef)) ss (ss.map fun s => a.tmps.getD s undef) = a
    rw [h]
    exact puts_self a ss
end Go.Proofs.Ytogoejlbdbapoaa
