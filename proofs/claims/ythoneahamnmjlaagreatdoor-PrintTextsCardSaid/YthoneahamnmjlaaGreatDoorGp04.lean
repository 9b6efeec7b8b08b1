/- A range over a function whose iterator turns rows of its own, and may end in a panic. No program in sight. -/
import Derived.Test.YthoneahamnmjlaaGreatDoorGp03
import Derived.Test.YthoneahamnmjlaaGreatDoorGp00
import Derived.Test.YthoneahamnmjlaaGreatDoorProg
import Derived.Laws.RangeAny
namespace Go.Proofs.YthoneahamnmjlaaGreatDoor
set_option maxRecDepth 100000
set_option maxHeartbeats 2000000
set_option linter.unusedVariables false
set_option linter.unusedSimpArgs false
open Go.RowKit Go.Sort

/-- What a range over a function owes when the iterator has ended. -/
def overPostX (P : Program) (l : Nat) (Q : Exit → Act → World → Prop) (a' : Act) : Ending → World → Prop := fun e W =>
  match e with
  | .returned _ => ∃ r : Loop, W.heap[l]? = some (.loop r) ∧ r.state ≠ .busy ∧ r.pending = none ∧ ∀ r' : Loop, Q .normal a' (W.putObj l (.loop r'))
  | .panicked chain => Q (.panic chain) a' W
  | .outgrown => False

theorem wp_rangeX {P : Program} {g : Operand} {ps : Array Tmp} {assign body : Code} {Q : Exit → Act → World → Prop} {a : Act} {w : World} {gf : Nat} {lb : Array Value}
    (hg : a.eval g = .func (.func gf) #[] lb) (eg : ∀ args w, (callFunc gf args).run P w = .ok (.enter gf args) w) (D L : Nat) (hD : w.heap.size = D) (hL : D + 1 = L) (args : Array Value) (hargs : #[.func (.yield L) #[] #[]] ++ lb = args)
    (h : ∀ fn W, W = (w.alloc (.deferred (some []))).alloc (.loop (recOf fn a ps assign body D .ready none)) →
      CallsIn Fence.wide 0 P gf args W (overPostX P L Q { a with defers := { target := .collected D, args := #[] } :: a.defers })) :
    (Code.rangeFunc g ps assign body).wpIn Fence.wide 0 P Q a w := by
  subst hD hL hargs
  refine wpIn_rangeFunc ?_
  intro fn _
  obtain ⟨W, hW⟩ : ∃ W, W = (w.alloc (.deferred (some []))).alloc (.loop (recOf fn a ps assign body w.heap.size .ready none)) := ⟨_, rfl⟩
  have hc := h fn W hW
  refine ⟨w.heap.size + 1, [{ target := .collected w.heap.size, args := #[] }], W, { target := .fn (.func gf) lb, args := #[.func (.yield (w.heap.size + 1)) #[] #[]] }, W, gf,
    #[.func (.yield (w.heap.size + 1)) #[] #[]] ++ lb, W, ?_, ?_, ?_, ?_, ?_, ?_⟩
  · rw [hW]; exact run_enterLoop_outer _ _ _ _ _
  · simp only [resolve, hg]
    simp [go_sem]
  · intro f' _; trivial
  · simp [invoke, go_sem, eg]
  · intro hd; simp [Fence.wide] at hd
  · refine CallsIn.mono (n := 0) hc ?_
    rintro e W hq
    cases e with
    | returned v =>
      obtain ⟨r, hr, hb, hp, hk⟩ := hq
      refine ⟨r.pending, _, run_endLoop hr hb, ?_⟩
      rw [hp]
      exact hk _
    | panicked chain => exact hq
    | outgrown => exact hq.elim

/-- An iterator's contract: it calls yield with N rows of arguments, one behind the other, and yield goes on each time; it ends as Fin says: returned behind the last one, or panicked somewhere. -/
def IterX (P : Program) (gf : Nat) (lb : Array Value) (Inv : World → Prop) (T : TypeId) (Y N : Nat) (Enc : Nat → Array Value → Prop) (Fin : Ending → World → Prop) : Prop :=
  ∀ (L : Nat) (W : World) (J : Nat → World → Prop), Y ≤ W.heap.size → Inv W →
    (∀ k, PStab T 0 W.heap.size (J k)) →
    (∀ k args W₁, k < N → J k W₁ → Enc k args → YieldAt Fence.wide 0 P L args W₁ fun e W' => KeepsFrom W.heap.size W₁ W' ∧ Below Y W₁ W' ∧ e = .returned (.bool true) ∧ J (k + 1) W') →
    J 0 W →
    CallsIn Fence.wide 0 P gf (#[.func (.yield L) #[] #[]] ++ lb) W fun e W' => Fin e W' ∧ ((∃ v, e = .returned v) ∧ J N W' ∨ (∃ c, e = .panicked c) ∧ ∃ k, J k W')

/-- What a round's body owes. -/
def overX (B Y : Nat) (I : Nat → World → Prop) (k : Nat) (W : World) : Exit → Act → World → Prop := fun e _ W' =>
  KeepsFrom B W W' ∧ Below Y W W' ∧ e = .normal ∧ I (k + 1) W'

theorem wp_overX {P : Program} {g : Operand} {ps : Array Tmp} {assign body : Code} {Q : Exit → Act → World → Prop} {a : Act} {w : World} {gf : Nat} {lb : Array Value} {Inv : World → Prop} {T : TypeId} {Y N : Nat} {Enc : Nat → Array Value → Prop} {Fin : Ending → World → Prop}
    (hg : a.eval g = .func (.func gf) #[] lb) (eg : ∀ args w, (callFunc gf args).run P w = .ok (.enter gf args) w) (hit : IterX P gf lb Inv T Y N Enc Fin) (hY : Y ≤ w.heap.size)
    (hsz : ∀ k args, Enc k args → args.size = ps.size)
    (I : Nat → World → Prop) (hI : ∀ k, PStab T 0 w.heap.size (I k)) (hInv : Stab w.heap.size Inv) (hFin : ∀ e, Stab w.heap.size (Fin e)) (hb : Inv w) (h0 : I 0 w)
    (hround : ∀ k args W L, k < N → w.heap.size < L → I k W → Enc k args →
      assign.wpIn (Fence.wide.inRound L) 0 P (Exit.then (fun a₁ W₁ => KeepsFrom w.heap.size W W₁ ∧ Below Y W W₁ ∧ I k W₁ ∧ ∀ W₂, (∀ J : World → Prop, Stab w.heap.size J → J W₁ → J W₂) → I k W₂ → body.wpIn (Fence.wide.inRound L) 0 P (overX w.heap.size Y I k W₂) a₁ W₂) (fun _ _ _ => False))
        { tmps := (ps.zip args).foldl (fun tmps (t, a) => tmps.setIfInBounds t a) a.tmps, defers := [] } W)
    (hdone : ∀ D v W, w.heap.size ≤ D → I N W → Fin (.returned v) W → W.heap[D]? = some (.deferred (some [])) → Q .normal { a with defers := { target := .collected D, args := #[] } :: a.defers } W)
    (hpan : ∀ D c k W, w.heap.size ≤ D → I k W → Fin (.panicked c) W → W.heap[D]? = some (.deferred (some [])) → Q (.panic c) { a with defers := { target := .collected D, args := #[] } :: a.defers } W) :
    (Code.rangeFunc g ps assign body).wp P Q a w := by
  refine (wpIn_wide (n := 0)).1 ?_
  refine wp_rangeX hg eg w.heap.size (w.heap.size + 1) rfl rfl _ rfl ?_
  intro fn W hW
  generalize hr : recOf fn a ps assign body w.heap.size .ready none = r at hW
  have hrd : r.state = .ready ∧ r.pending = none := by subst hr; exact ⟨rfl, rfl⟩
  have hL0 : W.heap[w.heap.size + 1]? = some (.loop r) := by
    subst hW
    have := World.alloc_heap_new (w.alloc (.deferred (some []))) (.loop r)
    rwa [World.size_alloc] at this
  have hD0 : W.heap[w.heap.size]? = some (.deferred (some [])) := by
    subst hW
    rw [Below.heap_alloc _ _ _ (by simp)]
    exact World.alloc_heap_new w _
  have hI0 : I 0 W := by
    subst hW
    exact (hI 0).stab.ext ((hI 0).stab.ext h0 (Ext.alloc _ _)) (Ext.alloc _ _)
  have hWs : W.heap.size = w.heap.size + 1 + 1 := by subst hW; simp
  have hx := hit (w.heap.size + 1) W (fun k W => W.heap[w.heap.size + 1]? = some (.loop r) ∧ W.heap[w.heap.size]? = some (.deferred (some [])) ∧ I k W)
    (by omega)
    (by subst hW; exact hInv.ext (hInv.ext hb (Ext.alloc _ _)) (Ext.alloc _ _))
    (fun k W₁ W₂ ht ⟨h1, h2, h3⟩ => ⟨ht.keep h1 rfl (by omega), ht.keep h2 rfl (by omega), hI k W₁ W₂ (ht.mono (Nat.le_refl _) (by omega)) h3⟩)
    ?_ ⟨hL0, hD0, hI0⟩
  · refine CallsIn.mono (n := 0) hx ?_
    rintro e W' ⟨hf, ⟨⟨v, rfl⟩, h1, h2, h3⟩ | ⟨⟨c, rfl⟩, k, h1, h2, h3⟩⟩
    · refine ⟨r, h1, by rw [hrd.1]; decide, hrd.2, fun r' => ?_⟩
      exact hdone _ v _ (Nat.le_refl _) ((hI N).stab.put h3 h1 rfl (by omega) _) ((hFin _).put hf h1 rfl (by omega) _) ((World.putObj_heap_other (by omega)).trans h2)
    · exact hpan _ c k _ (Nat.le_refl _) h3 hf h2
  · rintro k args W1 hk ⟨h1, h2, h3⟩ he
    refine yield_rec hr h1 (hsz k args he) ?_
    refine wpIn_mono (hround k args W1 (w.heap.size + 1) hk (by omega) h3 he) ?_
    rintro ex a₁ W₁ hq
    cases ex with
    | normal =>
      obtain ⟨q1, q1b, q2, q3⟩ := hq
      have h1' := q1.same _ _ (by omega) h1 rfl
      have h2' := q1.same _ _ (by omega) h2 rfl
      refine ⟨h1', ?_⟩
      have hput : ∀ o : Obj, KeepsFrom W.heap.size W₁ (W₁.putObj (w.heap.size + 1) o) := fun o => ⟨(grownBy_putObj' W₁ _ o).size, fun k' o' hk' h0' ho' => (World.putObj_heap_other (by omega)).trans h0'⟩
      refine wpIn_mono (q3 (W₁.putObj (w.heap.size + 1) (.loop { r with state := .busy })) (fun J hJ hj => hJ.put hj h1' rfl (by omega) _) ((hI k).stab.put q2 h1' rfl (by omega) _)) ?_
      rintro ex a₂ W₂ ⟨hK, hKb, hex, hq⟩
      subst hex
      have h1'' := hK.same _ _ (by omega) (World.putObj_heap_same (Array.getElem?_eq_some_iff.1 h1').1) rfl
      have h2'' := hK.same _ _ (by omega) ((World.putObj_heap_other (by omega)).trans h2') rfl
      have hlt := (Array.getElem?_eq_some_iff.1 h1'').1
      have hput2 : ∀ o : Obj, KeepsFrom W.heap.size W₂ (W₂.putObj (w.heap.size + 1) o) := fun o => ⟨(grownBy_putObj' W₂ _ o).size, fun k' o' hk' h0' ho' => (World.putObj_heap_other (by omega)).trans h0'⟩
      have hkm : ∀ {A B : World}, KeepsFrom w.heap.size A B → KeepsFrom W.heap.size A B := fun h => ⟨h.size, fun k' o' hk' h0' ho' => h.same k' o' (by omega) h0' ho'⟩
      refine ⟨h1'', ?_⟩
      exact ⟨(((hkm q1).trans (hput _)).trans (hkm hK)).trans (hput2 _), below_put (Below.trans (below_put q1b (by omega) _) hKb) (by omega) _, rfl, World.putObj_heap_same hlt |>.trans (by rw [rec_ready hr]), (World.putObj_heap_other (by omega)).trans h2'', (hI (k + 1)).stab.put hq h1'' rfl (by omega) _⟩
    | _ => exact hq

/-- The end of a function that held one range over a function, by a panic. -/
theorem leave_panic {P : Program} {fn : Func} {tmps : Array Value} {D : Nat} {W : World} {R : Ending → World → Prop} {c : List PanicEntry} (hD : W.heap[D]? = some (.deferred (some [])))
    (h : R (.panicked c) (W.putObj D (.deferred none))) : bodyPostM Fence.wide 0 P fn R (.panic c) { tmps, defers := [{ target := .collected D, args := #[] }] } W :=
  ⟨by simp, .inl ⟨_, _, rfl, run_takeDeferred hD, h⟩⟩
end Go.Proofs.YthoneahamnmjlaaGreatDoor

/- Tokens of a text: plain, no program in sight. -/
namespace Go.Proofs.YthoneahamnmjlaaGreatDoor
set_option maxRecDepth 100000
set_option maxHeartbeats 2000000
set_option linter.unusedSimpArgs false
set_option linter.unusedVariables false

/-- A text's bytes. -/
def bts (s : ByteArray) : List UInt8 := s.data.toList
/-- A text of bytes. -/
def txt (l : List UInt8) : ByteArray := ⟨l.toArray⟩
theorem bts_txt (l : List UInt8) : bts (txt l) = l := by simp [bts, txt]
theorem txt_bts (s : ByteArray) : txt (bts s) = s := by cases s; simp [bts, txt]
theorem bts_len (s : ByteArray) : (bts s).length = s.size := by simp [bts]
theorem txt_size (l : List UInt8) : (txt l).size = l.length := by simp [txt, ByteArray.size]
theorem bts_inj {s t : ByteArray} (h : bts s = bts t) : s = t := by rw [← txt_bts s, h, txt_bts]
theorem txt_inj {l m : List UInt8} (h : txt l = txt m) : l = m := by rw [← bts_txt l, h, bts_txt]
theorem bts_extract (s : ByteArray) (a b : Nat) : bts (s.extract a b) = ((bts s).drop a).take (b - a) := by
  unfold bts
  rw [ByteArray.data_extract, Array.toList_extract, List.extract_eq_take_drop]
theorem bts_append (s t : ByteArray) : bts (s ++ t) = bts s ++ bts t := by
  unfold bts
  rw [ByteArray.data_append, Array.toList_append]
theorem extract_txt (s : ByteArray) (a b : Nat) : s.extract a b = txt (((bts s).drop a).take (b - a)) := by rw [← bts_extract, txt_bts]
theorem bts_drop (s : ByteArray) (k : Nat) (h : k < s.size) : (bts s).drop k = s[k] :: (bts s).drop (k + 1) := by
  rw [List.drop_eq_getElem_cons (by rw [bts_len]; exact h)]; rfl

def letterC (c : Int) : Bool := decide (97 ≤ c ∧ c ≤ 122 ∨ 48 ≤ c ∧ c ≤ 57 ∨ c = 95)
def quotedC (c : Int) : Bool := decide (32 ≤ c ∧ c ≤ 126 ∧ c ≠ 34 ∧ c ≠ 92)
def blankC (c : Int) : Bool := decide (c = 32 ∨ c = 10)

/-- How many bytes hold, from the first on. -/
def spanL (p : Int → Bool) : List UInt8 → Nat
  | [] => 0
  | c :: l => if p c.toNat then spanL p l + 1 else 0
theorem spanL_le (p : Int → Bool) (l : List UInt8) : spanL p l ≤ l.length := by
  induction l with
  | nil => exact Nat.le_refl _
  | cons c l ih => unfold spanL; split <;> simp <;> omega
theorem spanL_yes {p : Int → Bool} {c : UInt8} {l : List UInt8} (h : p c.toNat = true) : spanL p (c :: l) = spanL p l + 1 := by simp [spanL, h]
theorem spanL_no {p : Int → Bool} {c : UInt8} {l : List UInt8} (h : p c.toNat = false) : spanL p (c :: l) = 0 := by simp [spanL, h]
theorem spanL_drop_yes {p : Int → Bool} {s : ByteArray} {k : Nat} (h : k < s.size) (hp : p s[k].toNat = true) : spanL p ((bts s).drop k) = spanL p ((bts s).drop (k + 1)) + 1 := by rw [bts_drop s k h, spanL_yes hp]
theorem spanL_drop_no {p : Int → Bool} {s : ByteArray} {k : Nat} (h : k < s.size) (hp : p s[k].toNat = false) : spanL p ((bts s).drop k) = 0 := by rw [bts_drop s k h, spanL_no hp]
theorem spanL_all (p : Int → Bool) (l : List UInt8) : ∀ c ∈ l.take (spanL p l), p c.toNat = true := by
  induction l with
  | nil => intro c hc; simp at hc
  | cons x l ih =>
    intro c hc
    cases hx : p x.toNat with
    | true => rw [spanL_yes hx, List.take_succ_cons] at hc; rcases List.mem_cons.1 hc with rfl | hc; exact hx; exact ih c hc
    | false => rw [spanL_no hx] at hc; simp at hc
theorem spanL_append (p : Int → Bool) (a b : List UInt8) (h : ∀ c ∈ a, p c.toNat = true) : spanL p (a ++ b) = a.length + spanL p b := by
  induction a with
  | nil => simp
  | cons x a ih =>
    rw [List.cons_append, spanL_yes (h x (by simp)), ih (fun c hc => h c (List.mem_cons_of_mem _ hc)), List.length_cons]; omega

/-- How long a word is, from the first byte on; 0: none. -/
def wordN (l : List UInt8) : Nat := if 32 < spanL letterC l then 0 else spanL letterC l
theorem wordN_le (l : List UInt8) : wordN l ≤ l.length := by have := spanL_le letterC l; unfold wordN; split <;> omega
/-- A token's kind, its text, how many bytes stand for it; 0: there is none. -/
abbrev Beg := Int × List UInt8 × Nat
def begNo : Beg := (0, [], 0)
def ask1 (l : List UInt8) : Beg := (1, l.take (wordN l), wordN l)
def ask2 : List UInt8 → Beg
  | [] => begNo
  | c :: r => if c = 64 ∧ wordN r ≠ 0 then (2, r.take (wordN r), wordN r + 1) else begNo
def ask3 : List UInt8 → Beg
  | [] => begNo
  | c :: r => if c = 34 ∧ spanL quotedC r ≤ 40 ∧ r[spanL quotedC r]? = some 34 then (3, r.take (spanL quotedC r), spanL quotedC r + 2) else begNo
/-- What stands for a token of a kind that has no text. -/
def signs : List (Int × List UInt8) := [(4, [40]), (5, [41]), (6, [44]), (7, [58]), (8, [46]), (9, [61]), (10, [45, 91]), (11, [93, 45, 62])]
def ask4 (l : List UInt8) : Beg := match signs.find? (fun x => x.2.isPrefixOf l) with
  | some x => (x.1, [], x.2.length)
  | none => begNo
def begL (l : List UInt8) : Beg :=
  if 0 < (ask1 l).2.2 then ask1 l else if 0 < (ask2 l).2.2 then ask2 l else if 0 < (ask3 l).2.2 then ask3 l else ask4 l
theorem ask4_yes {l : List UInt8} {x : Int × List UInt8} (hx : x ∈ signs) (h : x.2.isPrefixOf l = true) : ask4 l = (x.1, [], x.2.length) := by
  obtain ⟨r, hr⟩ := List.isPrefixOf_iff_prefix.1 h
  simp only [signs, List.mem_cons, List.not_mem_nil, or_false] at hx
  rcases hx with rfl | rfl | rfl | rfl | rfl | rfl | rfl | rfl <;> subst hr <;> simp [ask4, signs, List.isPrefixOf, List.find?]
theorem ask4_no {l : List UInt8} (h : ∀ x ∈ signs, x.2.isPrefixOf l = false) : ask4 l = begNo := by
  unfold ask4
  rw [List.find?_eq_none.2 (fun x hx => by rw [h x hx]; simp)]
theorem begL_1 {l : List UInt8} (h : 0 < (ask1 l).2.2) : begL l = ask1 l := by unfold begL; rw [if_pos h]
theorem begL_2 {l : List UInt8} (h1 : ¬ 0 < (ask1 l).2.2) (h : 0 < (ask2 l).2.2) : begL l = ask2 l := by unfold begL; rw [if_neg h1, if_pos h]
theorem begL_3 {l : List UInt8} (h1 : ¬ 0 < (ask1 l).2.2) (h2 : ¬ 0 < (ask2 l).2.2) (h : 0 < (ask3 l).2.2) : begL l = ask3 l := by unfold begL; rw [if_neg h1, if_neg h2, if_pos h]
theorem begL_4 {l : List UInt8} (h1 : ¬ 0 < (ask1 l).2.2) (h2 : ¬ 0 < (ask2 l).2.2) (h3 : ¬ 0 < (ask3 l).2.2) : begL l = ask4 l := by unfold begL; rw [if_neg h1, if_neg h2, if_neg h3]
theorem ask4_zero {l : List UInt8} (h : ¬ 0 < (ask4 l).2.2) : ask4 l = begNo := by
  unfold ask4 at h ⊢
  cases hf : signs.find? (fun x => x.2.isPrefixOf l) with
  | none => rfl
  | some x =>
    rw [hf] at h
    have hx := List.mem_of_find?_eq_some hf
    have : ∀ x ∈ signs, 0 < x.2.length := by decide
    exact absurd (this x hx) h

/-- A token. -/
structure Tk where
  kind : Int
  text : ByteArray
  at_ : Int
/-- What stands for a token of a kind, with a text. -/
def standsL (k : Int) (l : List UInt8) : List UInt8 :=
  if k = 1 then l else if k = 2 then 64 :: l else if k = 3 then 34 :: (l ++ [34]) else ((signs.find? (fun x => decide (x.1 = k))).map (·.2)).getD []
theorem standsL_sign {k : Int} {x : List UInt8} (h : (k, x) ∈ signs) (l : List UInt8) : standsL k l = x := by
  simp only [signs, List.mem_cons, List.not_mem_nil, or_false, Prod.mk.injEq] at h
  rcases h with h | h | h | h | h | h | h | h <;> obtain ⟨rfl, rfl⟩ := h <;> rfl
theorem standsL_none {k : Int} (h1 : k ≠ 1) (h2 : k ≠ 2) (h3 : k ≠ 3) (h : ∀ x ∈ signs, x.1 ≠ k) (l : List UInt8) : standsL k l = [] := by
  unfold standsL
  rw [if_neg h1, if_neg h2, if_neg h3, List.find?_eq_none.2 (fun x hx => by simpa using h x hx)]
  rfl
/-- May a token be? -/
def checkB (k : Int) (l : List UInt8) (at_ : Int) : Bool :=
  decide ((begL (standsL k l)).2.2 ≠ 0) && decide ((begL (standsL k l)).2.2 = (standsL k l).length) && decide ((begL (standsL k l)).1 = k) && decide ((begL (standsL k l)).2.1 = l) && decide (0 ≤ at_)
def Tk.stands (t : Tk) : List UInt8 := standsL t.kind (bts t.text)
def Tk.check (t : Tk) : Bool := checkB t.kind (bts t.text) t.at_

/-- The number that bytes say behind n; none: they say none. -/
def numL : Int → List UInt8 → Option Int
  | n, [] => some n
  | n, c :: l => if 48 ≤ c.toNat ∧ c.toNat ≤ 57 ∧ 10 * n + (c.toNat - 48 : Nat) < 2147483648 then numL (10 * n + (c.toNat - 48 : Nat)) l else none
def numberF (k : Int) (l : List UInt8) : Option Int := if k ≠ 1 ∨ l = [] ∨ l.head? = some 48 ∧ l ≠ [48] then none else numL 0 l
def Tk.number (t : Tk) : Option Int := numberF t.kind (bts t.text)
theorem numL_no {n : Int} {c : UInt8} {l : List UInt8} (h : ¬ (48 ≤ c.toNat ∧ c.toNat ≤ 57 ∧ 10 * n + (c.toNat - 48 : Nat) < 2147483648)) : numL n (c :: l) = none := by unfold numL; rw [if_neg h]
theorem numL_yes {n : Int} {c : UInt8} {l : List UInt8} (h : 48 ≤ c.toNat ∧ c.toNat ≤ 57 ∧ 10 * n + (c.toNat - 48 : Nat) < 2147483648) : numL n (c :: l) = numL (10 * n + (c.toNat - 48 : Nat)) l := by conv => lhs; unfold numL
                                                                                                                                                                                                        rw [if_pos h]
end Go.Proofs.YthoneahamnmjlaaGreatDoor

/- Letters, blanks; how many a text begins with. -/
namespace Go.Proofs.YthoneahamnmjlaaGreatDoor
set_option maxRecDepth 100000
set_option maxHeartbeats 2000000
set_option linter.unusedVariables false
set_option linter.unusedSimpArgs false
open Go.RowKit

theorem high_letter (c : Int) (h : 128 ≤ c) : letterC c = false := by unfold letterC; exact decide_eq_false (by omega)
theorem high_quoted (c : Int) (h : 128 ≤ c) : quotedC c = false := by unfold quotedC; exact decide_eq_false (by omega)
theorem high_blank (c : Int) (h : 128 ≤ c) : blankC c = false := by unfold blankC; exact decide_eq_false (by omega)
theorem letter_any (c : Int) (w : World) : Calls Tryz.prog 129 #[.int .i32 c] w fun e w' => e = .returned (.bool (letterC c)) ∧ w = w' := by
  go_enter Tryz.func129, Tryz.ntmps129
  go_wp2
  all_goals (go_ret; exact ⟨ret_bool (by unfold letterC; rw [Bool.eq_iff_iff]; simp; try omega), rfl⟩)
theorem quoted_any (c : Int) (w : World) : Calls Tryz.prog 110 #[.int .i32 c] w fun e w' => e = .returned (.bool (quotedC c)) ∧ w = w' := by
  go_enter Tryz.func110, Tryz.ntmps110
  go_wp2
  all_goals (go_ret; exact ⟨ret_bool (by unfold quotedC; rw [Bool.eq_iff_iff]; simp; try omega), rfl⟩)
theorem blank_any (c : Int) (w : World) : Calls Tryz.prog 94 #[.int .i32 c] w fun e w' => e = .returned (.bool (blankC c)) ∧ w = w' := by
  go_enter Tryz.func94, Tryz.ntmps94
  go_wp2
  all_goals (go_ret; exact ⟨ret_bool (by unfold blankC; rw [Bool.eq_iff_iff]; simp; try omega), rfl⟩)

theorem span_letter_any (s : ByteArray) (w : World) (hs : s.size ≤ 9223372036854775807) :
    Calls Tryz.prog 93 #[.string s, .func (.func 129) #[] #[]] w fun e w' => e = .returned (.int .i64 (spanL letterC (bts s))) ∧ Ext w w' := by
  go_enter Tryz.func93, Tryz.ntmps93
  go_wp2_with fail
  go_loopw [4] (fun _ wr => ∃ k : Nat, k ≤ s.size ∧ wr = w.iter s k ∧ spanL letterC (bts s) = k + spanL letterC ((bts s).drop k)) (fun _ wr => s.size - wr.iterPos w.heap.size)
  case atStart => exact ⟨0, Nat.zero_le _, rfl, by simp⟩
  case round =>
    obtain ⟨k, hk, rfl, hsp⟩ := hrel
    have Hsp := Lib.hid hsp
    clear hsp
    by_cases hlt : k < s.size
    · by_cases ha : s[k].toNat < 128
      · have hnx := fun ty => run_next_ascii (P := Tryz.prog) w s k ty hlt ha
        cases hp : letterC (s[k].toNat : Int) with
        | true =>
          have Hd := Lib.hid (spanL_drop_yes (p := letterC) hlt hp)
          go_wp2_with (go_at_call 129; refine (letter_any _ _).mono ?_; rintro e w' ⟨rfl, rfl⟩)
          go_roundw
          case rel => exact ⟨k + 1, by omega, rfl, by rw [Hsp.out, Hd.out]; omega⟩
          case measure => simp; omega
        | false =>
          have Hd := Lib.hid (spanL_drop_no (p := letterC) hlt hp)
          go_wp2_with (go_at_call 129; refine (letter_any _ _).mono ?_; rintro e w' ⟨rfl, rfl⟩)
          go_ret
          exact ⟨ret_int (by rw [Hsp.out, Hd.out]; omega), Ext.alloc _ _⟩
      · have hnx := fun ty => run_next_any (P := Tryz.prog) w s k ty hlt
        have hp : letterC (s[k].toNat : Int) = false := high_letter _ (by omega)
        have Hd := Lib.hid (spanL_drop_no (p := letterC) hlt hp)
        have hp2 : letterC ((Utf8.decode s k).1 : Int) = false := high_letter _ (by have := (decode_high s k hlt (by omega)).1; omega)
        generalize Utf8.decode s k = dk at hnx hp2
        clear hp
        go_wp2_with (go_at_call 129; refine (letter_any _ _).mono ?_; rintro e w' ⟨rfl, rfl⟩)
        go_ret
        exact ⟨ret_int (by rw [Hsp.out, Hd.out]; omega), Ext.alloc _ _⟩
    · have hnx := fun ty => run_next_end (P := Tryz.prog) w s k ty hlt
      have Hd : Hid (spanL letterC ((bts s).drop k) = 0) := Lib.hid (by rw [List.drop_eq_nil_of_le (by rw [bts_len]; omega)]; rfl)
      obtain rfl : s.size = k := by omega
      go_wp2_with fail
      go_ret
      exact ⟨ret_int (by rw [Hsp.out, Hd.out]; omega), Ext.alloc _ _⟩
theorem span_quoted_any (s : ByteArray) (w : World) (hs : s.size ≤ 9223372036854775807) :
    Calls Tryz.prog 93 #[.string s, .func (.func 110) #[] #[]] w fun e w' => e = .returned (.int .i64 (spanL quotedC (bts s))) ∧ Ext w w' := by
  go_enter Tryz.func93, Tryz.ntmps93
  go_wp2_with fail
  go_loopw [4] (fun _ wr => ∃ k : Nat, k ≤ s.size ∧ wr = w.iter s k ∧ spanL quotedC (bts s) = k + spanL quotedC ((bts s).drop k)) (fun _ wr => s.size - wr.iterPos w.heap.size)
  case atStart => exact ⟨0, Nat.zero_le _, rfl, by simp⟩
  case round =>
    obtain ⟨k, hk, rfl, hsp⟩ := hrel
    have Hsp := Lib.hid hsp
    clear hsp
    by_cases hlt : k < s.size
    · by_cases ha : s[k].toNat < 128
      · have hnx := fun ty => run_next_ascii (P := Tryz.prog) w s k ty hlt ha
        cases hp : quotedC (s[k].toNat : Int) with
        | true =>
          have Hd := Lib.hid (spanL_drop_yes (p := quotedC) hlt hp)
          go_wp2_with (go_at_call 110; refine (quoted_any _ _).mono ?_; rintro e w' ⟨rfl, rfl⟩)
          go_roundw
          case rel => exact ⟨k + 1, by omega, rfl, by rw [Hsp.out, Hd.out]; omega⟩
          case measure => simp; omega
        | false =>
          have Hd := Lib.hid (spanL_drop_no (p := quotedC) hlt hp)
          go_wp2_with (go_at_call 110; refine (quoted_any _ _).mono ?_; rintro e w' ⟨rfl, rfl⟩)
          go_ret
          exact ⟨ret_int (by rw [Hsp.out, Hd.out]; omega), Ext.alloc _ _⟩
      · have hnx := fun ty => run_next_any (P := Tryz.prog) w s k ty hlt
        have hp : quotedC (s[k].toNat : Int) = false := high_quoted _ (by omega)
        have Hd := Lib.hid (spanL_drop_no (p := quotedC) hlt hp)
        have hp2 : quotedC ((Utf8.decode s k).1 : Int) = false := high_quoted _ (by have := (decode_high s k hlt (by omega)).1; omega)
        generalize Utf8.decode s k = dk at hnx hp2
        clear hp
        go_wp2_with (go_at_call 110; refine (quoted_any _ _).mono ?_; rintro e w' ⟨rfl, rfl⟩)
        go_ret
        exact ⟨ret_int (by rw [Hsp.out, Hd.out]; omega), Ext.alloc _ _⟩
    · have hnx := fun ty => run_next_end (P := Tryz.prog) w s k ty hlt
      have Hd : Hid (spanL quotedC ((bts s).drop k) = 0) := Lib.hid (by rw [List.drop_eq_nil_of_le (by rw [bts_len]; omega)]; rfl)
      obtain rfl : s.size = k := by omega
      go_wp2_with fail
      go_ret
      exact ⟨ret_int (by rw [Hsp.out, Hd.out]; omega), Ext.alloc _ _⟩
theorem span_blank_any (s : ByteArray) (w : World) (hs : s.size ≤ 9223372036854775807) :
    Calls Tryz.prog 93 #[.string s, .func (.func 94) #[] #[]] w fun e w' => e = .returned (.int .i64 (spanL blankC (bts s))) ∧ Ext w w' := by
  go_enter Tryz.func93, Tryz.ntmps93
  go_wp2_with fail
  go_loopw [4] (fun _ wr => ∃ k : Nat, k ≤ s.size ∧ wr = w.iter s k ∧ spanL blankC (bts s) = k + spanL blankC ((bts s).drop k)) (fun _ wr => s.size - wr.iterPos w.heap.size)
  case atStart => exact ⟨0, Nat.zero_le _, rfl, by simp⟩
  case round =>
    obtain ⟨k, hk, rfl, hsp⟩ := hrel
    have Hsp := Lib.hid hsp
    clear hsp
    by_cases hlt : k < s.size
    · by_cases ha : s[k].toNat < 128
      · have hnx := fun ty => run_next_ascii (P := Tryz.prog) w s k ty hlt ha
        cases hp : blankC (s[k].toNat : Int) with
        | true =>
          have Hd := Lib.hid (spanL_drop_yes (p := blankC) hlt hp)
          go_wp2_with (go_at_call 94; refine (blank_any _ _).mono ?_; rintro e w' ⟨rfl, rfl⟩)
          go_roundw
          case rel => exact ⟨k + 1, by omega, rfl, by rw [Hsp.out, Hd.out]; omega⟩
          case measure => simp; omega
        | false =>
          have Hd := Lib.hid (spanL_drop_no (p := blankC) hlt hp)
          go_wp2_with (go_at_call 94; refine (blank_any _ _).mono ?_; rintro e w' ⟨rfl, rfl⟩)
          go_ret
          exact ⟨ret_int (by rw [Hsp.out, Hd.out]; omega), Ext.alloc _ _⟩
      · have hnx := fun ty => run_next_any (P := Tryz.prog) w s k ty hlt
        have hp : blankC (s[k].toNat : Int) = false := high_blank _ (by omega)
        have Hd := Lib.hid (spanL_drop_no (p := blankC) hlt hp)
        have hp2 : blankC ((Utf8.decode s k).1 : Int) = false := high_blank _ (by have := (decode_high s k hlt (by omega)).1; omega)
        generalize Utf8.decode s k = dk at hnx hp2
        clear hp
        go_wp2_with (go_at_call 94; refine (blank_any _ _).mono ?_; rintro e w' ⟨rfl, rfl⟩)
        go_ret
        exact ⟨ret_int (by rw [Hsp.out, Hd.out]; omega), Ext.alloc _ _⟩
    · have hnx := fun ty => run_next_end (P := Tryz.prog) w s k ty hlt
      have Hd : Hid (spanL blankC ((bts s).drop k) = 0) := Lib.hid (by rw [List.drop_eq_nil_of_le (by rw [bts_len]; omega)]; rfl)
      obtain rfl : s.size = k := by omega
      go_wp2_with fail
      go_ret
      exact ⟨ret_int (by rw [Hsp.out, Hd.out]; omega), Ext.alloc _ _⟩
end Go.Proofs.YthoneahamnmjlaaGreatDoor
