/- A range over a function whose iterator turns blocks of its own; a loop of such kind may stand within another's iterator. No program in sight. -/
import Derived.Test.YtilbofkpjgcchaaDoorOverI
import Derived.Test.YtilbofkpjgcchaaDoorKit
namespace Go.Proofs.YtilbofkpjgcchaaDoor
set_option maxRecDepth 100000
set_option maxHeartbeats 2000000
set_option linter.unusedVariables false
set_option linter.unusedSimpArgs false
open Go.RowKit Go.Sort

/-- What an iterator may do between the rounds: make blocks; turn what is no row from B on; turn rows of type T from X on. -/
def Turn (T : TypeId) (X B : Nat) (W W' : World) : Prop := ∃ row, W.grownBy W' row ∧ ∀ r, row = some r → ∃ o, W.heap[r]? = some o ∧ (B ≤ r ∧ o.isCells = false ∨ X ≤ r ∧ ∃ cs fr, o = .cells cs T fr)
theorem Turn.ext {T : TypeId} {X B : Nat} {W W' : World} (h : Ext W W') : Turn T X B W W' := ⟨none, grown_ext h, fun r e => by cases e⟩
theorem Turn.put {T : TypeId} {X B : Nat} {W : World} {l : Nat} {o : Obj} (hl : W.heap[l]? = some o) (ho : o.isCells = false) (hB : B ≤ l) (o' : Obj) : Turn T X B W (W.putObj l o') :=
  ⟨some l, grownBy_putObj' W l o', fun r e => by cases e; exact ⟨o, hl, .inl ⟨hB, ho⟩⟩⟩
theorem Turn.set {T : TypeId} {X B : Nat} {W : World} {x : Nat} {xs : List Value} (h : RowAt W x T xs) (hX : X ≤ x) (i : Nat) (v : Value) : Turn T X B W (W.setCell ⟨x, i, none⟩ v) :=
  ⟨some x, grown_set W x i v, fun r e => by cases e; exact ⟨_, h, .inr ⟨hX, _, _, rfl⟩⟩⟩
theorem Turn.mono {T : TypeId} {X B X' B' : Nat} {W W' : World} (h : Turn T X B W W') (hX : X' ≤ X) (hB : B' ≤ B) : Turn T X' B' W W' := by
  obtain ⟨row, hg, hr⟩ := h
  refine ⟨row, hg, fun r e => ?_⟩
  obtain ⟨o, ho, h | h⟩ := hr r e
  · exact ⟨o, ho, .inl ⟨by omega, h.2⟩⟩
  · exact ⟨o, ho, .inr ⟨by omega, h.2⟩⟩
theorem Turn.keep {T : TypeId} {X B : Nat} {W W' : World} (h : Turn T X B W W') {l : Nat} {o : Obj} (hl : W.heap[l]? = some o) (ho : o.isCells = false) (hB : l < B) : W'.heap[l]? = some o := by
  obtain ⟨row, hg, hr⟩ := h
  refine (hg.block l (Array.getElem?_eq_some_iff.1 hl).1 (fun e => ?_)).trans hl
  obtain ⟨o', ho', h | h⟩ := hr l e.symm
  · omega
  · rw [hl] at ho'; cases ho'; obtain ⟨_, cs, fr, rfl⟩ := h; cases ho
/-- What abides such turns. -/
def PStab (T : TypeId) (X B : Nat) (I : World → Prop) : Prop := ∀ W W', Turn T X B W W' → I W → I W'
theorem PStab.stab {T : TypeId} {X B : Nat} {I : World → Prop} (h : PStab T X B I) : Stab B I := fun W W' row hi hg hr =>
  h W W' ⟨row, hg, fun r e => by obtain ⟨hB, o, ho, hc⟩ := hr r e; exact ⟨o, ho, .inl ⟨hB, hc⟩⟩⟩ hi
theorem PStab.mono {T : TypeId} {X B X' B' : Nat} {I : World → Prop} (h : PStab T X B I) (hX : X ≤ X') (hB : B ≤ B') : PStab T X' B' I := fun W W' ht hi => h W W' (ht.mono hX hB) hi
theorem PStab.and {T : TypeId} {X B : Nat} {I I' : World → Prop} (h : PStab T X B I) (h' : PStab T X B I') : PStab T X B (fun W => I W ∧ I' W) := fun W W' ht hi => ⟨h W W' ht hi.1, h' W W' ht hi.2⟩
theorem PStab.pure {T : TypeId} {X B : Nat} (p : Prop) : PStab T X B (fun _ => p) := fun _ _ _ h => h
theorem PStab.ex {T : TypeId} {X B : Nat} {α : Sort _} {I : α → World → Prop} (h : ∀ x, PStab T X B (I x)) : PStab T X B (fun W => ∃ x, I x W) := fun W W' ht ⟨x, hi⟩ => ⟨x, h x W W' ht hi⟩
theorem PStab.row {T : TypeId} {X B : Nat} (g : Nat) (t : TypeId) (xs : List Value) (h : t ≠ T ∨ g < X) : PStab T X B (fun W => RowAt W g t xs) := fun W W' ⟨row, hg, hr⟩ hi => hi.kept hg (fun e => by
  obtain ⟨o, ho, h' | h'⟩ := hr g e
  · rw [show W.heap[g]? = _ from hi] at ho; cases ho; exact absurd h'.2 (by simp [Obj.isCells])
  · rw [show W.heap[g]? = _ from hi] at ho
    obtain ⟨hX, cs, fr, rfl⟩ := h'
    cases ho
    rcases h with h | h
    · exact h rfl
    · omega)
theorem PStab.below {T : TypeId} {X B : Nat} (n : Nat) (w0 : World) (hX : n ≤ X) (hB : n ≤ B) (hw : n ≤ w0.heap.size) : PStab T X B (fun W => Below n w0 W) := fun W W' ⟨row, hg, hr⟩ hb =>
  hb.grown hg (Nat.le_trans hw hb.size) (fun k e => by obtain ⟨o, _, h | h⟩ := hr k e <;> omega)
theorem PStab.own {T : TypeId} {X B : Nat} (base n size : Nat) (e : TypeId) (v : Value) (xs : List Value) (he : e ≠ T) : PStab T X B (fun W => W.ownsRow base e size v n xs) := fun W W' ⟨row, hg, hr⟩ h => by
  refine ⟨h.1, ?_⟩
  rcases h.2 with hn | ⟨g, cap, cur, rfl, hbg, hgg, rest⟩
  · exact .inl hn
  · refine .inr ⟨g, cap, cur, rfl, hbg, ?_, rest⟩
    refine (hg.block g (Array.getElem?_eq_some_iff.1 hgg).1 (fun e' => ?_)).trans hgg
    obtain ⟨o, ho, h' | h'⟩ := hr g e'.symm
    · rw [hgg] at ho; cases ho; exact absurd h'.2 (by simp [Obj.isCells])
    · rw [hgg] at ho; obtain ⟨_, cs, fr, rfl⟩ := h'; cases ho; exact he rfl
/-- What the rounds leave of what the iterator holds: rows of some types, from X on. -/
structure KeepsC (Kt : TypeId → Prop) (X : Nat) (W W' : World) : Prop where
  size : W.heap.size ≤ W'.heap.size
  row : ∀ (k : Nat) (t : TypeId) (xs : List Value), X ≤ k → Kt t → RowAt W k t xs → RowAt W' k t xs
theorem KeepsC.refl (Kt : TypeId → Prop) (X : Nat) (W : World) : KeepsC Kt X W W := ⟨Nat.le_refl _, fun _ _ _ _ _ h => h⟩
theorem KeepsC.trans {Kt : TypeId → Prop} {X : Nat} {A B C : World} (h : KeepsC Kt X A B) (h' : KeepsC Kt X B C) : KeepsC Kt X A C := ⟨Nat.le_trans h.size h'.size, fun k t xs hk ht hr => h'.row k t xs hk ht (h.row k t xs hk ht hr)⟩
theorem KeepsC.ext {Kt : TypeId → Prop} {X : Nat} {W W' : World} (h : Ext W W') : KeepsC Kt X W W' := ⟨h.size, fun _ _ _ _ _ hr => hr.ext h⟩
theorem KeepsC.mono {Kt Kt' : TypeId → Prop} {X X' : Nat} {W W' : World} (h : KeepsC Kt X W W') (hX : X ≤ X') (hK : ∀ t, Kt' t → Kt t) : KeepsC Kt' X' W W' := ⟨h.size, fun k t xs hk ht hr => h.row k t xs (by omega) (hK t ht) hr⟩
theorem KeepsC.put {Kt : TypeId → Prop} {X : Nat} {W : World} {l : Nat} {o : Obj} (hl : W.heap[l]? = some o) (ho : o.isCells = false) (o' : Obj) : KeepsC Kt X W (W.putObj l o') :=
  ⟨(grownBy_putObj' W l o').size, fun k t xs _ _ hr => hr.kept (grownBy_putObj' W l o') (fun e => by
    have e := Option.some.inj e; subst e; rw [show W.heap[l]? = _ from hr] at hl; cases hl; cases ho)⟩
/-- A row elsewhere is written, or one of a type that need not be kept. -/
theorem KeepsC.grown {Kt : TypeId → Prop} {X : Nat} {W W' : World} {row : Option Nat} (hg : W.grownBy W' row) (h : ∀ r, row = some r → r < X ∨ ∃ o : Obj, W.heap[r]? = some o ∧ ∀ cs t fr, o = .cells cs t fr → ¬ Kt t) : KeepsC Kt X W W' :=
  ⟨hg.size, fun k t xs hk ht hr => hr.kept hg (fun e => by
    rcases h k e with h | ⟨o, ho, h⟩
    · omega
    · rw [show W.heap[k]? = _ from hr] at ho; cases ho; exact h _ _ _ rfl ht)⟩

theorem keepsFrom_mono {A B : Nat} {W W' : World} (h : KeepsFrom A W W') (hB : A ≤ B) : KeepsFrom B W W' := ⟨h.size, fun k o hk h0 ho => h.same k o (by omega) h0 ho⟩
/-- An iterator's contract. -/
def IterP (P : Program) (gf : Nat) (lb : Array Value) (Inv : World → Prop) (T : TypeId) (Kt : TypeId → Prop) (X : Nat) (N : Nat) (Enc : Nat → World → Array Value → Prop) : Prop :=
  ∀ (L : Nat) (W : World) (J : Nat → World → Prop) (Js : World → Prop), X ≤ W.heap.size → Inv W →
    (∀ k, PStab T X W.heap.size (J k)) → PStab T X W.heap.size Js →
    (∀ k args W₁, k < N → J k W₁ → Enc k W₁ args → YieldAt Fence.wide 0 P L args W₁ fun e W' => KeepsFrom W.heap.size W₁ W' ∧ KeepsC Kt X W₁ W' ∧ ((e = .returned (.bool true) ∧ J (k + 1) W') ∨ (e = .returned (.bool false) ∧ Js W'))) →
    J 0 W →
    CallsIn Fence.wide 0 P gf (#[.func (.yield L) #[] #[]] ++ lb) W fun e W' => (∃ v, e = .returned v) ∧ (J N W' ∨ Js W')

/-- What a round's body owes. -/
def overP (B : Nat) (Kt : TypeId → Prop) (X : Nat) (I : Nat → World → Prop) (Ix : Code → World → Prop) (k : Nat) (W : World) : Exit → Act → World → Prop := fun e _ W' =>
  KeepsFrom B W W' ∧ KeepsC Kt X W W' ∧ match e with
  | .normal => I (k + 1) W'
  | .ret => Ix .ret W'
  | .exit id => Ix (.exit id) W'
  | .goto t => Ix (.goto t) W'
  | _ => False

theorem wp_overP {P : Program} {g : Operand} {ps : Array Tmp} {assign body : Code} {Q : Exit → Act → World → Prop} {a : Act} {w : World} {gf : Nat} {lb : Array Value} {Inv : World → Prop} {T : TypeId} {Kt : TypeId → Prop} {X : Nat} {N : Nat} {Enc : Nat → World → Array Value → Prop}
    (hg : a.eval g = .func (.func gf) #[] lb) (eg : ∀ args w, (callFunc gf args).run P w = .ok (.enter gf args) w) (hit : IterP P gf lb Inv T Kt X N Enc) (hX : X ≤ w.heap.size)
    (hsz : ∀ k W args, Enc k W args → args.size = ps.size) (hEnc : ∀ k args, Stab w.heap.size (fun W => Enc k W args))
    (I : Nat → World → Prop) (Ix : Code → World → Prop) (hI : ∀ k, PStab T X w.heap.size (I k)) (hIx : ∀ c, PStab T X w.heap.size (Ix c))
    (hInv : Stab w.heap.size Inv) (hb : Inv w) (h0 : I 0 w)
    (hround : ∀ k args W L, k < N → w.heap.size < L → I k W → Enc k W args →
      assign.wpIn (Fence.wide.inRound L) 0 P (Exit.then (fun a₁ W₁ => KeepsFrom w.heap.size W W₁ ∧ KeepsC Kt X W W₁ ∧ I k W₁ ∧ Enc k W₁ args ∧ ∀ W₂, (∀ J : World → Prop, Stab w.heap.size J → J W₁ → J W₂) → I k W₂ → Enc k W₂ args → body.wpIn (Fence.wide.inRound L) 0 P (overP w.heap.size Kt X I Ix k W₂) a₁ W₂) (fun _ _ _ => False))
        { tmps := (ps.zip args).foldl (fun tmps (t, a) => tmps.setIfInBounds t a) a.tmps, defers := [] } W)
    (hdone : ∀ D W, w.heap.size ≤ D → I N W → W.heap[D]? = some (.deferred (some [])) → Q .normal { a with defers := { target := .collected D, args := #[] } :: a.defers } W)
    (hstop : ∀ D c W, w.heap.size ≤ D → Ix c W → W.heap[D]? = some (.deferred (some [])) → c.wp P Q { a with defers := { target := .collected D, args := #[] } :: a.defers } W) :
    (Code.rangeFunc g ps assign body).wp P Q a w := by
  refine (wpIn_wide (n := 0)).1 ?_
  refine wp_range hg eg w.heap.size (w.heap.size + 1) rfl rfl _ rfl ?_
  intro fn W hW
  have hr0 : ∀ st pe, ({ recOf fn a ps assign body w.heap.size .ready none with state := st, pending := pe } : Loop) = recOf fn a ps assign body w.heap.size st pe := fun _ _ => rfl
  generalize hr : recOf fn a ps assign body w.heap.size .ready none = r at hW
  have hrd : r.state = .ready ∧ r.pending = none := by subst hr; exact ⟨rfl, rfl⟩
  have hL0 : W.heap[w.heap.size + 1]? = some (.loop r) := by
    subst hW
    have := World.alloc_heap_new (w.alloc (.deferred (some []))) (.loop r)
    rwa [World.size_alloc] at this
  have hD0 : W.heap[w.heap.size]? = some (.deferred (some [])) := by
    subst hW
    rw [Below.heap_alloc _ _ _ (by simp)]
    exact World.alloc_heap_new w _
  have hI0 : I 0 W := by
    subst hW
    exact (hI 0).stab.ext ((hI 0).stab.ext h0 (Ext.alloc _ _)) (Ext.alloc _ _)
  have hWs : W.heap.size = w.heap.size + 1 + 1 := by subst hW; simp
  have hx := hit (w.heap.size + 1) W (fun k W => W.heap[w.heap.size + 1]? = some (.loop r) ∧ W.heap[w.heap.size]? = some (.deferred (some [])) ∧ I k W)
    (fun W => ∃ c, W.heap[w.heap.size + 1]? = some (.loop { r with state := .done, pending := some c }) ∧ W.heap[w.heap.size]? = some (.deferred (some [])) ∧ Ix c W)
    (by omega)
    (by subst hW; exact hInv.ext (hInv.ext hb (Ext.alloc _ _)) (Ext.alloc _ _))
    (fun k W₁ W₂ ht ⟨h1, h2, h3⟩ => ⟨ht.keep h1 rfl (by omega), ht.keep h2 rfl (by omega), hI k W₁ W₂ (ht.mono (Nat.le_refl _) (by omega)) h3⟩)
    (fun W₁ W₂ ht ⟨c, h1, h2, h3⟩ => ⟨c, ht.keep h1 rfl (by omega), ht.keep h2 rfl (by omega), hIx c W₁ W₂ (ht.mono (Nat.le_refl _) (by omega)) h3⟩)
    ?_ ⟨hL0, hD0, hI0⟩
  · refine CallsIn.mono (n := 0) hx ?_
    rintro e W' ⟨⟨v, rfl⟩, h | h⟩
    · obtain ⟨h1, h2, h3⟩ := h
      refine ⟨v, rfl, r, h1, by rw [hrd.1]; decide, fun r' => ?_⟩
      rw [hrd.2]
      exact hdone _ _ (Nat.le_refl _) ((hI N).stab.put h3 h1 rfl (by omega) _) ((World.putObj_heap_other (by omega)).trans h2)
    · obtain ⟨c, h1, h2, h3⟩ := h
      refine ⟨v, rfl, _, h1, by simp, fun r' => ?_⟩
      simp only []
      exact wpIn_wide.2 (hstop _ c _ (Nat.le_refl _) ((hIx c).stab.put h3 h1 rfl (by omega) _) ((World.putObj_heap_other (by omega)).trans h2))
  · rintro k args W1 hk ⟨h1, h2, h3⟩ he
    refine yield_rec hr h1 (hsz k W1 args he) ?_
    refine wpIn_mono (hround k args W1 (w.heap.size + 1) hk (by omega) h3 he) ?_
    rintro ex a₁ W₁ hq
    cases ex with
    | normal =>
      obtain ⟨q1, q1c, q2, q2', q3⟩ := hq
      have h1' := q1.same _ _ (by omega) h1 rfl
      have h2' := q1.same _ _ (by omega) h2 rfl
      refine ⟨h1', ?_⟩
      have hput : ∀ o : Obj, KeepsFrom W.heap.size W₁ (W₁.putObj (w.heap.size + 1) o) := fun o => ⟨(grownBy_putObj' W₁ _ o).size, fun k' o' hk' h0' ho' => (World.putObj_heap_other (by omega)).trans h0'⟩
      refine wpIn_mono (q3 (W₁.putObj (w.heap.size + 1) (.loop { r with state := .busy })) (fun J hJ hj => hJ.put hj h1' rfl (by omega) _) ((hI k).stab.put q2 h1' rfl (by omega) _) ((hEnc k args).put q2' h1' rfl (by omega) _)) ?_
      rintro ex a₂ W₂ ⟨hK, hKc, hq⟩
      have h1'' := hK.same _ _ (by omega) (World.putObj_heap_same (Array.getElem?_eq_some_iff.1 h1').1) rfl
      have h2'' := hK.same _ _ (by omega) ((World.putObj_heap_other (by omega)).trans h2') rfl
      have hlt := (Array.getElem?_eq_some_iff.1 h1'').1
      have hput2 : ∀ o : Obj, KeepsFrom W.heap.size W₂ (W₂.putObj (w.heap.size + 1) o) := fun o => ⟨(grownBy_putObj' W₂ _ o).size, fun k' o' hk' h0' ho' => (World.putObj_heap_other (by omega)).trans h0'⟩
      have hkm : ∀ {A B : World}, KeepsFrom w.heap.size A B → KeepsFrom W.heap.size A B := fun h => ⟨h.size, fun k' o' hk' h0' ho' => h.same k' o' (by omega) h0' ho'⟩
      have hAll : ∀ o : Obj, KeepsFrom W.heap.size W1 (W₂.putObj (w.heap.size + 1) o) ∧ KeepsC Kt X W1 (W₂.putObj (w.heap.size + 1) o) := fun o =>
        ⟨(((hkm q1).trans (hput _)).trans (hkm hK)).trans (hput2 o), ((q1c.trans (KeepsC.put h1' rfl _)).trans hKc).trans (KeepsC.put h1'' rfl o)⟩
      refine ⟨h1'', ?_⟩
      cases ex with
      | normal =>
        refine ⟨(hAll _).1, (hAll _).2, .inl ⟨rfl, World.putObj_heap_same hlt |>.trans (by rw [rec_ready hr]), (World.putObj_heap_other (by omega)).trans h2'', (hI (k + 1)).stab.put hq h1'' rfl (by omega) _⟩⟩
      | ret => exact ⟨(hAll _).1, (hAll _).2, .inr ⟨rfl, .ret, World.putObj_heap_same hlt, (World.putObj_heap_other (by omega)).trans h2'', (hIx _).stab.put hq h1'' rfl (by omega) _⟩⟩
      | exit id => exact ⟨(hAll _).1, (hAll _).2, .inr ⟨rfl, .exit id, World.putObj_heap_same hlt, (World.putObj_heap_other (by omega)).trans h2'', (hIx _).stab.put hq h1'' rfl (by omega) _⟩⟩
      | goto t => exact ⟨(hAll _).1, (hAll _).2, .inr ⟨rfl, .goto t, World.putObj_heap_same hlt, (World.putObj_heap_other (by omega)).trans h2'', (hIx _).stab.put hq h1'' rfl (by omega) _⟩⟩
      | panic c => exact hq
      | outgrown => exact hq
    | _ => exact hq
end Go.Proofs.YtilbofkpjgcchaaDoor
