/- A range over a function, whose iterator wants of the world what Inv says. No program in sight. -/
import Derived.Test.YtogoejlbdbapoaaOver
namespace Go.Proofs.Ytogoejlbdbapoaa
set_option maxRecDepth 100000
set_option maxHeartbeats 2000000
set_option linter.unusedVariables false
set_option linter.unusedSimpArgs false
open Go.RowKit Go.Sort

/-- An iterator's contract: it calls yield with N rows of arguments, one behind the other; it stops where yield says so. -/
def IterI (P : Program) (gf : Nat) (lb : Array Value) (Inv : World → Prop) (N : Nat) (Enc : Nat → World → Array Value → Prop) : Prop :=
  ∀ (L : Nat) (W : World) (J : Nat → World → Prop) (Js : World → Prop),
    (∀ k W, J k W → Inv W) → (∀ k W W', J k W → Ext W W' → J k W') → (∀ W W', Js W → Ext W W' → Js W') →
    (∀ k args W, k < N → J k W → Enc k W args → YieldAt Fence.wide 0 P L args W fun e W' => (e = .returned (.bool true) ∧ J (k + 1) W') ∨ (e = .returned (.bool false) ∧ Js W')) →
    J 0 W →
    CallsIn Fence.wide 0 P gf (#[.func (.yield L) #[] #[]] ++ lb) W fun e W' => (∃ v, e = .returned v) ∧ (J N W' ∨ Js W')

theorem wp_overI {P : Program} {g : Operand} {ps : Array Tmp} {assign body : Code} {Q : Exit → Act → World → Prop} {a : Act} {w : World} {gf : Nat} {lb : Array Value} {Inv : World → Prop} {N : Nat} {Enc : Nat → World → Array Value → Prop}
    (hg : a.eval g = .func (.func gf) #[] lb) (eg : ∀ args w, (callFunc gf args).run P w = .ok (.enter gf args) w) (hit : IterI P gf lb Inv N Enc)
    (hsz : ∀ k W args, Enc k W args → args.size = ps.size) (hEnc : ∀ k args, Stab w.heap.size (fun W => Enc k W args))
    (I : Nat → World → Prop) (Ix : Code → World → Prop) (hI : ∀ k, Stab w.heap.size (I k)) (hIx : ∀ c, Stab w.heap.size (Ix c))
    (hb : ∀ k W, I k W → Inv W) (h0 : I 0 w)
    (hround : ∀ k args W L, k < N → w.heap.size < L → I k W → Enc k W args →
      assign.wpIn (Fence.wide.inRound L) 0 P (Exit.then (fun a₁ W₁ => KeepsFrom w.heap.size W W₁ ∧ I k W₁ ∧ Enc k W₁ args ∧ ∀ W₂, (∀ J : World → Prop, Stab w.heap.size J → J W₁ → J W₂) → I k W₂ → Enc k W₂ args → body.wpIn (Fence.wide.inRound L) 0 P (overQ w.heap.size I Ix k W₂) a₁ W₂) (fun _ _ _ => False))
        { tmps := (ps.zip args).foldl (fun tmps (t, a) => tmps.setIfInBounds t a) a.tmps, defers := [] } W)
    (hdone : ∀ D W, w.heap.size ≤ D → I N W → W.heap[D]? = some (.deferred (some [])) → Q .normal { a with defers := { target := .collected D, args := #[] } :: a.defers } W)
    (hstop : ∀ D c W, w.heap.size ≤ D → Ix c W → W.heap[D]? = some (.deferred (some [])) → c.wp P Q { a with defers := { target := .collected D, args := #[] } :: a.defers } W) :
    (Code.rangeFunc g ps assign body).wp P Q a w := by
  refine (wpIn_wide (n := 0)).1 ?_
  refine wp_range hg eg w.heap.size (w.heap.size + 1) rfl rfl _ rfl ?_
  intro fn W hW
  have hr0 : ∀ st pe, ({ recOf fn a ps assign body w.heap.size .ready none with state := st, pending := pe } : Loop) = recOf fn a ps assign body w.heap.size st pe := fun _ _ => rfl
  generalize hr : recOf fn a ps assign body w.heap.size .ready none = r at hW
  have hrd : r.state = .ready ∧ r.pending = none := by subst hr; exact ⟨rfl, rfl⟩
  have hL0 : W.heap[w.heap.size + 1]? = some (.loop r) := by
    subst hW
    have := World.alloc_heap_new (w.alloc (.deferred (some []))) (.loop r)
    rwa [World.size_alloc] at this
  have hD0 : W.heap[w.heap.size]? = some (.deferred (some [])) := by
    subst hW
    rw [Below.heap_alloc _ _ _ (by simp)]
    exact World.alloc_heap_new w _
  have hI0 : I 0 W := by
    subst hW
    exact (hI 0).ext ((hI 0).ext h0 (Ext.alloc _ _)) (Ext.alloc _ _)
  have hx := hit (w.heap.size + 1) W (fun k W => W.heap[w.heap.size + 1]? = some (.loop r) ∧ W.heap[w.heap.size]? = some (.deferred (some [])) ∧ I k W)
    (fun W => ∃ c, W.heap[w.heap.size + 1]? = some (.loop { r with state := .done, pending := some c }) ∧ W.heap[w.heap.size]? = some (.deferred (some [])) ∧ Ix c W)
    (fun k W h => hb k W h.2.2)
    (fun k W W' ⟨h1, h2, h3⟩ hx => ⟨(hx.block _ (Array.getElem?_eq_some_iff.1 h1).1).trans h1, (hx.block _ (Array.getElem?_eq_some_iff.1 h2).1).trans h2, (hI k).ext h3 hx⟩)
    (fun W W' ⟨c, h1, h2, h3⟩ hx => ⟨c, (hx.block _ (Array.getElem?_eq_some_iff.1 h1).1).trans h1, (hx.block _ (Array.getElem?_eq_some_iff.1 h2).1).trans h2, (hIx c).ext h3 hx⟩)
    ?_ ⟨hL0, hD0, hI0⟩
  · refine CallsIn.mono (n := 0) hx ?_
    rintro e W' ⟨⟨v, rfl⟩, h | h⟩
    · obtain ⟨h1, h2, h3⟩ := h
      refine ⟨v, rfl, r, h1, by rw [hrd.1]; decide, fun r' => ?_⟩
      rw [hrd.2]
      exact hdone _ _ (Nat.le_refl _) ((hI N).put h3 h1 rfl (by omega) _) ((World.putObj_heap_other (by omega)).trans h2)
    · obtain ⟨c, h1, h2, h3⟩ := h
      refine ⟨v, rfl, _, h1, by simp, fun r' => ?_⟩
      simp only []
      exact wpIn_wide.2 (hstop _ c _ (Nat.le_refl _) ((hIx c).put h3 h1 rfl (by omega) _) ((World.putObj_heap_other (by omega)).trans h2))
  · rintro k args W1 hk ⟨h1, h2, h3⟩ he
    refine yield_rec hr h1 (hsz k W1 args he) ?_
    refine wpIn_mono (hround k args W1 (w.heap.size + 1) hk (by omega) h3 he) ?_
    rintro ex a₁ W₁ hq
    cases ex with
    | normal =>
      obtain ⟨q1, q2, q2', q3⟩ := hq
      have h1' := q1.same _ _ (by omega) h1 rfl
      have h2' := q1.same _ _ (by omega) h2 rfl
      refine ⟨h1', ?_⟩
      refine wpIn_mono (q3 (W₁.putObj (w.heap.size + 1) (.loop { r with state := .busy })) (fun J hJ hj => hJ.put hj h1' rfl (by omega) _) ((hI k).put q2 h1' rfl (by omega) _) ((hEnc k args).put q2' h1' rfl (by omega) _)) ?_
      rintro ex a₂ W₂ ⟨hK, hq⟩
      have h1'' := hK.same _ _ (by omega) (World.putObj_heap_same (Array.getElem?_eq_some_iff.1 h1').1) rfl
      have h2'' := hK.same _ _ (by omega) ((World.putObj_heap_other (by omega)).trans h2') rfl
      have hlt := (Array.getElem?_eq_some_iff.1 h1'').1
      refine ⟨h1'', ?_⟩
      cases ex with
      | normal =>
        refine .inl ⟨rfl, World.putObj_heap_same hlt |>.trans (by rw [rec_ready hr]), (World.putObj_heap_other (by omega)).trans h2'', (hI (k + 1)).put hq h1'' rfl (by omega) _⟩
      | ret => exact .inr ⟨rfl, .ret, World.putObj_heap_same hlt, (World.putObj_heap_other (by omega)).trans h2'', (hIx _).put hq h1'' rfl (by omega) _⟩
      | exit id => exact .inr ⟨rfl, .exit id, World.putObj_heap_same hlt, (World.putObj_heap_other (by omega)).trans h2'', (hIx _).put hq h1'' rfl (by omega) _⟩
      | goto t => exact .inr ⟨rfl, .goto t, World.putObj_heap_same hlt, (World.putObj_heap_other (by omega)).trans h2'', (hIx _).put hq h1'' rfl (by omega) _⟩
      | panic c => exact hq
      | outgrown => exact hq
    | _ => exact hq

end Go.Proofs.Ytogoejlbdbapoaa
