/- A range over a function: an iterator's contract, and what the caller owes. No program in sight. -/
import Derived.Test.YtkmbnghghbfkdaaGreatGp00
import Derived.OrdersIn
import Derived.Lib.QuietBelow
import Derived.StillTail
import Derived.ProofKit
import Derived.OpenShut
import Derived.Deep.Slices
import Derived.SliceStrings
set_option linter.unusedSimpArgs false
set_option linter.unusedVariables false
set_option maxHeartbeats 2000000
set_option maxRecDepth 100000

namespace Go.Proofs.YtkmbnghghbfkdaaGreat
open Go.RowKit Go.Sort
theorem calls_of_wp_marks {P : Program} {f : FuncId} {fn : Func} {c : Code} {args : Array Value} {w : World} {R : Ending → World → Prop} (hf : P.funcs[f]? = some fn) (hb : fn.body = some c)
 (h : c.wp P (bodyPostM Fence.wide 0 P fn R) { tmps := args ++ Array.replicate (fn.ntmps - args.size) undef, defers := [] } w) : Calls P f args w R :=
 callsIn_wide.1 (callsIn_of_wp_marks hf hb trivial (wpIn_wide.2 h))
def IterOf (P : Program) (gf : Nat) (lb : Array Value) (w0 : World) (N : Nat) (Enc : Nat → World → Array Value → Prop) : Prop :=
 ∀ (L : Nat) (W : World) (J : Nat → World → Prop) (Js : World → Prop),
  (∀ k W, J k W → Below w0.heap.size w0 W) → (∀ k W W', J k W → Ext W W' → J k W') → (∀ W W', Js W → Ext W W' → Js W') →
  (∀ k args W, k < N → J k W → Enc k W args → YieldAt Fence.wide 0 P L args W fun e W' => (e = .returned (.bool true) ∧ J (k + 1) W') ∨ (e = .returned (.bool false) ∧ Js W')) →
  J 0 W →
  CallsIn Fence.wide 0 P gf (#[.func (.yield L) #[] #[]] ++ lb) W fun e W' => (∃ v, e = .returned v) ∧ (J N W' ∨ Js W')
def Stab (B : Nat) (I : World → Prop) : Prop := ∀ W W' row, I W → W.grownBy W' row → (∀ r, row = some r → B ≤ r ∧ ∃ o : Obj, W.heap[r]? = some o ∧ o.isCells = false) → I W'
theorem grown_ext {W W' : World} (h : Ext W W') : W.grownBy W' none := ⟨h.os, h.tape, h.output, h.size, fun i hi _ => h.block i hi⟩
theorem ext_cell {w w' : World} {b o : Nat} {v : Value} (hx : Ext w w') (h : w.cell? ⟨b, o, none⟩ = some v) : w'.cell? ⟨b, o, none⟩ = some v := (Below.cell (p := ⟨b, o, none⟩) hx (cell_lt h)).trans h
theorem below_step {w W W' : World} (h : Below w.heap.size w W) (hx : Ext W W') : Below w.heap.size w W' := Below.ext h hx h.size
theorem below_set2 {w W : World} {b : Nat} (h : Below w.heap.size w W) (hb : w.heap.size ≤ b) (u v : Value) : Below w.heap.size w ((W.setCell ⟨b, 0, none⟩ u).setCell ⟨b, 1, none⟩ v) := (h.setCell (p := ⟨b, 0, none⟩) hb u).setCell (p := ⟨b, 1, none⟩) hb v
theorem Stab.ext {B : Nat} {I : World → Prop} (h : Stab B I) {W W' : World} (hi : I W) (hx : Ext W W') : I W' := h W W' none hi (grown_ext hx) (fun r e => by cases e)
theorem Stab.put {B : Nat} {I : World → Prop} (h : Stab B I) {W : World} (hi : I W) {l : Nat} {o : Obj} (hl : W.heap[l]? = some o) (ho : o.isCells = false) (hB : B ≤ l) (o' : Obj) : I (W.putObj l o') :=
 h W _ (some l) hi (grownBy_putObj' W l o') (fun r e => by cases e; exact ⟨hB, o, hl, ho⟩)
theorem Stab.and {B : Nat} {I I' : World → Prop} (h : Stab B I) (h' : Stab B I') : Stab B (fun W => I W ∧ I' W) := fun W W' row hi hg hr => ⟨h W W' row hi.1 hg hr, h' W W' row hi.2 hg hr⟩
theorem Stab.pure (B : Nat) (p : Prop) : Stab B (fun _ => p) := fun _ _ _ h _ _ => h
theorem Stab.ex {α : Type} {B : Nat} {I : α → World → Prop} (h : ∀ x, Stab B (I x)) : Stab B (fun W => ∃ x, I x W) := fun W W' row ⟨x, hi⟩ hg hr => ⟨x, h x W W' row hi hg hr⟩
theorem Stab.boxed (B b : Nat) (t : TypeId) (v : Value) : Stab B (fun W => Boxed W b t v) := fun W W' row h hg hr => h.kept hg (fun e => by
 obtain ⟨_, o, ho, hc⟩ := hr b e.symm
 rw [show W.heap[b]? = _ from h] at ho
 cases ho; cases hc)
theorem Stab.below (B n : Nat) (w0 : World) (h : n ≤ B) (hB : B ≤ w0.heap.size) : Stab B (fun W => Below n w0 W) := fun W W' row hb hg hr =>
 hb.grown hg (Nat.le_trans h (Nat.le_trans hB hb.size)) (fun k e => Nat.le_trans h (hr k e).1)
theorem Stab.own (B base n size : Nat) (e : TypeId) (v : Value) (xs : List Value) : Stab B (fun W => W.ownsRow base e size v n xs) := fun W W' row h hg hr => by
 refine ⟨h.1, ?_⟩
 rcases h.2 with hn | ⟨g, cap, cur, rfl, hbg, hgg, rest⟩
 ·exact .inl hn
 ·refine .inr ⟨g, cap, cur, rfl, hbg, ?_, rest⟩
  refine (hg.block g (Array.getElem?_eq_some_iff.1 hgg).1 (fun e' => ?_)).trans hgg
  obtain ⟨_, o, ho, hc⟩ := hr g e'.symm
  rw [hgg] at ho
  cases ho; cases hc
def overQ (B : Nat) (I : Nat → World → Prop) (Ix : Code → World → Prop) (k : Nat) (W : World) : Exit → Act → World → Prop := fun e _ W' =>
 KeepsFrom B W W' ∧ match e with
 | .normal => I (k + 1) W'
 | .ret => Ix .ret W'
 | .exit id => Ix (.exit id) W'
 | .goto t => Ix (.goto t) W'
 | _ => False
theorem keeps_ext (B : Nat) {W W' : World} (h : Ext W W') : KeepsFrom B W W' := ⟨h.size, fun k _ _ hk _ => (h.block k (Array.getElem?_eq_some_iff.1 hk).1).trans hk⟩
theorem keeps_set (B : Nat) {W : World} {a : Addr} {u : Value} (h : W.cell? a = some u) (v : Value) : KeepsFrom B W (W.setCell a v) := by
 obtain ⟨o, ho, hc⟩ := cells_of_cell h
 refine ⟨by simp [World.setCell], fun k o' _ hk ho' => ?_⟩
 have hne : k ≠ a.block := by rintro rfl; rw [ho] at hk; cases hk; rw [hc] at ho'; cases ho'
 rw [Below.heap_setCell _ _ _ k hne]; exact hk
theorem keeps_grown (B : Nat) {W W' : World} {row : Option Nat} (hg : W.grownBy W' row) (hr : ∀ r, row = some r → ∃ o : Obj, W.heap[r]? = some o ∧ o.isCells = true) : KeepsFrom B W W' :=
 ⟨hg.size, fun k o _ hk ho => (hg.block k (Array.getElem?_eq_some_iff.1 hk).1 (fun e => by
  obtain ⟨o', ho', hc⟩ := hr k e.symm
  rw [hk] at ho'; cases ho'; rw [ho] at hc; cases hc)).trans hk⟩
theorem wp_over {P : Program} {g : Operand} {ps : Array Tmp} {assign body : Code} {Q : Exit → Act → World → Prop} {a : Act} {w : World} {gf : Nat} {lb : Array Value} {w0 : World} {N : Nat} {Enc : Nat → World → Array Value → Prop}
 (hg : a.eval g = .func (.func gf) #[] lb) (eg : ∀ args w, (callFunc gf args).run P w = .ok (.enter gf args) w) (hit : IterOf P gf lb w0 N Enc)
 (hsz : ∀ k W args, Enc k W args → args.size = ps.size) (hEnc : ∀ k args, Stab w.heap.size (fun W => Enc k W args))
 (I : Nat → World → Prop) (Ix : Code → World → Prop) (hI : ∀ k, Stab w.heap.size (I k)) (hIx : ∀ c, Stab w.heap.size (Ix c))
 (hb : ∀ k W, I k W → Below w0.heap.size w0 W) (h0 : I 0 w)
 (hround : ∀ k args W L, k < N → w.heap.size < L → I k W → Enc k W args →
  assign.wpIn (Fence.wide.inRound L) 0 P (Exit.then (fun a₁ W₁ => KeepsFrom w.heap.size W W₁ ∧ I k W₁ ∧ Enc k W₁ args ∧ ∀ W₂, I k W₂ → Enc k W₂ args → body.wpIn (Fence.wide.inRound L) 0 P (overQ w.heap.size I Ix k W₂) a₁ W₂) (fun _ _ _ => False))
   { tmps := (ps.zip args).foldl (fun tmps (t, a) => tmps.setIfInBounds t a) a.tmps, defers := [] } W)
 (hdone : ∀ D W, w.heap.size ≤ D → I N W → W.heap[D]? = some (.deferred (some [])) → Q .normal { a with defers := { target := .collected D, args := #[] } :: a.defers } W)
 (hstop : ∀ D c W, w.heap.size ≤ D → Ix c W → W.heap[D]? = some (.deferred (some [])) → c.wp P Q { a with defers := { target := .collected D, args := #[] } :: a.defers } W) :
 (Code.rangeFunc g ps assign body).wp P Q a w := by
 refine (wpIn_wide (n := 0)).1 ?_
 refine wp_range hg eg w.heap.size (w.heap.size + 1) rfl rfl _ rfl ?_
 intro fn W hW
 have hr0 : ∀ st pe, ({ recOf fn a ps assign body w.heap.size .ready none with state := st, pending := pe } : Loop) = recOf fn a ps assign body w.heap.size st pe := fun _ _ => rfl
 generalize hr : recOf fn a ps assign body w.heap.size .ready none = r at hW
 have hrd : r.state = .ready ∧ r.pending = none := by subst hr; exact ⟨rfl, rfl⟩
 have hL0 : W.heap[w.heap.size + 1]? = some (.loop r) := by
  subst hW
  have := World.alloc_heap_new (w.alloc (.deferred (some []))) (.loop r)
  rwa [World.size_alloc] at this
 have hD0 : W.heap[w.heap.size]? = some (.deferred (some [])) := by
  subst hW
  rw [Below.heap_alloc _ _ _ (by simp)]
  exact World.alloc_heap_new w _
 have hI0 : I 0 W := by
  subst hW
  exact (hI 0).ext ((hI 0).ext h0 (Ext.alloc _ _)) (Ext.alloc _ _)
 have hx := hit (w.heap.size + 1) W (fun k W => W.heap[w.heap.size + 1]? = some (.loop r) ∧ W.heap[w.heap.size]? = some (.deferred (some [])) ∧ I k W)
  (fun W => ∃ c, W.heap[w.heap.size + 1]? = some (.loop { r with state := .done, pending := some c }) ∧ W.heap[w.heap.size]? = some (.deferred (some [])) ∧ Ix c W)
  (fun k W h => hb k W h.2.2)
  (fun k W W' ⟨h1, h2, h3⟩ hx => ⟨(hx.block _ (Array.getElem?_eq_some_iff.1 h1).1).trans h1, (hx.block _ (Array.getElem?_eq_some_iff.1 h2).1).trans h2, (hI k).ext h3 hx⟩)
  (fun W W' ⟨c, h1, h2, h3⟩ hx => ⟨c, (hx.block _ (Array.getElem?_eq_some_iff.1 h1).1).trans h1, (hx.block _ (Array.getElem?_eq_some_iff.1 h2).1).trans h2, (hIx c).ext h3 hx⟩)
  ?_ ⟨hL0, hD0, hI0⟩
 ·refine CallsIn.mono (n := 0) hx ?_
  rintro e W' ⟨⟨v, rfl⟩, h | h⟩
  ·obtain ⟨h1, h2, h3⟩ := h
   refine ⟨v, rfl, r, h1, by rw [hrd.1]; decide, fun r' => ?_⟩
   rw [hrd.2]
   exact hdone _ _ (Nat.le_refl _) ((hI N).put h3 h1 rfl (by omega) _) ((World.putObj_heap_other (by omega)).trans h2)
  ·obtain ⟨c, h1, h2, h3⟩ := h
   refine ⟨v, rfl, _, h1, by simp, fun r' => ?_⟩
   simp only []
   exact wpIn_wide.2 (hstop _ c _ (Nat.le_refl _) ((hIx c).put h3 h1 rfl (by omega) _) ((World.putObj_heap_other (by omega)).trans h2))
 ·rintro k args W1 hk ⟨h1, h2, h3⟩ he
  refine yield_rec hr h1 (hsz k W1 args he) ?_
  refine wpIn_mono (hround k args W1 (w.heap.size + 1) hk (by omega) h3 he) ?_
  rintro ex a₁ W₁ hq
  cases ex with
  | normal =>
   obtain ⟨q1, q2, q2', q3⟩ := hq
   have h1' := q1.same _ _ (by omega) h1 rfl
   have h2' := q1.same _ _ (by omega) h2 rfl
   refine ⟨h1', ?_⟩
   refine wpIn_mono (q3 (W₁.putObj (w.heap.size + 1) (.loop { r with state := .busy })) ((hI k).put q2 h1' rfl (by omega) _) ((hEnc k args).put q2' h1' rfl (by omega) _)) ?_
   rintro ex a₂ W₂ ⟨hK, hq⟩
   have h1'' := hK.same _ _ (by omega) (World.putObj_heap_same (Array.getElem?_eq_some_iff.1 h1').1) rfl
   have h2'' := hK.same _ _ (by omega) ((World.putObj_heap_other (by omega)).trans h2') rfl
   have hlt := (Array.getElem?_eq_some_iff.1 h1'').1
   refine ⟨h1'', ?_⟩
   cases ex with
   | normal =>
    refine .inl ⟨rfl, World.putObj_heap_same hlt |>.trans (by rw [rec_ready hr]), (World.putObj_heap_other (by omega)).trans h2'', (hI (k + 1)).put hq h1'' rfl (by omega) _⟩
   | ret => exact .inr ⟨rfl, .ret, World.putObj_heap_same hlt, (World.putObj_heap_other (by omega)).trans h2'', (hIx _).put hq h1'' rfl (by omega) _⟩
   | exit id => exact .inr ⟨rfl, .exit id, World.putObj_heap_same hlt, (World.putObj_heap_other (by omega)).trans h2'', (hIx _).put hq h1'' rfl (by omega) _⟩
   | goto t => exact .inr ⟨rfl, .goto t, World.putObj_heap_same hlt, (World.putObj_heap_other (by omega)).trans h2'', (hIx _).put hq h1'' rfl (by omega) _⟩
   | panic c => exact hq
   | outgrown => exact hq
  | _ => exact hq
theorem leave_marked {P : Program} {fn : Func} {tmps : Array Value} {D : Nat} {W : World} {R : Ending → World → Prop} {v : Value} (hD : W.heap[D]? = some (.deferred (some [])))
 (hr : ∀ w', (results fn tmps).run P w' = .ok v w') (h : R (.returned v) (W.putObj D (.deferred none))) : bodyPostM Fence.wide 0 P fn R .ret { tmps, defers := [{ target := .collected D, args := #[] }] } W :=
 ⟨by simp, .inl ⟨_, _, rfl, run_takeDeferred hD, ⟨_, hr _, h⟩⟩⟩
theorem below_mark {B : Nat} {w W : World} {D : Nat} (h : Below B w W) (hD : B ≤ D) : Below B w (W.putObj D (.deferred none)) := below_put h hD _
theorem own_mark {W : World} {D : Nat} {base size n : Nat} {e : TypeId} {v : Value} {xs : List Value} (h : W.ownsRow base e size v n xs) (hD : W.heap[D]? = some (.deferred (some []))) : (W.putObj D (.deferred none)).ownsRow base e size v n xs :=
 (Stab.own 0 base n size e v xs).put h hD rfl (Nat.zero_le _) _
/-! A region that draws its order, within a round: what only reads. -/
def noDefer (ops : List Oper) : Bool := ops.all fun o => match o.op with | .defer _ => false | _ => true
theorem noDefer_at {ops : List Oper} (h : noDefer ops = true) {o : Oper} (ho : o ∈ ops) : ∀ c, o.op ≠ .defer c := fun c e => by
 have := List.all_eq_true.1 h o ho
 rw [e] at this; cases this
theorem oper_round {P : Program} {o : Oper} {a : Act} {w : World} {K : Act → World → Prop} {Q : Exit → Act → World → Prop} (L : Nat) (hd : ∀ c, o.op ≠ .defer c) (h : o.wp P a w K Q) : o.wpIn (Fence.wide.inRound L) 0 P a w K Q := by
 refine ⟨fun f _ => trivial, ?_⟩
 rw [Oper.semAt_plain _ _ _ hd]
 unfold Oper.wp at h
 generalize (execOp a.eval o).run P w = r at h
 cases r with
 | ok x w' =>
  cases x <;> simp only [Oper.uponIn, Oper.upon] at h ⊢ <;> first | exact h | exact h.elim | skip
  ·exact ⟨fun hd => by simp [Fence.wide, Fence.inRound] at hd, (callsIn_wide.2 h).inRound L⟩
  ·exact ⟨fun hd => by simp [Fence.wide, Fence.inRound] at hd, fun c cs _ => let ⟨v, w', r, s⟩ := h c cs; ⟨v, w', r, stepsIn_wide.2 s⟩⟩
 | halt x w' => cases x <;> simp only [Oper.uponIn, Oper.upon] at h ⊢ <;> first | exact h | exact h.elim
theorem wpAnyIn_of_quiet {P : Program} {md : Region.Mode} {ops : Array Oper} {C : World → Prop} {Q : Act → Prop} {Q' : Exit → Act → World → Prop} (L : Nat) (hnd : noDefer ops.toList = true) (hQ : ∀ a w, C w → Q a → Q' .normal a w) : ∀ (fuel : Nat) (listed : Array Bool) (a : Act) (w : World), C w →
 wpAnyQ P md ops C Q fuel listed a → wpAnyIn (Fence.wide.inRound L) 0 P md ops Q' fuel listed a w
 | 0, _, _, _, hw, h => ⟨h.1, hQ _ _ hw h.2⟩
 | fuel + 1, listed, a, w, hw, h => ⟨fun h0 => hQ _ _ hw (h.1 h0), fun i hi => by
  have h := h.2 i hi
  unfold qOp at h
  unfold wpOpIn
  cases ho : ops[i]? with
  | none => rw [ho] at h; exact wpAnyIn_of_quiet L hnd hQ fuel _ _ _ hw h
  | some o =>
   rw [ho] at h
   have hm : o ∈ ops.toList := List.mem_of_getElem? (by rw [Array.getElem?_toList]; exact ho)
   simp only [] at h ⊢
   split
   ·rename_i hwn
    rw [if_pos hwn] at h
    exact oper_round L (noDefer_at hnd hm) (Oper.wp_of_quiet hw (fun a' w' hw' hk => wpAnyIn_of_quiet L hnd hQ fuel _ a' w' hw' hk) h)
   ·rename_i hwn
    rw [if_neg hwn] at h
    exact ⟨fun f _ => trivial, wpAnyIn_of_quiet L hnd hQ fuel _ _ _ hw h⟩⟩
theorem wpIn_round_quiet {P : Program} {id : Nat} {Q : Exit → Act → World → Prop} {a : Act} {w : World} {l : List Oper} {L : Nat} (hnd : noDefer l = true) (hm : P.follows .mixedOrders = true) (hB : Region.lexB .any l.toArray = true)
 (h : wpQuiet P l.toArray (fun w' => ∃ n, w' = w.drewN n) (fun a' => ∀ w', (∃ n, w' = w.drewN n) → Q .normal a' w') l a) : (Code.region id l.toArray true).wpIn (Fence.wide.inRound L) 0 P Q a w := by
 simp only [Region.lexB, Bool.and_eq_true] at hB
 refine wpIn_region_any hm (wpAnyIn_of_quiet (C := fun w' => ∃ n, w' = w.drewN n) (Q := fun a' => ∀ w', (∃ n, w' = w.drewN n) → Q .normal a' w') L (by simpa using hnd) (fun _ w' hw' h => h w' hw') _ _ _ _ ⟨1, rfl⟩ ?_)
 have := wpAnyQ_lex (C := fun w' => ∃ n, w' = w.drewN n) (md := .any) hB.1 l 0 (Array.replicate l.toArray.size false) a (by simp) (by simpa using hB.2) h
 simpa using this
/-! A region that draws its order, whose callees leave all as it was (they may make memory). -/
theorem ext_regrown {w w' : World} (h : ∃ p : Regrown, w' = grow (redrawn w p.d) p.os) : Ext w w' := by obtain ⟨p, rfl⟩ := h; exact below_regrown w p.d p.os
theorem calls_quiet {P : Program} {f : FuncId} {args : Array Value} {w : World} {v : Value} (h : ∀ w', Ext w w' → Calls P f args w' fun e w'' => e = .returned v ∧ Ext w' w'') :
 ∀ d os, Calls P f args (grow (redrawn w d) os) fun e w'' => e = .returned v ∧ ∃ p : Regrown, w'' = grow (redrawn w p.d) p.os := fun d os => Calls.regrown_of (h _ (below_regrown w d os))
end Go.Proofs.YtkmbnghghbfkdaaGreat

/- A region that draws its order: operations that leave all as it was (their callees may make memory), ahead of a forced tail that writes. No program in sight. -/
namespace Go.Proofs.YtkmbnghghbfkdaaGreat
open Go.RowKit Go.Sort
section
variable {P : Program} {md : Region.Mode} {ops : Array Oper} {C : World → Prop}
def headQ (P : Program) (md : Region.Mode) (ops : Array Oper) (C : World → Prop) (n : Nat) (L : Array Bool → Act → Prop) : Nat → Array Bool → Act → Prop
 | 0, listed, a => L listed a
 | f + 1, listed, a => Region.ready md ops listed ≠ [] ∧ ∀ i ∈ Region.ready md ops listed, i < n ∧ qOp P ops C i (headQ P md ops C n L f (listed.setIfInBounds i true)) a
theorem wpAny_of_headQ {n g : Nat} {L : Array Bool → Act → Prop} {Q' : Exit → Act → World → Prop} (hL : ∀ listed a w, C w → L listed a → wpAny P md ops Q' g listed a w) :
 ∀ (f : Nat) (listed : Array Bool) (a : Act) (w : World), C w → headQ P md ops C n L f listed a → wpAny P md ops Q' (f + g) listed a w
 | 0, listed, a, w, hw, h => by rw [Nat.zero_add]; exact hL _ _ _ hw h
 | f + 1, listed, a, w, hw, h => by
  rw [show f + 1 + g = (f + g) + 1 by omega]
  exact ⟨fun h0 => absurd h0 h.1, fun i hi => wpOp_of_qOp hw (fun a' w' hw' h' => wpAny_of_headQ hL f _ a' w' hw' h') (h.2 i hi).2⟩
theorem headQ_first {n i : Nat} {oi : Oper} {v : Value} {L : Array Bool → Act → Prop} (hi : ops[i]? = some oi) (hsel : ∀ (j : Nat) (o : Oper) cs b, ops[j]? = some o → o.op ≠ .select cs b)
 (hs : Region.sinkB md ops n = true) (hc : Region.chainB md ops n = true) (hn : n < ops.size) (hin : i < n) (hdone : ∀ listed a, L listed a → ∀ j ∈ Region.ready md ops listed, n ≤ j) :
 ∀ (f : Nat) (listed : Array Bool) (a : Act), HeadInv md ops n listed →
  (∀ j oj, ops[j]? = some oj → j ≠ i → listed.getD j true = false → (∀ e ∈ oj.after, Region.binds md e = true → e.on ≠ i) → oi.apart ops oj = true) →
  i ∈ Region.ready md ops listed → YieldsIn P ops C oi v a → headQ P md ops C n L f (listed.setIfInBounds i true) (a.put oi.dst v) → headQ P md ops C n L (f + 1) listed a := by
 intro f
 induction f with
 | zero =>
  intro listed a inv _ hr hy H
  have hun := (mem_ready.1 hr).1
  refine ⟨fun h => (by rw [h] at hr; cases hr), fun j hj => ?_⟩
  have hjn : j < n := by
   refine Classical.byContradiction fun h => ?_
   exact tail_waits hs hc hn inv _ i rfl hin hun j (by omega) hj
  refine ⟨hjn, ?_⟩
  by_cases hji : j = i
  ·subst hji; exact hy.qOp hi H
  ·have := hdone _ _ H j (ready_mono hj hji)
   omega
 | succ f ih =>
  intro listed a inv hfree hr hy H
  have hun := (mem_ready.1 hr).1
  refine ⟨fun h => (by rw [h] at hr; cases hr), fun j hj => ?_⟩
  have hjn : j < n := by
   refine Classical.byContradiction fun h => ?_
   exact tail_waits hs hc hn inv _ i rfl hin hun j (by omega) hj
  refine ⟨hjn, ?_⟩
  by_cases hji : j = i
  ·subst hji; exact hy.qOp hi H
  ·obtain ⟨hjun, oj, hoj, hall⟩ := mem_ready.1 hj
   have hnot : ∀ e ∈ oj.after, Region.binds md e = true → e.on ≠ i := fun e he hb heq => by
    have h1 := hall e he hb
    rw [heq, getD_both hun] at h1
    cases h1
   have h2 := qOp_put hoj (hfree j oj hoj hji hjun hnot) (fun cs b => hsel i oi cs b hi) (fun cs b => hsel j oj cs b hoj) hy (H.2 j (ready_mono hj hji)).2
   refine qOp_mono (fun a' h3 => ih (listed.setIfInBounds j true) a' (inv.set hj hjn) (fun k ok hk hki hunk hno => ?_) (ready_mono hr (Ne.symm hji)) h3.1 ?_) h2
   ·refine hfree k ok hk hki ?_ hno
    by_cases hjk : j = k
    ·subst hjk; exact hjun
    ·rwa [getD_set_ne true hjk] at hunk
   ·rw [Array.setIfInBounds_comm _ _ hji]
    exact h3.2
theorem headQ_lex {n g : Nat} {Lq : Act → Prop} (hsel : Region.noSelect ops = true) (hs : Region.sinkB md ops n = true) (hc : Region.chainB md ops n = true) (hn : n < ops.size) :
 ∀ (l : List Oper) (k : Nat) (listed : Array Bool) (a : Act), (∀ j, j < l.length → l[j]? = ops[k + j]?) → k + l.length = n → HeadInv md ops n listed →
 Region.lexHead md ops g l.length k listed = true → wpQuiet P ops C Lq l a →
 headQ P md ops C n (fun listed' a' => Region.seqB md ops g n listed' = true ∧ Lq a') l.length listed a
 | [], k, listed, a, _, hk, _, hB, h => by
  obtain rfl : k = n := by simpa using hk
  exact ⟨by simpa [Region.lexHead] using hB, h⟩
 | o :: l, k, listed, a, hl, hk, inv, hB, h => by
  have h0 : ops[k]? = some o := by simpa using (hl 0 (by simp)).symm
  simp only [List.length_cons, Region.lexHead, Bool.and_eq_true] at hB
  obtain ⟨⟨hr, hf⟩, hB'⟩ := hB
  have hkn : k < n := by simp only [List.length_cons] at hk; omega
  have hr' : k ∈ Region.ready md ops listed := by simpa using hr
  obtain ⟨v, hy, hK⟩ := yieldsIn_of_qOp (C := C) (K := wpQuiet P ops C Lq l) (a := a) h0 (by unfold qOp; simp only [h0]; exact h)
  exact headQ_first h0 (Region.noSelect_spec hsel) hs hc hn hkn (fun listed' a' hL => seqB_ready hL.1) l.length listed a inv (Region.free_spec h0 hf) hr' hy
   (headQ_lex hsel hs hc hn l (k + 1) _ _ (fun j hj => by have := hl (j + 1) (by simp; omega); simpa [Nat.add_assoc, Nat.add_comm 1 j] using this) (by simp only [List.length_cons] at hk; omega) (inv.set hr' hkn) hB' hK)
theorem wp_region_tail {id : Nat} {Q : Exit → Act → World → Prop} {a : Act} {w : World} {l : List Oper} (n : Nat) (hm : P.follows .mixedOrders = true) (hB : Region.lexTailB .any l.toArray n = true) (hC : C { w with drawn := w.drawn + 1 })
 (h : wpQuiet P l.toArray C (fun a' => ∀ w', C w' → wpList P l.toArray Q (l.drop n) a' w') (l.take n) a) : (Code.region id l.toArray true).wp P Q a w := by
 simp only [Region.lexTailB, Bool.and_eq_true, decide_eq_true_eq] at hB
 obtain ⟨⟨⟨⟨hsel, hn⟩, hs⟩, hc⟩, hlex⟩ := hB
 have hn' : n < l.length := by simpa using hn
 have htl : (l.take n).length = n := by simp; omega
 have hdl : (l.drop n).length = l.toArray.size - n := by simp
 have inv0 : HeadInv .any l.toArray n (Array.replicate l.toArray.size false) :=
  ⟨by simp, fun j oj _ hl => (by rw [getD_replicate_false] at hl; cases hl), fun t _ ht => getD_in (by simpa using ht) (getD_replicate_false _ _)⟩
 have H := headQ_lex (md := .any) (C := C) (g := l.toArray.size - n) (Lq := fun a' => ∀ w', C w' → wpList P l.toArray Q (l.drop n) a' w') hsel hs hc hn (l.take n) 0 _ a (fun j hj => by
  rw [htl] at hj
  rw [List.getElem?_take, if_pos hj]; simp) (by rw [htl]; simp) inv0 (by rw [htl]; exact hlex) h
 have h2 := wpAny_of_headQ (Q' := Q) (fun listed a' w' hw' (hL : Region.seqB .any l.toArray (l.toArray.size - n) n listed = true ∧ ∀ w', C w' → wpList P l.toArray Q (l.drop n) a' w') => by
  have := wpAny_of_seq (md := .any) (ops := l.toArray) (Q' := Q) (l.drop n) n listed a' w' (fun j => by simp) (by rw [hdl]; exact hL.1) (hL.2 w' hw')
  rwa [hdl] at this) (l.take n).length _ a _ hC H
 refine wp_region_any hm ?_
 rw [htl, show n + (l.toArray.size - n) = l.toArray.size from by omega] at h2
 exact h2
theorem wp_region_tail_ext {id : Nat} {Q : Exit → Act → World → Prop} {a : Act} {w : World} {l : List Oper} (n : Nat) (hm : P.follows .mixedOrders = true) (hB : Region.lexTailB .any l.toArray n = true)
 (h : wpQuiet P l.toArray (fun w' => ∃ p : Regrown, w' = grow (redrawn w p.d) p.os) (fun a' => ∀ w', (∃ p : Regrown, w' = grow (redrawn w p.d) p.os) → wpList P l.toArray Q (l.drop n) a' w') (l.take n) a) : (Code.region id l.toArray true).wp P Q a w :=
 wp_region_tail (C := fun w' => ∃ p : Regrown, w' = grow (redrawn w p.d) p.os) n hm hB ⟨⟨w.drawn + 1, #[]⟩, by rw [grow_empty]; rfl⟩ h
/-! The same within a round. -/
end
end Go.Proofs.YtkmbnghghbfkdaaGreat

/- From the form's reading of an argument to my own views. -/
namespace Go.Proofs.YtkmbnghghbfkdaaGreat
open Go.ChangeShapes Go.WideShapes Go.ChangeAt Go.RowKit
theorem bd_i64 {a : Int} (h : (Lit.int .i64 a).wf = true) : -9223372036854775808 ≤ a ∧ a ≤ 9223372036854775807 := bounds_i64 h
theorem open_Ints {H : Type} {enc : TypeId × Value → H} {P : Program} {w : World} {base : Nat} {spare : Nat → Bool} {held : Bool} {t e : TypeId} {k : IntKind} {a : Option Addr} {len cap : Nat} {d : DataW H} {p : List MemPlace}
 (ht : P.underlying t = some (.slice e)) (he : P.underlying e = some (.int k)) (hC : P.cellsOf e = 1) (h : DataW.Trod enc P w base spare held t (.slice a len cap) d p) :
 ∃ zs, Ints w k (.slice a len cap) zs ∧ ∀ n ∈ zs, (Lit.int k n).wf = true := by
 obtain ⟨fuel, hf⟩ := h
 rcases open_ints ht he hC hf with ⟨hcs, _⟩ | ⟨x, l, c, zs, hcs, _, hl, hm, hz, _, hcell, hwz⟩
 ·simp [Value.cells] at hcs
  obtain ⟨rfl, rfl, rfl⟩ := hcs
  exact ⟨[], Sl.nil w, by simp⟩
 ·simp [Value.cells] at hcs
  obtain ⟨rfl, rfl, rfl⟩ := hcs
  have hlen : (zs.take len).length = len := by rw [List.length_take]; split at hz <;> omega
  refine ⟨zs.take len, ⟨_, _, by rw [hlen], by omega, hm, fun hp => ?_⟩, fun n hn => hwz n (List.mem_of_mem_take hn)⟩
  obtain ⟨b, o, spot⟩ := x
  have h0 : 0 < zs.length := by simp at hp; omega
  have hs : spot = none := by
   have := hcell 0 h0
   simpa [Addr.add] using World.cell?_spot this
  subst hs
  refine ⟨b, o, rfl, fun i u hu => ?_⟩
  rw [List.getElem?_map, List.getElem?_take] at hu
  by_cases hi : i < len
  ·rw [if_pos hi] at hu
   have hiz : i < zs.length := by split at hz <;> omega
   rw [List.getElem?_eq_getElem hiz] at hu
   simp at hu
   have := hcell i hiz
   rw [addr_add] at this
   rw [this, ← hu]
   simp [List.getD, hiz]
  ·rw [if_neg hi] at hu; simp at hu
end Go.Proofs.YtkmbnghghbfkdaaGreat

/- Arguments that are slices of one-cell elements: texts, rows. -/
namespace Go.Proofs.YtkmbnghghbfkdaaGreat
open Go.ChangeShapes Go.WideShapes Go.ChangeAt Go.RowKit Go.Deep
theorem choose_pairs {α : Type} (n : Nat) (V : Nat → Value) (Q : Value → α → Prop) (h : ∀ i, i < n → ∃ x, Q (V i) x) : ∃ xs : List (Value × α), xs.length = n ∧ (∀ x ∈ xs, Q x.1 x.2) ∧ ∀ i, i < n → (xs.map Prod.fst)[i]? = some (V i) := by
 induction n with
 | zero => exact ⟨[], rfl, fun x hx => by simp at hx, fun i hi => by omega⟩
 | succ n ih =>
  obtain ⟨xs, h1, h2, h3⟩ := ih (fun i hi => h i (by omega))
  obtain ⟨x, hx⟩ := h n (by omega)
  refine ⟨xs ++ [(V n, x)], by simp [h1], ?_, ?_⟩
  ·intro y hy
   rcases List.mem_append.1 hy with hy | hy
   ·exact h2 y hy
   ·simp at hy; subst hy; exact hx
  ·intro i hi
   rw [List.map_append]
   by_cases hin : i < n
   ·rw [List.getElem?_append_left (by simp [h1]; omega)]; exact h3 i hin
   ·obtain rfl : i = n := by omega
    rw [List.getElem?_append_right (by simp [h1])]; simp [h1]
theorem open_Sl1 {α H : Type} {enc : TypeId × Value → H} {P : Program} {w : World} {base : Nat} {spare : Nat → Bool} {held : Bool} {t e : TypeId} {a : Option Addr} {len cap : Nat} {d : DataW H} {p : List MemPlace}
 (ht : P.underlying t = some (.slice e)) (hC : P.cellsOf e = 1) (h : DataW.Trod enc P w base spare held t (.slice a len cap) d p) (Q : Value → α → Prop)
 (hQ : ∀ v y n, DataW.trod enc P w base spare held n e [v] = some y → ∃ x, Q v x) :
 ∃ xs : List (Value × α), Sl w (.slice a len cap) xs.length (xs.map Prod.fst) ∧ ∀ x ∈ xs, Q x.1 x.2 := by
 obtain ⟨fuel, hf⟩ := h
 rcases open_slice1 ht hC hf with ⟨hcs, _⟩ | ⟨x, l, c, m, n, V, D, Pl, hcs, _, hl, hm, hz, _, hcell⟩
 ·simp [Value.cells] at hcs
  obtain ⟨rfl, rfl, rfl⟩ := hcs
  exact ⟨[], Sl.nil w, fun x hx => by simp at hx⟩
 ·simp [Value.cells] at hcs
  obtain ⟨rfl, rfl, rfl⟩ := hcs
  have hlm : len ≤ m := by split at hz <;> omega
  obtain ⟨xs, h1, h2, h3⟩ := choose_pairs len V Q (fun i hi => hQ _ _ _ (hcell i (by omega)).2)
  refine ⟨xs, ⟨_, _, by rw [h1], by omega, hm, fun hp => ?_⟩, h2⟩
  obtain ⟨b, o, spot⟩ := x
  have h0 : 0 < m := by simp at hp; omega
  have hs : spot = none := by
   have := (hcell 0 h0).1
   simpa [Addr.add] using World.cell?_spot this
  subst hs
  refine ⟨b, o, rfl, fun i u hu => ?_⟩
  have hi : i < len := by
   have := (List.getElem?_eq_some_iff.1 hu).1
   rwa [List.length_map, h1] at this
  rw [h3 i hi] at hu
  cases hu
  have := (hcell i (by omega)).1
  rwa [addr_add] at this
def Strs (w : World) (v : Value) (ss : List ByteArray) : Prop := Sl w v ss.length (ss.map Value.string)
theorem pairs_eq {α : Type} (f : α → Value) (xs : List (Value × α)) (h : ∀ x ∈ xs, x.1 = f x.2) : xs.map Prod.fst = (xs.map Prod.snd).map f := by
 rw [List.map_map]
 exact List.map_congr_left fun x hx => h x hx
theorem open_Strs {H : Type} {enc : TypeId × Value → H} {P : Program} {w : World} {base : Nat} {spare : Nat → Bool} {held : Bool} {t e : TypeId} {a : Option Addr} {len cap : Nat} {d : DataW H} {p : List MemPlace}
 (ht : P.underlying t = some (.slice e)) (he : P.underlying e = some .string) (hC : P.cellsOf e = 1) (h : DataW.Trod enc P w base spare held t (.slice a len cap) d p) :
 ∃ ss, Strs w (.slice a len cap) ss ∧ ∀ s ∈ ss, s.size ≤ 9223372036854775807 := by
 obtain ⟨xs, h1, h2⟩ := open_Sl1 ht hC h (fun v (s : ByteArray) => v = .string s ∧ s.size ≤ 9223372036854775807) (fun v y n hy => by
  obtain ⟨s, e1, rfl, hs⟩ := DataW.trod_string he hy
  simp at e1
  unfold maxLen at hs
  exact ⟨s, e1, hs⟩)
 refine ⟨xs.map Prod.snd, ?_, ?_⟩
 ·unfold Strs
  rw [List.length_map, ← pairs_eq Value.string xs (fun x hx => (h2 x hx).1)]
  exact h1
 ·intro s hs
  obtain ⟨x, hx, rfl⟩ := List.mem_map.1 hs
  exact (h2 x hx).2
def RowsV (w : World) (k : IntKind) (v : Value) (xs : List (Value × List Int)) : Prop := Sl w v xs.length (xs.map Prod.fst) ∧ ∀ x ∈ xs, Ints w k x.1 x.2
theorem Sl.at_ {w : World} {a : Option Addr} {n c : Nat} {xs : List Value} (h : Sl w (.slice a n c) n xs) {k : Nat} (hk : k < xs.length) : ∃ b o, a = some ⟨b, o, none⟩ ∧ w.cell? ⟨b, o + k, none⟩ = some xs[k] := by
 obtain ⟨a', c', e, _, _, hc⟩ := h
 simp only [Value.slice.injEq] at e
 obtain ⟨rfl, _, rfl⟩ := e
 obtain ⟨b, o, rfl, hcell⟩ := hc (by omega)
 exact ⟨b, o, rfl, hcell k _ (List.getElem?_eq_getElem hk)⟩
theorem Sl.shape {w : World} {v : Value} {n : Nat} {xs : List Value} (h : Sl w v n xs) : ∃ a c, v = .slice a n c ∧ n ≤ c ∧ c ≤ 9223372036854775807 := by
 obtain ⟨a, c, h0, h1, h2, _⟩ := h
 unfold maxLen at h2
 exact ⟨a, c, h0, h1, h2⟩
theorem Strs.ext {w w' : World} {v : Value} {ss : List ByteArray} (h : Strs w v ss) (hx : Ext w w') : Strs w' v ss := Sl.ext h hx
theorem Strs.at_ {w : World} {a : Option Addr} {n c : Nat} {ss : List ByteArray} (h : Strs w (.slice a n c) ss) {k : Nat} (hk : k < ss.length) : ∃ b o, a = some ⟨b, o, none⟩ ∧ w.cell? ⟨b, o + k, none⟩ = some (.string ss[k]) := by
 obtain ⟨a', c', e, h1⟩ := id h
 simp only [Value.slice.injEq] at e
 obtain ⟨_, rfl, _⟩ := e
 obtain ⟨b, o, rfl, hc⟩ := Sl.at_ h (by simpa using hk : k < (ss.map Value.string).length)
 exact ⟨b, o, rfl, by simpa using hc⟩
theorem RowsV.ext {w w' : World} {k : IntKind} {v : Value} {xs : List (Value × List Int)} (h : RowsV w k v xs) (hx : Ext w w') : RowsV w' k v xs := ⟨Sl.ext h.1 hx, fun x hm => (h.2 x hm).ext hx⟩
theorem RowsV.at_ {w : World} {kd : IntKind} {a : Option Addr} {n c : Nat} {xs : List (Value × List Int)} (h : RowsV w kd (.slice a n c) xs) {k : Nat} (hk : k < xs.length) : (∃ b o, a = some ⟨b, o, none⟩ ∧ w.cell? ⟨b, o + k, none⟩ = some xs[k].1) ∧ Ints w kd xs[k].1 xs[k].2 := by
 obtain ⟨a', c', e, h1⟩ := id h.1
 simp only [Value.slice.injEq] at e
 obtain ⟨_, rfl, _⟩ := e
 obtain ⟨b, o, rfl, hc⟩ := Sl.at_ h.1 (by simpa using hk : k < (xs.map Prod.fst).length)
 exact ⟨⟨b, o, rfl, by simpa using hc⟩, h.2 _ (List.getElem_mem hk)⟩
theorem str_beq (x y : ByteArray) : (x.toList == y.toList) = decide (x = y) := by
 rw [Bool.eq_iff_iff, beq_iff_eq, ByteArray.toList_eq, ByteArray.toList_eq, decide_eq_true_iff]
 exact ⟨fun h => ByteArray.ext (Array.toList_inj.mp h), fun h => by rw [h]⟩
theorem str_yes {x y : ByteArray} (h : x = y) : (x.toList == y.toList) = true := by rw [str_beq]; exact decide_eq_true h
theorem str_no {x y : ByteArray} (h : x ≠ y) : (x.toList == y.toList) = false := by rw [str_beq]; exact decide_eq_false h
theorem Ints.atD {w : World} {kd : IntKind} {a : Option Addr} {n c : Nat} {l : List Int} (h : Ints w kd (.slice a n c) l) {k : Nat} (hk : k < l.length) : ∃ b o, a = some ⟨b, o, none⟩ ∧ w.cell? ⟨b, o + k, none⟩ = some (.int kd (l.getD k 0)) := by
 obtain ⟨a', c', e, h1⟩ := id h
 simp only [Value.slice.injEq] at e
 obtain ⟨_, rfl, _⟩ := e
 obtain ⟨b, o, rfl, hc⟩ := Sl.at_ h (by simpa using hk : k < (l.map (Value.int kd)).length)
 exact ⟨b, o, rfl, by simpa [List.getD, hk] using hc⟩
theorem Strs.atD {w : World} {a : Option Addr} {n c : Nat} {l : List ByteArray} (h : Strs w (.slice a n c) l) {k : Nat} (hk : k < l.length) : ∃ b o, a = some ⟨b, o, none⟩ ∧ w.cell? ⟨b, o + k, none⟩ = some (.string (l.getD k ⟨#[]⟩)) := by
 obtain ⟨b, o, rfl, hc⟩ := h.at_ hk
 exact ⟨b, o, rfl, by simpa [List.getD, hk] using hc⟩
theorem Ints.len {w : World} {kd : IntKind} {a : Option Addr} {n c : Nat} {l : List Int} (h : Ints w kd (.slice a n c) l) : l.length = n := by obtain ⟨_, _, e, _⟩ := h; cases e; rfl
theorem Strs.len {w : World} {a : Option Addr} {n c : Nat} {l : List ByteArray} (h : Strs w (.slice a n c) l) : l.length = n := by obtain ⟨_, _, e, _⟩ := h; cases e; rfl
end Go.Proofs.YtkmbnghghbfkdaaGreat
