/- A range over a function: an iterator's contract, and what the caller owes. No program in sight. -/
import Derived.Test.YtogoejlbdbapoaaIter
import Derived.OrdersIn
import Derived.Lib.QuietBelow
namespace Go.Proofs.Ytogoejlbdbapoaa
set_option maxRecDepth 100000
set_option maxHeartbeats 2000000
set_option linter.unusedSimpArgs false
open Go.RowKit Go.Sort
set_option linter.unusedVariables false

theorem calls_of_wp_marks {P : Program} {f : FuncId} {fn : Func} {c : Code} {args : Array Value} {w : World} {R : Ending → World → Prop} (hf : P.funcs[f]? = some fn) (hb : fn.body = some c)
    (h : c.wp P (bodyPostM Fence.wide 0 P fn R) { tmps := args ++ Array.replicate (fn.ntmps - args.size) undef, defers := [] } w) : Calls P f args w R :=
  callsIn_wide.1 (callsIn_of_wp_marks hf hb trivial (wpIn_wide.2 h))

/-- An iterator's contract: it calls yield with N rows of arguments, one behind the other; it stops where yield says so. -/
def IterOf (P : Program) (gf : Nat) (lb : Array Value) (w0 : World) (N : Nat) (Enc : Nat → World → Array Value → Prop) : Prop :=
  ∀ (L : Nat) (W : World) (J : Nat → World → Prop) (Js : World → Prop),
    (∀ k W, J k W → Below w0.heap.size w0 W) → (∀ k W W', J k W → Ext W W' → J k W') → (∀ W W', Js W → Ext W W' → Js W') →
    (∀ k args W, k < N → J k W → Enc k W args → YieldAt Fence.wide 0 P L args W fun e W' => (e = .returned (.bool true) ∧ J (k + 1) W') ∨ (e = .returned (.bool false) ∧ Js W')) →
    J 0 W →
    CallsIn Fence.wide 0 P gf (#[.func (.yield L) #[] #[]] ++ lb) W fun e W' => (∃ v, e = .returned v) ∧ (J N W' ∨ Js W')

/-- What abides the turn of a block of no cells from B on. -/
def Stab (B : Nat) (I : World → Prop) : Prop := ∀ W W' row, I W → W.grownBy W' row → (∀ r, row = some r → B ≤ r ∧ ∃ o : Obj, W.heap[r]? = some o ∧ o.isCells = false) → I W'
theorem grown_ext {W W' : World} (h : Ext W W') : W.grownBy W' none := ⟨h.os, h.tape, h.output, h.size, fun i hi _ => h.block i hi⟩
theorem ext_cell {w w' : World} {b o : Nat} {v : Value} (hx : Ext w w') (h : w.cell? ⟨b, o, none⟩ = some v) : w'.cell? ⟨b, o, none⟩ = some v := (Below.cell (p := ⟨b, o, none⟩) hx (cell_lt h)).trans h
theorem below_step {w W W' : World} (h : Below w.heap.size w W) (hx : Ext W W') : Below w.heap.size w W' := Below.ext h hx h.size
theorem below_set2 {w W : World} {b : Nat} (h : Below w.heap.size w W) (hb : w.heap.size ≤ b) (u v : Value) : Below w.heap.size w ((W.setCell ⟨b, 0, none⟩ u).setCell ⟨b, 1, none⟩ v) := (h.setCell (p := ⟨b, 0, none⟩) hb u).setCell (p := ⟨b, 1, none⟩) hb v
theorem Stab.ext {B : Nat} {I : World → Prop} (h : Stab B I) {W W' : World} (hi : I W) (hx : Ext W W') : I W' := h W W' none hi (grown_ext hx) (fun r e => by cases e)
theorem Stab.put {B : Nat} {I : World → Prop} (h : Stab B I) {W : World} (hi : I W) {l : Nat} {o : Obj} (hl : W.heap[l]? = some o) (ho : o.isCells = false) (hB : B ≤ l) (o' : Obj) : I (W.putObj l o') :=
  h W _ (some l) hi (grownBy_putObj' W l o') (fun r e => by cases e; exact ⟨hB, o, hl, ho⟩)
theorem Stab.and {B : Nat} {I I' : World → Prop} (h : Stab B I) (h' : Stab B I') : Stab B (fun W => I W ∧ I' W) := fun W W' row hi hg hr => ⟨h W W' row hi.1 hg hr, h' W W' row hi.2 hg hr⟩
theorem Stab.pure (B : Nat) (p : Prop) : Stab B (fun _ => p) := fun _ _ _ h _ _ => h
theorem Stab.ex {α : Type} {B : Nat} {I : α → World → Prop} (h : ∀ x, Stab B (I x)) : Stab B (fun W => ∃ x, I x W) := fun W W' row ⟨x, hi⟩ hg hr => ⟨x, h x W W' row hi hg hr⟩
theorem Stab.boxed (B b : Nat) (t : TypeId) (v : Value) : Stab B (fun W => Boxed W b t v) := fun W W' row h hg hr => h.kept hg (fun e => by
  obtain ⟨_, o, ho, hc⟩ := hr b e.symm
  rw [show W.heap[b]? = _ from h] at ho
  cases ho; cases hc)
theorem Stab.below (B n : Nat) (w0 : World) (h : n ≤ B) (hB : B ≤ w0.heap.size) : Stab B (fun W => Below n w0 W) := fun W W' row hb hg hr =>
  hb.grown hg (Nat.le_trans h (Nat.le_trans hB hb.size)) (fun k e => Nat.le_trans h (hr k e).1)
theorem Stab.own (B base n size : Nat) (e : TypeId) (v : Value) (xs : List Value) : Stab B (fun W => W.ownsRow base e size v n xs) := fun W W' row h hg hr => by
  refine ⟨h.1, ?_⟩
  rcases h.2 with hn | ⟨g, cap, cur, rfl, hbg, hgg, rest⟩
  · exact .inl hn
  · refine .inr ⟨g, cap, cur, rfl, hbg, ?_, rest⟩
    refine (hg.block g (Array.getElem?_eq_some_iff.1 hgg).1 (fun e' => ?_)).trans hgg
    obtain ⟨_, o, ho, hc⟩ := hr g e'.symm
    rw [hgg] at ho
    cases ho; cases hc
theorem Stab.cell (B : Nat) (a : Addr) (v : Value) : Stab B (fun W => W.cell? a = some v) := fun W W' row h hg hr => by
  obtain ⟨o, ho, hc⟩ := cells_of_cell h
  have hb := hg.block a.block (World.block_lt_of_cell? W a h) (fun e => by
    obtain ⟨_, o', ho', hc'⟩ := hr _ e.symm
    rw [ho] at ho'; cases ho'; rw [hc] at hc'; cases hc')
  unfold World.cell? at h ⊢
  rw [hb]; exact h
theorem Stab.sl (B : Nat) (v : Value) (n : Nat) (xs : List Value) : Stab B (fun W => Sl W v n xs) := fun W W' row h hg hr => by
  obtain ⟨a, cap, rfl, h1, h2, h3⟩ := h
  refine ⟨a, cap, rfl, h1, h2, fun hp => ?_⟩
  obtain ⟨b, o, rfl, hc⟩ := h3 hp
  exact ⟨b, o, rfl, fun i u hu => Stab.cell B _ _ W W' row (hc i u hu) hg hr⟩

/-- What a round's body owes. -/
def overQ (B : Nat) (I : Nat → World → Prop) (Ix : Code → World → Prop) (k : Nat) (W : World) : Exit → Act → World → Prop := fun e _ W' =>
  KeepsFrom B W W' ∧ match e with
  | .normal => I (k + 1) W'
  | .ret => Ix .ret W'
  | .exit id => Ix (.exit id) W'
  | .goto t => Ix (.goto t) W'
  | _ => False

theorem keeps_ext (B : Nat) {W W' : World} (h : Ext W W') : KeepsFrom B W W' := ⟨h.size, fun k _ _ hk _ => (h.block k (Array.getElem?_eq_some_iff.1 hk).1).trans hk⟩
theorem keeps_set (B : Nat) {W : World} {a : Addr} {u : Value} (h : W.cell? a = some u) (v : Value) : KeepsFrom B W (W.setCell a v) := by
  obtain ⟨o, ho, hc⟩ := cells_of_cell h
  refine ⟨by simp [World.setCell], fun k o' _ hk ho' => ?_⟩
  have hne : k ≠ a.block := by rintro rfl; rw [ho] at hk; cases hk; rw [hc] at ho'; cases ho'
  rw [Below.heap_setCell _ _ _ k hne]; exact hk
theorem keeps_grown (B : Nat) {W W' : World} {row : Option Nat} (hg : W.grownBy W' row) (hr : ∀ r, row = some r → ∃ o : Obj, W.heap[r]? = some o ∧ o.isCells = true) : KeepsFrom B W W' :=
  ⟨hg.size, fun k o _ hk ho => (hg.block k (Array.getElem?_eq_some_iff.1 hk).1 (fun e => by
    obtain ⟨o', ho', hc⟩ := hr k e.symm
    rw [hk] at ho'; cases ho'; rw [ho] at hc; cases hc)).trans hk⟩

theorem wp_over {P : Program} {g : Operand} {ps : Array Tmp} {assign body : Code} {Q : Exit → Act → World → Prop} {a : Act} {w : World} {gf : Nat} {lb : Array Value} {w0 : World} {N : Nat} {Enc : Nat → World → Array Value → Prop}
    (hg : a.eval g = .func (.func gf) #[] lb) (eg : ∀ args w, (callFunc gf args).run P w = .ok (.enter gf args) w) (hit : IterOf P gf lb w0 N Enc)
    (hsz : ∀ k W args, Enc k W args → args.size = ps.size) (hEnc : ∀ k args, Stab w.heap.size (fun W => Enc k W args))
    (I : Nat → World → Prop) (Ix : Code → World → Prop) (hI : ∀ k, Stab w.heap.size (I k)) (hIx : ∀ c, Stab w.heap.size (Ix c))
    (hb : ∀ k W, I k W → Below w0.heap.size w0 W) (h0 : I 0 w)
    (hround : ∀ k args W L, k < N → w.heap.size < L → I k W → Enc k W args →
      assign.wpIn (Fence.wide.inRound L) 0 P (Exit.then (fun a₁ W₁ => KeepsFrom w.heap.size W W₁ ∧ I k W₁ ∧ Enc k W₁ args ∧ ∀ W₂, I k W₂ → Enc k W₂ args → body.wpIn (Fence.wide.inRound L) 0 P (overQ w.heap.size I Ix k W₂) a₁ W₂) (fun _ _ _ => False))
        { tmps := (ps.zip args).foldl (fun tmps (t, a) => tmps.setIfInBounds t a) a.tmps, defers := [] } W)
    (hdone : ∀ D W, w.heap.size ≤ D → I N W → W.heap[D]? = some (.deferred (some [])) → Q .normal { a with defers := { target := .collected D, args := #[] } :: a.defers } W)
    (hstop : ∀ D c W, w.heap.size ≤ D → Ix c W → W.heap[D]? = some (.deferred (some [])) → c.wp P Q { a with defers := { target := .collected D, args := #[] } :: a.defers } W) :
    (Code.rangeFunc g ps assign body).wp P Q a w := by
  refine (wpIn_wide (n := 0)).1 ?_
  refine wp_range hg eg w.heap.size (w.heap.size + 1) rfl rfl _ rfl ?_
  intro fn W hW
  have hr0 : ∀ st pe, ({ recOf fn a ps assign body w.heap.size .ready none with state := st, pending := pe } : Loop) = recOf fn a ps assign body w.heap.size st pe := fun _ _ => rfl
  generalize hr : recOf fn a ps assign body w.heap.size .ready none = r at hW
  have hrd : r.state = .ready ∧ r.pending = none := by subst hr; exact ⟨rfl, rfl⟩
  have hL0 : W.heap[w.heap.size + 1]? = some (.loop r) := by
    subst hW
    have := World.alloc_heap_new (w.alloc (.deferred (some []))) (.loop r)
    rwa [World.size_alloc] at this
  have hD0 : W.heap[w.heap.size]? = some (.deferred (some [])) := by
    subst hW
    rw [Below.heap_alloc _ _ _ (by simp)]
    exact World.alloc_heap_new w _
  have hI0 : I 0 W := by
    subst hW
    exact (hI 0).ext ((hI 0).ext h0 (Ext.alloc _ _)) (Ext.alloc _ _)
  have hx := hit (w.heap.size + 1) W (fun k W => W.heap[w.heap.size + 1]? = some (.loop r) ∧ W.heap[w.heap.size]? = some (.deferred (some [])) ∧ I k W)
    (fun W => ∃ c, W.heap[w.heap.size + 1]? = some (.loop { r with state := .done, pending := some c }) ∧ W.heap[w.heap.size]? = some (.deferred (some [])) ∧ Ix c W)
    (fun k W h => hb k W h.2.2)
    (fun k W W' ⟨h1, h2, h3⟩ hx => ⟨(hx.block _ (Array.getElem?_eq_some_iff.1 h1).1).trans h1, (hx.block _ (Array.getElem?_eq_some_iff.1 h2).1).trans h2, (hI k).ext h3 hx⟩)
    (fun W W' ⟨c, h1, h2, h3⟩ hx => ⟨c, (hx.block _ (Array.getElem?_eq_some_iff.1 h1).1).trans h1, (hx.block _ (Array.getElem?_eq_some_iff.1 h2).1).trans h2, (hIx c).ext h3 hx⟩)
    ?_ ⟨hL0, hD0, hI0⟩
  · refine CallsIn.mono (n := 0) hx ?_
    rintro e W' ⟨⟨v, rfl⟩, h | h⟩
    · obtain ⟨h1, h2, h3⟩ := h
      refine ⟨v, rfl, r, h1, by rw [hrd.1]; decide, fun r' => ?_⟩
      rw [hrd.2]
      exact hdone _ _ (Nat.le_refl _) ((hI N).put h3 h1 rfl (by omega) _) ((World.putObj_heap_other (by omega)).trans h2)
    · obtain ⟨c, h1, h2, h3⟩ := h
      refine ⟨v, rfl, _, h1, by simp, fun r' => ?_⟩
      simp only []
      exact wpIn_wide.2 (hstop _ c _ (Nat.le_refl _) ((hIx c).put h3 h1 rfl (by omega) _) ((World.putObj_heap_other (by omega)).trans h2))
  · rintro k args W1 hk ⟨h1, h2, h3⟩ he
    refine yield_rec hr h1 (hsz k W1 args he) ?_
    refine wpIn_mono (hround k args W1 (w.heap.size + 1) hk (by omega) h3 he) ?_
    rintro ex a₁ W₁ hq
    cases ex with
    | normal =>
      obtain ⟨q1, q2, q2', q3⟩ := hq
      have h1' := q1.same _ _ (by omega) h1 rfl
      have h2' := q1.same _ _ (by omega) h2 rfl
      refine ⟨h1', ?_⟩
      refine wpIn_mono (q3 (W₁.putObj (w.heap.size + 1) (.loop { r with state := .busy })) ((hI k).put q2 h1' rfl (by omega) _) ((hEnc k args).put q2' h1' rfl (by omega) _)) ?_
      rintro ex a₂ W₂ ⟨hK, hq⟩
      have h1'' := hK.same _ _ (by omega) (World.putObj_heap_same (Array.getElem?_eq_some_iff.1 h1').1) rfl
      have h2'' := hK.same _ _ (by omega) ((World.putObj_heap_other (by omega)).trans h2') rfl
      have hlt := (Array.getElem?_eq_some_iff.1 h1'').1
      refine ⟨h1'', ?_⟩
      cases ex with
      | normal =>
        refine .inl ⟨rfl, World.putObj_heap_same hlt |>.trans (by rw [rec_ready hr]), (World.putObj_heap_other (by omega)).trans h2'', (hI (k + 1)).put hq h1'' rfl (by omega) _⟩
      | ret => exact .inr ⟨rfl, .ret, World.putObj_heap_same hlt, (World.putObj_heap_other (by omega)).trans h2'', (hIx _).put hq h1'' rfl (by omega) _⟩
      | exit id => exact .inr ⟨rfl, .exit id, World.putObj_heap_same hlt, (World.putObj_heap_other (by omega)).trans h2'', (hIx _).put hq h1'' rfl (by omega) _⟩
      | goto t => exact .inr ⟨rfl, .goto t, World.putObj_heap_same hlt, (World.putObj_heap_other (by omega)).trans h2'', (hIx _).put hq h1'' rfl (by omega) _⟩
      | panic c => exact hq
      | outgrown => exact hq
    | _ => exact hq

/-- The end of a function that held one range over a function: the block of the rounds' deferred calls is turned once more. -/
theorem leave_marked {P : Program} {fn : Func} {tmps : Array Value} {D : Nat} {W : World} {R : Ending → World → Prop} {v : Value} (hD : W.heap[D]? = some (.deferred (some [])))
    (hr : ∀ w', (results fn tmps).run P w' = .ok v w') (h : R (.returned v) (W.putObj D (.deferred none))) : bodyPostM Fence.wide 0 P fn R .ret { tmps, defers := [{ target := .collected D, args := #[] }] } W :=
  ⟨by simp, .inl ⟨_, _, rfl, run_takeDeferred hD, ⟨_, hr _, h⟩⟩⟩
theorem below_mark {B : Nat} {w W : World} {D : Nat} (h : Below B w W) (hD : B ≤ D) : Below B w (W.putObj D (.deferred none)) := below_put h hD _
theorem sl_mark {W : World} {D : Nat} {v : Value} {n : Nat} {xs : List Value} (h : Sl W v n xs) (hD : W.heap[D]? = some (.deferred (some []))) : Sl (W.putObj D (.deferred none)) v n xs :=
  (Stab.sl 0 v n xs).put h hD rfl (Nat.zero_le _) _
theorem own_mark {W : World} {D : Nat} {base size n : Nat} {e : TypeId} {v : Value} {xs : List Value} (h : W.ownsRow base e size v n xs) (hD : W.heap[D]? = some (.deferred (some []))) : (W.putObj D (.deferred none)).ownsRow base e size v n xs :=
  (Stab.own 0 base n size e v xs).put h hD rfl (Nat.zero_le _) _

/-! A region that draws its order, within a round: what only reads. -/
def noDefer (ops : List Oper) : Bool := ops.all fun o => match o.op with | .defer _ => false | _ => true
theorem noDefer_at {ops : List Oper} (h : noDefer ops = true) {o : Oper} (ho : o ∈ ops) : ∀ c, o.op ≠ .defer c := fun c e => by
  have := List.all_eq_true.1 h o ho
  rw [e] at this; cases this
theorem oper_round {P : Program} {o : Oper} {a : Act} {w : World} {K : Act → World → Prop} {Q : Exit → Act → World → Prop} (L : Nat) (hd : ∀ c, o.op ≠ .defer c) (h : o.wp P a w K Q) : o.wpIn (Fence.wide.inRound L) 0 P a w K Q := by
  refine ⟨fun f _ => trivial, ?_⟩
  rw [Oper.semAt_plain _ _ _ hd]
  unfold Oper.wp at h
  generalize (execOp a.eval o).run P w = r at h
  cases r with
  | ok x w' =>
    cases x <;> simp only [Oper.uponIn, Oper.upon] at h ⊢ <;> first | exact h | exact h.elim | skip
    · exact ⟨fun hd => by simp [Fence.wide, Fence.inRound] at hd, (callsIn_wide.2 h).inRound L⟩
    · exact ⟨fun hd => by simp [Fence.wide, Fence.inRound] at hd, fun c cs _ => let ⟨v, w', r, s⟩ := h c cs; ⟨v, w', r, stepsIn_wide.2 s⟩⟩
  | halt x w' => cases x <;> simp only [Oper.uponIn, Oper.upon] at h ⊢ <;> first | exact h | exact h.elim
theorem wpAnyIn_of_quiet {P : Program} {md : Region.Mode} {ops : Array Oper} {C : World → Prop} {Q : Act → Prop} {Q' : Exit → Act → World → Prop} (L : Nat) (hnd : noDefer ops.toList = true) (hQ : ∀ a w, C w → Q a → Q' .normal a w) : ∀ (fuel : Nat) (listed : Array Bool) (a : Act) (w : World), C w →
    wpAnyQ P md ops C Q fuel listed a → wpAnyIn (Fence.wide.inRound L) 0 P md ops Q' fuel listed a w
  | 0, _, _, _, hw, h => ⟨h.1, hQ _ _ hw h.2⟩
  | fuel + 1, listed, a, w, hw, h => ⟨fun h0 => hQ _ _ hw (h.1 h0), fun i hi => by
      have h := h.2 i hi
      unfold qOp at h
      unfold wpOpIn
      cases ho : ops[i]? with
      | none => rw [ho] at h; exact wpAnyIn_of_quiet L hnd hQ fuel _ _ _ hw h
      | some o =>
        rw [ho] at h
        have hm : o ∈ ops.toList := List.mem_of_getElem? (by rw [Array.getElem?_toList]; exact ho)
        simp only [] at h ⊢
        split
        · rename_i hwn
          rw [if_pos hwn] at h
          exact oper_round L (noDefer_at hnd hm) (Oper.wp_of_quiet hw (fun a' w' hw' hk => wpAnyIn_of_quiet L hnd hQ fuel _ a' w' hw' hk) h)
        · rename_i hwn
          rw [if_neg hwn] at h
          exact ⟨fun f _ => trivial, wpAnyIn_of_quiet L hnd hQ fuel _ _ _ hw h⟩⟩
theorem wpIn_round_quiet {P : Program} {id : Nat} {Q : Exit → Act → World → Prop} {a : Act} {w : World} {l : List Oper} {L : Nat} (hnd : noDefer l = true) (hm : P.follows .mixedOrders = true) (hB : Region.lexB .any l.toArray = true)
    (h : wpQuiet P l.toArray (fun w' => ∃ n, w' = w.drewN n) (fun a' => ∀ w', (∃ n, w' = w.drewN n) → Q .normal a' w') l a) : (Code.region id l.toArray true).wpIn (Fence.wide.inRound L) 0 P Q a w := by
  simp only [Region.lexB, Bool.and_eq_true] at hB
  refine wpIn_region_any hm (wpAnyIn_of_quiet (C := fun w' => ∃ n, w' = w.drewN n) (Q := fun a' => ∀ w', (∃ n, w' = w.drewN n) → Q .normal a' w') L (by simpa using hnd) (fun _ w' hw' h => h w' hw') _ _ _ _ ⟨1, rfl⟩ ?_)
  have := wpAnyQ_lex (C := fun w' => ∃ n, w' = w.drewN n) (md := .any) hB.1 l 0 (Array.replicate l.toArray.size false) a (by simp) (by simpa using hB.2) h
  simpa using this

/-! A region that draws its order, whose callees leave all as it was (they may make memory). -/
theorem ext_regrown {w w' : World} (h : ∃ p : Regrown, w' = grow (redrawn w p.d) p.os) : Ext w w' := by obtain ⟨p, rfl⟩ := h; exact below_regrown w p.d p.os
theorem calls_quiet {P : Program} {f : FuncId} {args : Array Value} {w : World} {v : Value} (h : ∀ w', Ext w w' → Calls P f args w' fun e w'' => e = .returned v ∧ Ext w' w'') :
    ∀ d os, Calls P f args (grow (redrawn w d) os) fun e w'' => e = .returned v ∧ ∃ p : Regrown, w'' = grow (redrawn w p.d) p.os := fun d os => Calls.regrown_of (h _ (below_regrown w d os))
theorem wpIn_round_below {P : Program} {id : Nat} {Q : Exit → Act → World → Prop} {a : Act} {w : World} {l : List Oper} {L : Nat} (hnd : noDefer l = true) (hm : P.follows .mixedOrders = true) (hB : Region.lexB .any l.toArray = true)
    (h : wpQuiet P l.toArray (fun w' => ∃ p : Regrown, w' = grow (redrawn w p.d) p.os) (fun a' => ∀ w', (∃ p : Regrown, w' = grow (redrawn w p.d) p.os) → Q .normal a' w') l a) : (Code.region id l.toArray true).wpIn (Fence.wide.inRound L) 0 P Q a w := by
  simp only [Region.lexB, Bool.and_eq_true] at hB
  refine wpIn_region_any hm (wpAnyIn_of_quiet (C := fun w' => ∃ p : Regrown, w' = grow (redrawn w p.d) p.os) (Q := fun a' => ∀ w', (∃ p : Regrown, w' = grow (redrawn w p.d) p.os) → Q .normal a' w') L (by simpa using hnd) (fun _ w' hw' h => h w' hw') _ _ _ _ ⟨⟨w.drawn + 1, #[]⟩, by rw [grow_empty]; rfl⟩ ?_)
  have := wpAnyQ_lex (C := fun w' => ∃ p : Regrown, w' = grow (redrawn w p.d) p.os) (md := .any) hB.1 l 0 (Array.replicate l.toArray.size false) a (by simp) (by simpa using hB.2) h
  simpa using this
end Go.Proofs.Ytogoejlbdbapoaa
