/- A range over a function, at the wide fence: the statement, and one round. -/
import Derived.Test.YtngnplghjaojhaaGenX1
import Derived.RangeFuncNested
import Derived.RangeFuncCalls
import Derived.RangeFuncLeaves
import Derived.OwnWalkIn
import Derived.TacticsInMore
import Derived.LoopNIn
import Derived.LoopIn
import Derived.Shelf.Abstract
import Derived.OrdersIn
import Derived.Lib.QuietBelow
import Derived.StillTail
import Derived.Laws.CopyOwn
import Derived.Laws.IdiomCopy
import Derived.Laws.MakeOwn
namespace Go.Proofs.Ytngnplghjaojhaa
set_option maxRecDepth 100000
set_option maxHeartbeats 2000000
set_option linter.unusedVariables false
set_option linter.unusedSimpArgs false
open Go.RowKit


theorem wide_fn (f : FuncId) : Fence.wide.fn f = True := rfl
theorem wide_depth : Fence.wide.depth = none := rfl
/-- The loop's record as it lies when a round may begin. -/
def recOf (fn : Nat) (a : Act) (ps : Array Tmp) (assign body : Code) (D : Nat) (st : LoopState) (pe : Option Code) : Loop :=
  { state := st, pending := pe, fn, tmps := a.tmps, params := ps, assign, body, defers := D }

/-- What a range over a function owes when the iterator has returned. -/
def overPost (P : Program) (l : Nat) (Q : Exit → Act → World → Prop) (a' : Act) : Ending → World → Prop := fun e W =>
  ∃ v, e = .returned v ∧ ∃ r : Loop, W.heap[l]? = some (.loop r) ∧ r.state ≠ .busy ∧ ∀ r' : Loop,
    (match r.pending with
     | none => Q .normal a' (W.putObj l (.loop r'))
     | some c => c.wpIn Fence.wide 0 P Q a' (W.putObj l (.loop r')))

/-- The statement: the two blocks are laid, the iterator is called. -/
theorem wp_range {P : Program} {g : Operand} {ps : Array Tmp} {assign body : Code} {Q : Exit → Act → World → Prop} {a : Act} {w : World} {gf : Nat} {lb : Array Value}
    (hg : a.eval g = .func (.func gf) #[] lb) (eg : ∀ args w, (callFunc gf args).run P w = .ok (.enter gf args) w) (D L : Nat) (hD : w.heap.size = D) (hL : D + 1 = L) (args : Array Value) (hargs : #[.func (.yield L) #[] #[]] ++ lb = args)
    (h : ∀ fn W, W = (w.alloc (.deferred (some []))).alloc (.loop (recOf fn a ps assign body D .ready none)) →
      CallsIn Fence.wide 0 P gf args W (overPost P L Q { a with defers := { target := .collected D, args := #[] } :: a.defers })) :
    (Code.rangeFunc g ps assign body).wpIn Fence.wide 0 P Q a w := by
  subst hD hL hargs
  refine wpIn_rangeFunc ?_
  intro fn _
  obtain ⟨W, hW⟩ : ∃ W, W = (w.alloc (.deferred (some []))).alloc (.loop (recOf fn a ps assign body w.heap.size .ready none)) := ⟨_, rfl⟩
  have hc := h fn W hW
  refine ⟨w.heap.size + 1, [{ target := .collected w.heap.size, args := #[] }], W, { target := .fn (.func gf) lb, args := #[.func (.yield (w.heap.size + 1)) #[] #[]] }, W, gf,
    #[.func (.yield (w.heap.size + 1)) #[] #[]] ++ lb, W, ?_, ?_, ?_, ?_, ?_, ?_⟩
  · rw [hW]; exact run_enterLoop_outer _ _ _ _ _
  · simp only [resolve, hg]
    simp [go_sem]
  · intro f' _; trivial
  · simp [invoke, go_sem, eg]
  · intro hd; simp [Fence.wide] at hd
  · refine CallsIn.mono (n := 0) hc ?_
    rintro e W ⟨v, rfl, r, hr, hb, hk⟩
    refine ⟨r.pending, _, run_endLoop hr hb, ?_⟩
    cases hp : r.pending with
    | none => rw [hp] at hk; exact hk _
    | some c => rw [hp] at hk; exact hk _

/-- What a round's body owes. -/
def roundQ (l : Nat) (r : Loop) (R : Ending → World → Prop) : Exit → Act → World → Prop := fun e _ W =>
  W.heap[l]? = some (.loop { r with state := .busy }) ∧
  match e with
  | .normal => R (.returned (.bool true)) (W.putObj l (.loop { r with state := .ready, pending := none }))
  | .ret => R (.returned (.bool false)) (W.putObj l (.loop { r with state := .done, pending := some .ret }))
  | .exit id => R (.returned (.bool false)) (W.putObj l (.loop { r with state := .done, pending := some (.exit id) }))
  | .goto t => R (.returned (.bool false)) (W.putObj l (.loop { r with state := .done, pending := some (.goto t) }))
  | _ => False

/-- One round. -/
theorem yield_round {P : Program} {l : Nat} {r : Loop} {args : Array Value} {W : World} {R : Ending → World → Prop} (hl : W.heap[l]? = some (.loop r)) (hs : args.size = r.params.size) (hst : r.state = .ready)
    (h : r.assign.wpIn (Fence.wide.inRound l) 0 P (Exit.then (fun a₁ w₁ => w₁.heap[l]? = some (.loop r) ∧ r.body.wpIn (Fence.wide.inRound l) 0 P (roundQ l r R) a₁ (w₁.putObj l (.loop { r with state := .busy }))) (fun _ _ _ => False))
      { tmps := (r.params.zip args).foldl (fun tmps (t, a) => tmps.setIfInBounds t a) r.tmps, defers := [] } W) :
    YieldAt Fence.wide 0 P l args W R := by
  refine ⟨r.fn, _, r.assign, r.body, run_yield hl hs, roundIn_of_wpIn trivial (wpIn_mono h ?_)⟩
  rintro e a₁ w₁ hq
  cases e with
  | normal =>
    obtain ⟨h1, h2⟩ := hq
    refine ⟨_, run_beginRound h1 hst, wpIn_mono h2 ?_⟩
    rintro e a₂ w₂ ⟨h3, h4⟩
    cases e with
    | normal => exact ⟨_, _, run_endRound none h3, by simpa using h4⟩
    | ret => exact ⟨_, _, run_endRound (some .ret) h3, by simpa using h4⟩
    | exit id => exact ⟨_, _, run_endRound (some (.exit id)) h3, by simpa using h4⟩
    | goto t => exact ⟨_, _, run_endRound (some (.goto t)) h3, by simpa using h4⟩
    | panic _ => exact h4
    | outgrown => exact h4
  | _ => exact hq

theorem yield_rec {P : Program} {l : Nat} {r : Loop} {args : Array Value} {W : World} {R : Ending → World → Prop} {fn : Nat} {a : Act} {ps : Array Tmp} {assign body : Code} {D : Nat}
    (hr : recOf fn a ps assign body D .ready none = r) (hl : W.heap[l]? = some (.loop r)) (hs : args.size = ps.size)
    (h : assign.wpIn (Fence.wide.inRound l) 0 P (Exit.then (fun a₁ w₁ => w₁.heap[l]? = some (.loop r) ∧ body.wpIn (Fence.wide.inRound l) 0 P (roundQ l r R) a₁ (w₁.putObj l (.loop { r with state := .busy }))) (fun _ _ _ => False))
      { tmps := (ps.zip args).foldl (fun tmps (t, a) => tmps.setIfInBounds t a) a.tmps, defers := [] } W) :
    YieldAt Fence.wide 0 P l args W R := by
  subst hr
  exact yield_round hl hs rfl h
theorem rec_ready {fn : Nat} {a : Act} {ps : Array Tmp} {assign body : Code} {D : Nat} {r : Loop} (hr : recOf fn a ps assign body D .ready none = r) : { r with state := .ready, pending := none } = r := by
  subst hr; rfl

theorem grown_put (W : World) (l : Nat) (o : Obj) : W.grownBy (W.putObj l o) (some l) := grownBy_putObj' W l o
theorem below_put {B : Nat} {w W : World} (h : Below B w W) {l : Nat} (hl : B ≤ l) (o : Obj) : Below B w (W.putObj l o) :=
  h.trans ⟨rfl, rfl, rfl, by simp, fun k hk => World.putObj_heap_other (by omega)⟩

theorem wpListIn_append_sl {F : Fence} {nn : Nat} {P : Program} (w : World) {ops : Array Oper} {rest : List Oper} {o : Oper} {a : Act} {Q : Exit → Act → World → Prop} (hgd : o.guard = none) (s x : Operand) (t : TypeId)
    (ho : o.op = .call { callee := .builtin .append, args := #[s, x], argTypes := #[t, t] })
    {base : Nat} {e : TypeId} {z : Value} {size bytes : Nat} (T : ElT P t e z size bytes) {v : Value} {n : Nat} {xs : List Value} (hs : a.eval s = v) (hown : w.ownsRow base e size v n xs)
    {u : Value} {m : Nat} {news : List Value} (hx : a.eval x = u) (hu : Sl w u m news) (hl : news.length = m * size)
    (h1 : ∀ x ∈ news, x.oneCell' = true) (hb : (n + m) * bytes ≤ 140737488355328) (h63 : n + m ≤ maxLen) (hbase : base ≤ w.heap.size)
    (h : ∀ v' w', w'.ownsRow base e size v' (n + m) (xs ++ news) → Below base w w' → w.grownBy w' v.ownBlock → AppAt v v' w → wpListIn F nn P ops Q rest (a.put o.dst v') w') : wpListIn F nn P ops Q (o :: rest) a w := by
  refine wpListIn_plain hgd fun K hK' => ?_
  obtain ⟨v', w', hrun, h2, h3, _, h5⟩ := run_append_sl (P := P) w (ty := o.type) T hown hu hl h1 hb h63 hbase
  unfold Oper.wpIn
  refine ⟨?_, ?_⟩
  · simp [Oper.about, ho, resolve, Target.leads, Sem.run_pure]
  · rw [Oper.semAt_plain F _ _ (by rw [ho]; intro c hc'; cases hc')]
    simp only [execOp, ho, resolve, invoke, builtin, Sem.run_bind, Sem.run_pure, Result.andThen_ok, List.map_toArray, List.map_cons, List.map_nil, hs, hx, hrun]
    exact hK' _ _ (h v' w' h2 ((Below.refl _ _).grown h3 hbase (own_ge hown)) h3 h5)
end Go.Proofs.Ytngnplghjaojhaa

/- A range over a function: an iterator's contract, and what the caller owes. No program in sight. -/
namespace Go.Proofs.Ytngnplghjaojhaa
set_option maxRecDepth 100000
set_option maxHeartbeats 2000000
set_option linter.unusedSimpArgs false
open Go.RowKit Go.Sort
set_option linter.unusedVariables false

theorem calls_of_wp_marks {P : Program} {f : FuncId} {fn : Func} {c : Code} {args : Array Value} {w : World} {R : Ending → World → Prop} (hf : P.funcs[f]? = some fn) (hb : fn.body = some c)
    (h : c.wp P (bodyPostM Fence.wide 0 P fn R) { tmps := args ++ Array.replicate (fn.ntmps - args.size) undef, defers := [] } w) : Calls P f args w R :=
  callsIn_wide.1 (callsIn_of_wp_marks hf hb trivial (wpIn_wide.2 h))

/-- An iterator's contract: it calls yield with N rows of arguments, one behind the other; it stops where yield says so. -/
def IterOf (P : Program) (gf : Nat) (lb : Array Value) (w0 : World) (N : Nat) (Enc : Nat → World → Array Value → Prop) : Prop :=
  ∀ (L : Nat) (W : World) (J : Nat → World → Prop) (Js : World → Prop),
    (∀ k W, J k W → Below w0.heap.size w0 W) → (∀ k W W', J k W → Ext W W' → J k W') → (∀ W W', Js W → Ext W W' → Js W') →
    (∀ k args W, k < N → J k W → Enc k W args → YieldAt Fence.wide 0 P L args W fun e W' => (e = .returned (.bool true) ∧ J (k + 1) W') ∨ (e = .returned (.bool false) ∧ Js W')) →
    J 0 W →
    CallsIn Fence.wide 0 P gf (#[.func (.yield L) #[] #[]] ++ lb) W fun e W' => (∃ v, e = .returned v) ∧ (J N W' ∨ Js W')

/-- What abides the turn of a block of no cells from B on. -/
def Stab (B : Nat) (I : World → Prop) : Prop := ∀ W W' row, I W → W.grownBy W' row → (∀ r, row = some r → B ≤ r ∧ ∃ o : Obj, W.heap[r]? = some o ∧ o.isCells = false) → I W'
theorem grown_ext {W W' : World} (h : Ext W W') : W.grownBy W' none := ⟨h.os, h.tape, h.output, h.size, fun i hi _ => h.block i hi⟩
theorem ext_cell {w w' : World} {b o : Nat} {v : Value} (hx : Ext w w') (h : w.cell? ⟨b, o, none⟩ = some v) : w'.cell? ⟨b, o, none⟩ = some v := (Below.cell (p := ⟨b, o, none⟩) hx (cell_lt h)).trans h
theorem below_step {w W W' : World} (h : Below w.heap.size w W) (hx : Ext W W') : Below w.heap.size w W' := Below.ext h hx h.size
theorem below_set2 {w W : World} {b : Nat} (h : Below w.heap.size w W) (hb : w.heap.size ≤ b) (u v : Value) : Below w.heap.size w ((W.setCell ⟨b, 0, none⟩ u).setCell ⟨b, 1, none⟩ v) := (h.setCell (p := ⟨b, 0, none⟩) hb u).setCell (p := ⟨b, 1, none⟩) hb v
theorem Stab.ext {B : Nat} {I : World → Prop} (h : Stab B I) {W W' : World} (hi : I W) (hx : Ext W W') : I W' := h W W' none hi (grown_ext hx) (fun r e => by cases e)
theorem Stab.put {B : Nat} {I : World → Prop} (h : Stab B I) {W : World} (hi : I W) {l : Nat} {o : Obj} (hl : W.heap[l]? = some o) (ho : o.isCells = false) (hB : B ≤ l) (o' : Obj) : I (W.putObj l o') :=
  h W _ (some l) hi (grownBy_putObj' W l o') (fun r e => by cases e; exact ⟨hB, o, hl, ho⟩)
theorem Stab.and {B : Nat} {I I' : World → Prop} (h : Stab B I) (h' : Stab B I') : Stab B (fun W => I W ∧ I' W) := fun W W' row hi hg hr => ⟨h W W' row hi.1 hg hr, h' W W' row hi.2 hg hr⟩
theorem Stab.pure (B : Nat) (p : Prop) : Stab B (fun _ => p) := fun _ _ _ h _ _ => h
theorem Stab.ex {α : Type} {B : Nat} {I : α → World → Prop} (h : ∀ x, Stab B (I x)) : Stab B (fun W => ∃ x, I x W) := fun W W' row ⟨x, hi⟩ hg hr => ⟨x, h x W W' row hi hg hr⟩
theorem Stab.boxed (B b : Nat) (t : TypeId) (v : Value) : Stab B (fun W => Boxed W b t v) := fun W W' row h hg hr => h.kept hg (fun e => by
  obtain ⟨_, o, ho, hc⟩ := hr b e.symm
  rw [show W.heap[b]? = _ from h] at ho
  cases ho; cases hc)
theorem Stab.below (B n : Nat) (w0 : World) (h : n ≤ B) (hB : B ≤ w0.heap.size) : Stab B (fun W => Below n w0 W) := fun W W' row hb hg hr =>
  hb.grown hg (Nat.le_trans h (Nat.le_trans hB hb.size)) (fun k e => Nat.le_trans h (hr k e).1)
theorem Stab.own (B base n size : Nat) (e : TypeId) (v : Value) (xs : List Value) : Stab B (fun W => W.ownsRow base e size v n xs) := fun W W' row h hg hr => by
  refine ⟨h.1, ?_⟩
  rcases h.2 with hn | ⟨g, cap, cur, rfl, hbg, hgg, rest⟩
  · exact .inl hn
  · refine .inr ⟨g, cap, cur, rfl, hbg, ?_, rest⟩
    refine (hg.block g (Array.getElem?_eq_some_iff.1 hgg).1 (fun e' => ?_)).trans hgg
    obtain ⟨_, o, ho, hc⟩ := hr g e'.symm
    rw [hgg] at ho
    cases ho; cases hc
theorem Stab.cell (B : Nat) (a : Addr) (v : Value) : Stab B (fun W => W.cell? a = some v) := fun W W' row h hg hr => by
  obtain ⟨o, ho, hc⟩ := cells_of_cell h
  have hb := hg.block a.block (World.block_lt_of_cell? W a h) (fun e => by
    obtain ⟨_, o', ho', hc'⟩ := hr _ e.symm
    rw [ho] at ho'; cases ho'; rw [hc] at hc'; cases hc')
  unfold World.cell? at h ⊢
  rw [hb]; exact h
theorem Stab.sl (B : Nat) (v : Value) (n : Nat) (xs : List Value) : Stab B (fun W => Sl W v n xs) := fun W W' row h hg hr => by
  obtain ⟨a, cap, rfl, h1, h2, h3⟩ := h
  refine ⟨a, cap, rfl, h1, h2, fun hp => ?_⟩
  obtain ⟨b, o, rfl, hc⟩ := h3 hp
  exact ⟨b, o, rfl, fun i u hu => Stab.cell B _ _ W W' row (hc i u hu) hg hr⟩

/-- What a round's body owes. -/
def overQ (B : Nat) (I : Nat → World → Prop) (Ix : Code → World → Prop) (k : Nat) (W : World) : Exit → Act → World → Prop := fun e _ W' =>
  KeepsFrom B W W' ∧ match e with
  | .normal => I (k + 1) W'
  | .ret => Ix .ret W'
  | .exit id => Ix (.exit id) W'
  | .goto t => Ix (.goto t) W'
  | _ => False

theorem keeps_ext (B : Nat) {W W' : World} (h : Ext W W') : KeepsFrom B W W' := ⟨h.size, fun k _ _ hk _ => (h.block k (Array.getElem?_eq_some_iff.1 hk).1).trans hk⟩
theorem keeps_set (B : Nat) {W : World} {a : Addr} {u : Value} (h : W.cell? a = some u) (v : Value) : KeepsFrom B W (W.setCell a v) := by
  obtain ⟨o, ho, hc⟩ := cells_of_cell h
  refine ⟨by simp [World.setCell], fun k o' _ hk ho' => ?_⟩
  have hne : k ≠ a.block := by rintro rfl; rw [ho] at hk; cases hk; rw [hc] at ho'; cases ho'
  rw [Below.heap_setCell _ _ _ k hne]; exact hk
theorem keeps_grown (B : Nat) {W W' : World} {row : Option Nat} (hg : W.grownBy W' row) (hr : ∀ r, row = some r → ∃ o : Obj, W.heap[r]? = some o ∧ o.isCells = true) : KeepsFrom B W W' :=
  ⟨hg.size, fun k o _ hk ho => (hg.block k (Array.getElem?_eq_some_iff.1 hk).1 (fun e => by
    obtain ⟨o', ho', hc⟩ := hr k e.symm
    rw [hk] at ho'; cases ho'; rw [ho] at hc; cases hc)).trans hk⟩

theorem wp_over {P : Program} {g : Operand} {ps : Array Tmp} {assign body : Code} {Q : Exit → Act → World → Prop} {a : Act} {w : World} {gf : Nat} {lb : Array Value} {w0 : World} {N : Nat} {Enc : Nat → World → Array Value → Prop}
    (hg : a.eval g = .func (.func gf) #[] lb) (eg : ∀ args w, (callFunc gf args).run P w = .ok (.enter gf args) w) (hit : IterOf P gf lb w0 N Enc)
    (hsz : ∀ k W args, Enc k W args → args.size = ps.size) (hEnc : ∀ k args, Stab w.heap.size (fun W => Enc k W args))
    (I : Nat → World → Prop) (Ix : Code → World → Prop) (hI : ∀ k, Stab w.heap.size (I k)) (hIx : ∀ c, Stab w.heap.size (Ix c))
    (hb : ∀ k W, I k W → Below w0.heap.size w0 W) (h0 : I 0 w)
    (hround : ∀ k args W L, k < N → w.heap.size < L → I k W → Enc k W args →
      assign.wpIn (Fence.wide.inRound L) 0 P (Exit.then (fun a₁ W₁ => KeepsFrom w.heap.size W W₁ ∧ I k W₁ ∧ Enc k W₁ args ∧ ∀ W₂, I k W₂ → Enc k W₂ args → body.wpIn (Fence.wide.inRound L) 0 P (overQ w.heap.size I Ix k W₂) a₁ W₂) (fun _ _ _ => False))
        { tmps := (ps.zip args).foldl (fun tmps (t, a) => tmps.setIfInBounds t a) a.tmps, defers := [] } W)
    (hdone : ∀ D W, w.heap.size ≤ D → I N W → W.heap[D]? = some (.deferred (some [])) → Q .normal { a with defers := { target := .collected D, args := #[] } :: a.defers } W)
    (hstop : ∀ D c W, w.heap.size ≤ D → Ix c W → W.heap[D]? = some (.deferred (some [])) → c.wp P Q { a with defers := { target := .collected D, args := #[] } :: a.defers } W) :
    (Code.rangeFunc g ps assign body).wp P Q a w := by
  refine (wpIn_wide (n := 0)).1 ?_
  refine wp_range hg eg w.heap.size (w.heap.size + 1) rfl rfl _ rfl ?_
  intro fn W hW
  have hr0 : ∀ st pe, ({ recOf fn a ps assign body w.heap.size .ready none with state := st, pending := pe } : Loop) = recOf fn a ps assign body w.heap.size st pe := fun _ _ => rfl
  generalize hr : recOf fn a ps assign body w.heap.size .ready none = r at hW
  have hrd : r.state = .ready ∧ r.pending = none := by subst hr; exact ⟨rfl, rfl⟩
  have hL0 : W.heap[w.heap.size + 1]? = some (.loop r) := by
    subst hW
    have := World.alloc_heap_new (w.alloc (.deferred (some []))) (.loop r)
    rwa [World.size_alloc] at this
  have hD0 : W.heap[w.heap.size]? = some (.deferred (some [])) := by
    subst hW
    rw [Below.heap_alloc _ _ _ (by simp)]
    exact World.alloc_heap_new w _
  have hI0 : I 0 W := by
    subst hW
    exact (hI 0).ext ((hI 0).ext h0 (Ext.alloc _ _)) (Ext.alloc _ _)
  have hx := hit (w.heap.size + 1) W (fun k W => W.heap[w.heap.size + 1]? = some (.loop r) ∧ W.heap[w.heap.size]? = some (.deferred (some [])) ∧ I k W)
    (fun W => ∃ c, W.heap[w.heap.size + 1]? = some (.loop { r with state := .done, pending := some c }) ∧ W.heap[w.heap.size]? = some (.deferred (some [])) ∧ Ix c W)
    (fun k W h => hb k W h.2.2)
    (fun k W W' ⟨h1, h2, h3⟩ hx => ⟨(hx.block _ (Array.getElem?_eq_some_iff.1 h1).1).trans h1, (hx.block _ (Array.getElem?_eq_some_iff.1 h2).1).trans h2, (hI k).ext h3 hx⟩)
    (fun W W' ⟨c, h1, h2, h3⟩ hx => ⟨c, (hx.block _ (Array.getElem?_eq_some_iff.1 h1).1).trans h1, (hx.block _ (Array.getElem?_eq_some_iff.1 h2).1).trans h2, (hIx c).ext h3 hx⟩)
    ?_ ⟨hL0, hD0, hI0⟩
  · refine CallsIn.mono (n := 0) hx ?_
    rintro e W' ⟨⟨v, rfl⟩, h | h⟩
    · obtain ⟨h1, h2, h3⟩ := h
      refine ⟨v, rfl, r, h1, by rw [hrd.1]; decide, fun r' => ?_⟩
      rw [hrd.2]
      exact hdone _ _ (Nat.le_refl _) ((hI N).put h3 h1 rfl (by omega) _) ((World.putObj_heap_other (by omega)).trans h2)
    · obtain ⟨c, h1, h2, h3⟩ := h
      refine ⟨v, rfl, _, h1, by simp, fun r' => ?_⟩
      simp only []
      exact wpIn_wide.2 (hstop _ c _ (Nat.le_refl _) ((hIx c).put h3 h1 rfl (by omega) _) ((World.putObj_heap_other (by omega)).trans h2))
  · rintro k args W1 hk ⟨h1, h2, h3⟩ he
    refine yield_rec hr h1 (hsz k W1 args he) ?_
    refine wpIn_mono (hround k args W1 (w.heap.size + 1) hk (by omega) h3 he) ?_
    rintro ex a₁ W₁ hq
    cases ex with
    | normal =>
      obtain ⟨q1, q2, q2', q3⟩ := hq
      have h1' := q1.same _ _ (by omega) h1 rfl
      have h2' := q1.same _ _ (by omega) h2 rfl
      refine ⟨h1', ?_⟩
      refine wpIn_mono (q3 (W₁.putObj (w.heap.size + 1) (.loop { r with state := .busy })) ((hI k).put q2 h1' rfl (by omega) _) ((hEnc k args).put q2' h1' rfl (by omega) _)) ?_
      rintro ex a₂ W₂ ⟨hK, hq⟩
      have h1'' := hK.same _ _ (by omega) (World.putObj_heap_same (Array.getElem?_eq_some_iff.1 h1').1) rfl
      have h2'' := hK.same _ _ (by omega) ((World.putObj_heap_other (by omega)).trans h2') rfl
      have hlt := (Array.getElem?_eq_some_iff.1 h1'').1
      refine ⟨h1'', ?_⟩
      cases ex with
      | normal =>
        refine .inl ⟨rfl, World.putObj_heap_same hlt |>.trans (by rw [rec_ready hr]), (World.putObj_heap_other (by omega)).trans h2'', (hI (k + 1)).put hq h1'' rfl (by omega) _⟩
      | ret => exact .inr ⟨rfl, .ret, World.putObj_heap_same hlt, (World.putObj_heap_other (by omega)).trans h2'', (hIx _).put hq h1'' rfl (by omega) _⟩
      | exit id => exact .inr ⟨rfl, .exit id, World.putObj_heap_same hlt, (World.putObj_heap_other (by omega)).trans h2'', (hIx _).put hq h1'' rfl (by omega) _⟩
      | goto t => exact .inr ⟨rfl, .goto t, World.putObj_heap_same hlt, (World.putObj_heap_other (by omega)).trans h2'', (hIx _).put hq h1'' rfl (by omega) _⟩
      | panic c => exact hq
      | outgrown => exact hq
    | _ => exact hq

/-- The end of a function that held one range over a function: the block of the rounds' deferred calls is turned once more. -/
theorem leave_marked {P : Program} {fn : Func} {tmps : Array Value} {D : Nat} {W : World} {R : Ending → World → Prop} {v : Value} (hD : W.heap[D]? = some (.deferred (some [])))
    (hr : ∀ w', (results fn tmps).run P w' = .ok v w') (h : R (.returned v) (W.putObj D (.deferred none))) : bodyPostM Fence.wide 0 P fn R .ret { tmps, defers := [{ target := .collected D, args := #[] }] } W :=
  ⟨by simp, .inl ⟨_, _, rfl, run_takeDeferred hD, ⟨_, hr _, h⟩⟩⟩
theorem below_mark {B : Nat} {w W : World} {D : Nat} (h : Below B w W) (hD : B ≤ D) : Below B w (W.putObj D (.deferred none)) := below_put h hD _
theorem sl_mark {W : World} {D : Nat} {v : Value} {n : Nat} {xs : List Value} (h : Sl W v n xs) (hD : W.heap[D]? = some (.deferred (some []))) : Sl (W.putObj D (.deferred none)) v n xs :=
  (Stab.sl 0 v n xs).put h hD rfl (Nat.zero_le _) _
theorem own_mark {W : World} {D : Nat} {base size n : Nat} {e : TypeId} {v : Value} {xs : List Value} (h : W.ownsRow base e size v n xs) (hD : W.heap[D]? = some (.deferred (some []))) : (W.putObj D (.deferred none)).ownsRow base e size v n xs :=
  (Stab.own 0 base n size e v xs).put h hD rfl (Nat.zero_le _) _

/-! A region that draws its order, within a round: what only reads. -/
def noDefer (ops : List Oper) : Bool := ops.all fun o => match o.op with | .defer _ => false | _ => true
theorem noDefer_at {ops : List Oper} (h : noDefer ops = true) {o : Oper} (ho : o ∈ ops) : ∀ c, o.op ≠ .defer c := fun c e => by
  have := List.all_eq_true.1 h o ho
  rw [e] at this; cases this
theorem oper_round {P : Program} {o : Oper} {a : Act} {w : World} {K : Act → World → Prop} {Q : Exit → Act → World → Prop} (L : Nat) (hd : ∀ c, o.op ≠ .defer c) (h : o.wp P a w K Q) : o.wpIn (Fence.wide.inRound L) 0 P a w K Q := by
  refine ⟨fun f _ => trivial, ?_⟩
  rw [Oper.semAt_plain _ _ _ hd]
  unfold Oper.wp at h
  generalize (execOp a.eval o).run P w = r at h
  cases r with
  | ok x w' =>
    cases x <;> simp only [Oper.uponIn, Oper.upon] at h ⊢ <;> first | exact h | exact h.elim | skip
    · exact ⟨fun hd => by simp [Fence.wide, Fence.inRound] at hd, (callsIn_wide.2 h).inRound L⟩
    · exact ⟨fun hd => by simp [Fence.wide, Fence.inRound] at hd, fun c cs _ => let ⟨v, w', r, s⟩ := h c cs; ⟨v, w', r, stepsIn_wide.2 s⟩⟩
  | halt x w' => cases x <;> simp only [Oper.uponIn, Oper.upon] at h ⊢ <;> first | exact h | exact h.elim
theorem wpAnyIn_of_quiet {P : Program} {md : Region.Mode} {ops : Array Oper} {C : World → Prop} {Q : Act → Prop} {Q' : Exit → Act → World → Prop} (L : Nat) (hnd : noDefer ops.toList = true) (hQ : ∀ a w, C w → Q a → Q' .normal a w) : ∀ (fuel : Nat) (listed : Array Bool) (a : Act) (w : World), C w →
    wpAnyQ P md ops C Q fuel listed a → wpAnyIn (Fence.wide.inRound L) 0 P md ops Q' fuel listed a w
  | 0, _, _, _, hw, h => ⟨h.1, hQ _ _ hw h.2⟩
  | fuel + 1, listed, a, w, hw, h => ⟨fun h0 => hQ _ _ hw (h.1 h0), fun i hi => by
      have h := h.2 i hi
      unfold qOp at h
      unfold wpOpIn
      cases ho : ops[i]? with
      | none => rw [ho] at h; exact wpAnyIn_of_quiet L hnd hQ fuel _ _ _ hw h
      | some o =>
        rw [ho] at h
        have hm : o ∈ ops.toList := List.mem_of_getElem? (by rw [Array.getElem?_toList]; exact ho)
        simp only [] at h ⊢
        split
        · rename_i hwn
          rw [if_pos hwn] at h
          exact oper_round L (noDefer_at hnd hm) (Oper.wp_of_quiet hw (fun a' w' hw' hk => wpAnyIn_of_quiet L hnd hQ fuel _ a' w' hw' hk) h)
        · rename_i hwn
          rw [if_neg hwn] at h
          exact ⟨fun f _ => trivial, wpAnyIn_of_quiet L hnd hQ fuel _ _ _ hw h⟩⟩
theorem wpIn_round_quiet {P : Program} {id : Nat} {Q : Exit → Act → World → Prop} {a : Act} {w : World} {l : List Oper} {L : Nat} (hnd : noDefer l = true) (hm : P.follows .mixedOrders = true) (hB : Region.lexB .any l.toArray = true)
    (h : wpQuiet P l.toArray (fun w' => ∃ n, w' = w.drewN n) (fun a' => ∀ w', (∃ n, w' = w.drewN n) → Q .normal a' w') l a) : (Code.region id l.toArray true).wpIn (Fence.wide.inRound L) 0 P Q a w := by
  simp only [Region.lexB, Bool.and_eq_true] at hB
  refine wpIn_region_any hm (wpAnyIn_of_quiet (C := fun w' => ∃ n, w' = w.drewN n) (Q := fun a' => ∀ w', (∃ n, w' = w.drewN n) → Q .normal a' w') L (by simpa using hnd) (fun _ w' hw' h => h w' hw') _ _ _ _ ⟨1, rfl⟩ ?_)
  have := wpAnyQ_lex (C := fun w' => ∃ n, w' = w.drewN n) (md := .any) hB.1 l 0 (Array.replicate l.toArray.size false) a (by simp) (by simpa using hB.2) h
  simpa using this

/-! A region that draws its order, whose callees leave all as it was (they may make memory). -/
theorem ext_regrown {w w' : World} (h : ∃ p : Regrown, w' = grow (redrawn w p.d) p.os) : Ext w w' := by obtain ⟨p, rfl⟩ := h; exact below_regrown w p.d p.os
theorem calls_quiet {P : Program} {f : FuncId} {args : Array Value} {w : World} {v : Value} (h : ∀ w', Ext w w' → Calls P f args w' fun e w'' => e = .returned v ∧ Ext w' w'') :
    ∀ d os, Calls P f args (grow (redrawn w d) os) fun e w'' => e = .returned v ∧ ∃ p : Regrown, w'' = grow (redrawn w p.d) p.os := fun d os => Calls.regrown_of (h _ (below_regrown w d os))
theorem wpIn_round_below {P : Program} {id : Nat} {Q : Exit → Act → World → Prop} {a : Act} {w : World} {l : List Oper} {L : Nat} (hnd : noDefer l = true) (hm : P.follows .mixedOrders = true) (hB : Region.lexB .any l.toArray = true)
    (h : wpQuiet P l.toArray (fun w' => ∃ p : Regrown, w' = grow (redrawn w p.d) p.os) (fun a' => ∀ w', (∃ p : Regrown, w' = grow (redrawn w p.d) p.os) → Q .normal a' w') l a) : (Code.region id l.toArray true).wpIn (Fence.wide.inRound L) 0 P Q a w := by
  simp only [Region.lexB, Bool.and_eq_true] at hB
  refine wpIn_region_any hm (wpAnyIn_of_quiet (C := fun w' => ∃ p : Regrown, w' = grow (redrawn w p.d) p.os) (Q := fun a' => ∀ w', (∃ p : Regrown, w' = grow (redrawn w p.d) p.os) → Q .normal a' w') L (by simpa using hnd) (fun _ w' hw' h => h w' hw') _ _ _ _ ⟨⟨w.drawn + 1, #[]⟩, by rw [grow_empty]; rfl⟩ ?_)
  have := wpAnyQ_lex (C := fun w' => ∃ p : Regrown, w' = grow (redrawn w p.d) p.os) (md := .any) hB.1 l 0 (Array.replicate l.toArray.size false) a (by simp) (by simpa using hB.2) h
  simpa using this
end Go.Proofs.Ytngnplghjaojhaa

/- A region that draws its order: operations that leave all as it was (their callees may make memory), ahead of a forced tail that writes. No program in sight. -/
namespace Go.Proofs.Ytngnplghjaojhaa
set_option maxRecDepth 100000
set_option maxHeartbeats 2000000
set_option linter.unusedSimpArgs false
open Go.RowKit Go.Sort
set_option linter.unusedVariables false

section
variable {P : Program} {md : Region.Mode} {ops : Array Oper} {C : World → Prop}

/-- f operations of the first n, in whatever order; then L. -/
def headQ (P : Program) (md : Region.Mode) (ops : Array Oper) (C : World → Prop) (n : Nat) (L : Array Bool → Act → Prop) : Nat → Array Bool → Act → Prop
  | 0, listed, a => L listed a
  | f + 1, listed, a => Region.ready md ops listed ≠ [] ∧ ∀ i ∈ Region.ready md ops listed, i < n ∧ qOp P ops C i (headQ P md ops C n L f (listed.setIfInBounds i true)) a

theorem wpAny_of_headQ {n g : Nat} {L : Array Bool → Act → Prop} {Q' : Exit → Act → World → Prop} (hL : ∀ listed a w, C w → L listed a → wpAny P md ops Q' g listed a w) :
    ∀ (f : Nat) (listed : Array Bool) (a : Act) (w : World), C w → headQ P md ops C n L f listed a → wpAny P md ops Q' (f + g) listed a w
  | 0, listed, a, w, hw, h => by rw [Nat.zero_add]; exact hL _ _ _ hw h
  | f + 1, listed, a, w, hw, h => by
    rw [show f + 1 + g = (f + g) + 1 by omega]
    exact ⟨fun h0 => absurd h0 h.1, fun i hi => wpOp_of_qOp hw (fun a' w' hw' h' => wpAny_of_headQ hL f _ a' w' hw' h') (h.2 i hi).2⟩

theorem headQ_first {n i : Nat} {oi : Oper} {v : Value} {L : Array Bool → Act → Prop} (hi : ops[i]? = some oi) (hsel : ∀ (j : Nat) (o : Oper) cs b, ops[j]? = some o → o.op ≠ .select cs b)
    (hs : Region.sinkB md ops n = true) (hc : Region.chainB md ops n = true) (hn : n < ops.size) (hin : i < n) (hdone : ∀ listed a, L listed a → ∀ j ∈ Region.ready md ops listed, n ≤ j) :
    ∀ (f : Nat) (listed : Array Bool) (a : Act), HeadInv md ops n listed →
      (∀ j oj, ops[j]? = some oj → j ≠ i → listed.getD j true = false → (∀ e ∈ oj.after, Region.binds md e = true → e.on ≠ i) → oi.apart ops oj = true) →
      i ∈ Region.ready md ops listed → YieldsIn P ops C oi v a → headQ P md ops C n L f (listed.setIfInBounds i true) (a.put oi.dst v) → headQ P md ops C n L (f + 1) listed a := by
  intro f
  induction f with
  | zero =>
    intro listed a inv _ hr hy H
    have hun := (mem_ready.1 hr).1
    refine ⟨fun h => (by rw [h] at hr; cases hr), fun j hj => ?_⟩
    have hjn : j < n := by
      refine Classical.byContradiction fun h => ?_
      exact tail_waits hs hc hn inv _ i rfl hin hun j (by omega) hj
    refine ⟨hjn, ?_⟩
    by_cases hji : j = i
    · subst hji; exact hy.qOp hi H
    · have := hdone _ _ H j (ready_mono hj hji)
      omega
  | succ f ih =>
    intro listed a inv hfree hr hy H
    have hun := (mem_ready.1 hr).1
    refine ⟨fun h => (by rw [h] at hr; cases hr), fun j hj => ?_⟩
    have hjn : j < n := by
      refine Classical.byContradiction fun h => ?_
      exact tail_waits hs hc hn inv _ i rfl hin hun j (by omega) hj
    refine ⟨hjn, ?_⟩
    by_cases hji : j = i
    · subst hji; exact hy.qOp hi H
    · obtain ⟨hjun, oj, hoj, hall⟩ := mem_ready.1 hj
      have hnot : ∀ e ∈ oj.after, Region.binds md e = true → e.on ≠ i := fun e he hb heq => by
        have h1 := hall e he hb
        rw [heq, getD_both hun] at h1
        cases h1
      have h2 := qOp_put hoj (hfree j oj hoj hji hjun hnot) (fun cs b => hsel i oi cs b hi) (fun cs b => hsel j oj cs b hoj) hy (H.2 j (ready_mono hj hji)).2
      refine qOp_mono (fun a' h3 => ih (listed.setIfInBounds j true) a' (inv.set hj hjn) (fun k ok hk hki hunk hno => ?_) (ready_mono hr (Ne.symm hji)) h3.1 ?_) h2
      · refine hfree k ok hk hki ?_ hno
        by_cases hjk : j = k
        · subst hjk; exact hjun
        · rwa [getD_set_ne true hjk] at hunk
      · rw [Array.setIfInBounds_comm _ _ hji]
        exact h3.2

theorem headQ_lex {n g : Nat} {Lq : Act → Prop} (hsel : Region.noSelect ops = true) (hs : Region.sinkB md ops n = true) (hc : Region.chainB md ops n = true) (hn : n < ops.size) :
    ∀ (l : List Oper) (k : Nat) (listed : Array Bool) (a : Act), (∀ j, j < l.length → l[j]? = ops[k + j]?) → k + l.length = n → HeadInv md ops n listed →
    Region.lexHead md ops g l.length k listed = true → wpQuiet P ops C Lq l a →
    headQ P md ops C n (fun listed' a' => Region.seqB md ops g n listed' = true ∧ Lq a') l.length listed a
  | [], k, listed, a, _, hk, _, hB, h => by
    obtain rfl : k = n := by simpa using hk
    exact ⟨by simpa [Region.lexHead] using hB, h⟩
  | o :: l, k, listed, a, hl, hk, inv, hB, h => by
    have h0 : ops[k]? = some o := by simpa using (hl 0 (by simp)).symm
    simp only [List.length_cons, Region.lexHead, Bool.and_eq_true] at hB
    obtain ⟨⟨hr, hf⟩, hB'⟩ := hB
    have hkn : k < n := by simp only [List.length_cons] at hk; omega
    have hr' : k ∈ Region.ready md ops listed := by simpa using hr
    obtain ⟨v, hy, hK⟩ := yieldsIn_of_qOp (C := C) (K := wpQuiet P ops C Lq l) (a := a) h0 (by unfold qOp; simp only [h0]; exact h)
    exact headQ_first h0 (Region.noSelect_spec hsel) hs hc hn hkn (fun listed' a' hL => seqB_ready hL.1) l.length listed a inv (Region.free_spec h0 hf) hr' hy
      (headQ_lex hsel hs hc hn l (k + 1) _ _ (fun j hj => by have := hl (j + 1) (by simp; omega); simpa [Nat.add_assoc, Nat.add_comm 1 j] using this) (by simp only [List.length_cons] at hk; omega) (inv.set hr' hkn) hB' hK)

/-- The law: n operations that leave all as it was, whatever order; the rest is forced. -/
theorem wp_region_tail {id : Nat} {Q : Exit → Act → World → Prop} {a : Act} {w : World} {l : List Oper} (n : Nat) (hm : P.follows .mixedOrders = true) (hB : Region.lexTailB .any l.toArray n = true) (hC : C { w with drawn := w.drawn + 1 })
    (h : wpQuiet P l.toArray C (fun a' => ∀ w', C w' → wpList P l.toArray Q (l.drop n) a' w') (l.take n) a) : (Code.region id l.toArray true).wp P Q a w := by
  simp only [Region.lexTailB, Bool.and_eq_true, decide_eq_true_eq] at hB
  obtain ⟨⟨⟨⟨hsel, hn⟩, hs⟩, hc⟩, hlex⟩ := hB
  have hn' : n < l.length := by simpa using hn
  have htl : (l.take n).length = n := by simp; omega
  have hdl : (l.drop n).length = l.toArray.size - n := by simp
  have inv0 : HeadInv .any l.toArray n (Array.replicate l.toArray.size false) :=
    ⟨by simp, fun j oj _ hl => (by rw [getD_replicate_false] at hl; cases hl), fun t _ ht => getD_in (by simpa using ht) (getD_replicate_false _ _)⟩
  have H := headQ_lex (md := .any) (C := C) (g := l.toArray.size - n) (Lq := fun a' => ∀ w', C w' → wpList P l.toArray Q (l.drop n) a' w') hsel hs hc hn (l.take n) 0 _ a (fun j hj => by
    rw [htl] at hj
    rw [List.getElem?_take, if_pos hj]; simp) (by rw [htl]; simp) inv0 (by rw [htl]; exact hlex) h
  have h2 := wpAny_of_headQ (Q' := Q) (fun listed a' w' hw' (hL : Region.seqB .any l.toArray (l.toArray.size - n) n listed = true ∧ ∀ w', C w' → wpList P l.toArray Q (l.drop n) a' w') => by
    have := wpAny_of_seq (md := .any) (ops := l.toArray) (Q' := Q) (l.drop n) n listed a' w' (fun j => by simp) (by rw [hdl]; exact hL.1) (hL.2 w' hw')
    rwa [hdl] at this) (l.take n).length _ a _ hC H
  refine wp_region_any hm ?_
  rw [htl, show n + (l.toArray.size - n) = l.toArray.size from by omega] at h2
  exact h2
/-- At the class of all worlds in which all is as it was. -/
theorem wp_region_tail_ext {id : Nat} {Q : Exit → Act → World → Prop} {a : Act} {w : World} {l : List Oper} (n : Nat) (hm : P.follows .mixedOrders = true) (hB : Region.lexTailB .any l.toArray n = true)
    (h : wpQuiet P l.toArray (fun w' => ∃ p : Regrown, w' = grow (redrawn w p.d) p.os) (fun a' => ∀ w', (∃ p : Regrown, w' = grow (redrawn w p.d) p.os) → wpList P l.toArray Q (l.drop n) a' w') (l.take n) a) : (Code.region id l.toArray true).wp P Q a w :=
  wp_region_tail (C := fun w' => ∃ p : Regrown, w' = grow (redrawn w p.d) p.os) n hm hB ⟨⟨w.drawn + 1, #[]⟩, by rw [grow_empty]; rfl⟩ h

/-! The same within a round. -/
theorem wpAnyIn_of_headQ {n g L' : Nat} (hnd : noDefer ops.toList = true) {L : Array Bool → Act → Prop} {Q' : Exit → Act → World → Prop} (hL : ∀ listed a w, C w → L listed a → wpAnyIn (Fence.wide.inRound L') 0 P md ops Q' g listed a w) :
    ∀ (f : Nat) (listed : Array Bool) (a : Act) (w : World), C w → headQ P md ops C n L f listed a → wpAnyIn (Fence.wide.inRound L') 0 P md ops Q' (f + g) listed a w
  | 0, listed, a, w, hw, h => by rw [Nat.zero_add]; exact hL _ _ _ hw h
  | f + 1, listed, a, w, hw, h => by
    rw [show f + 1 + g = (f + g) + 1 by omega]
    refine ⟨fun h0 => absurd h0 h.1, fun i hi => ?_⟩
    have h := (h.2 i hi).2
    unfold qOp at h
    unfold wpOpIn
    cases ho : ops[i]? with
    | none => rw [ho] at h; exact wpAnyIn_of_headQ hnd hL f _ _ _ hw h
    | some o =>
      rw [ho] at h
      have hm : o ∈ ops.toList := List.mem_of_getElem? (by rw [Array.getElem?_toList]; exact ho)
      simp only [] at h ⊢
      split
      · rename_i hwn
        rw [if_pos hwn] at h
        exact oper_round L' (noDefer_at hnd hm) (Oper.wp_of_quiet hw (fun a' w' hw' hk => wpAnyIn_of_headQ hnd hL f _ a' w' hw' hk) h)
      · rename_i hwn
        rw [if_neg hwn] at h
        exact ⟨fun f _ => trivial, wpAnyIn_of_headQ hnd hL f _ _ _ hw h⟩
theorem wpAnyIn_of_seq {F : Fence} {m : Nat} {Q' : Exit → Act → World → Prop} : ∀ (l : List Oper) (k : Nat) (listed : Array Bool) (a : Act) (w : World), (∀ j, l[j]? = ops[k + j]?) →
    Region.seqB md ops l.length k listed = true → wpListIn F m P ops Q' l a w → wpAnyIn F m P md ops Q' l.length listed a w
  | [], _, _, _, _, _, hB, h => ⟨by simpa [Region.seqB] using hB, h⟩
  | o :: l, k, listed, a, w, hl, hB, h => by
    have h0 : ops[k]? = some o := by simpa using (hl 0).symm
    simp only [List.length_cons, Region.seqB, Bool.and_eq_true, decide_eq_true_eq] at hB
    refine ⟨fun h1 => (by rw [hB.1] at h1; cases h1), fun i hi => ?_⟩
    rw [hB.1] at hi
    obtain rfl : i = k := by simpa using hi
    have hw : wpOpIn F m P ops Q' i (wpListIn F m P ops Q' l) a w := by unfold wpOpIn; simp only [h0]; exact h
    exact wpOpIn_mono (fun a' w' h' => wpAnyIn_of_seq l (i + 1) _ a' w' (fun j => by have := hl (j + 1); simpa [Nat.add_assoc, Nat.add_comm 1 j] using this) hB.2 h') hw
theorem wpIn_round_tail {id L' : Nat} {Q : Exit → Act → World → Prop} {a : Act} {w : World} {l : List Oper} (n : Nat) (hnd : noDefer l = true) (hm : P.follows .mixedOrders = true) (hB : Region.lexTailB .any l.toArray n = true)
    (h : wpQuiet P l.toArray (fun w' => ∃ p : Regrown, w' = grow (redrawn w p.d) p.os) (fun a' => ∀ w', (∃ p : Regrown, w' = grow (redrawn w p.d) p.os) → wpListIn (Fence.wide.inRound L') 0 P l.toArray Q (l.drop n) a' w') (l.take n) a) : (Code.region id l.toArray true).wpIn (Fence.wide.inRound L') 0 P Q a w := by
  simp only [Region.lexTailB, Bool.and_eq_true, decide_eq_true_eq] at hB
  obtain ⟨⟨⟨⟨hsel, hn⟩, hs⟩, hc⟩, hlex⟩ := hB
  have hn' : n < l.length := by simpa using hn
  have htl : (l.take n).length = n := by simp; omega
  have hdl : (l.drop n).length = l.toArray.size - n := by simp
  have inv0 : HeadInv .any l.toArray n (Array.replicate l.toArray.size false) :=
    ⟨by simp, fun j oj _ hl => (by rw [getD_replicate_false] at hl; cases hl), fun t _ ht => getD_in (by simpa using ht) (getD_replicate_false _ _)⟩
  have H := headQ_lex (P := P) (md := .any) (C := fun w' => ∃ p : Regrown, w' = grow (redrawn w p.d) p.os) (g := l.toArray.size - n) (Lq := fun a' => ∀ w', (∃ p : Regrown, w' = grow (redrawn w p.d) p.os) → wpListIn (Fence.wide.inRound L') 0 P l.toArray Q (l.drop n) a' w') hsel hs hc hn (l.take n) 0 _ a (fun j hj => by
    rw [htl] at hj
    rw [List.getElem?_take, if_pos hj]; simp) (by rw [htl]; simp) inv0 (by rw [htl]; exact hlex) h
  have h2 := wpAnyIn_of_headQ (L' := L') (Q' := Q) (by simpa using hnd) (fun listed a' w' hw' (hL : Region.seqB .any l.toArray (l.toArray.size - n) n listed = true ∧ ∀ w', (∃ p : Regrown, w' = grow (redrawn w p.d) p.os) → wpListIn (Fence.wide.inRound L') 0 P l.toArray Q (l.drop n) a' w') => by
    have := wpAnyIn_of_seq (md := .any) (ops := l.toArray) (Q' := Q) (l.drop n) n listed a' w' (fun j => by simp) (by rw [hdl]; exact hL.1) (hL.2 w' hw')
    rwa [hdl] at this) (l.take n).length _ a _ (⟨⟨w.drawn + 1, #[]⟩, by rw [grow_empty]; rfl⟩ : ∃ p : Regrown, { w with drawn := w.drawn + 1 } = grow (redrawn w p.d) p.os) H
  refine wpIn_region_any hm ?_
  rw [htl, show n + (l.toArray.size - n) = l.toArray.size from by omega] at h2
  exact h2
end
end Go.Proofs.Ytngnplghjaojhaa

/- Made rows, copied onto. No program in sight. -/
namespace Go.Proofs.Ytngnplghjaojhaa
set_option maxRecDepth 100000
set_option maxHeartbeats 2000000
set_option linter.unusedSimpArgs false
open Go.RowKit Go.Sort
set_option linter.unusedVariables false

theorem run_make_el {P : Program} {t e : TypeId} {z : Value} {size bytes : Nat} (T : ElT P t e z size bytes) (n : Nat) (hb : bytes * n ≤ 281474976710656) (h63 : n ≤ 9223372036854775807) (w : World) :
    (Instr.makeSlice t (.int .i64 n) (.int .i64 n)).run P w = .ok (.slice (some ⟨w.heap.size, 0, none⟩) n n) (w.alloc (.cells (madeCells z.cells (n * size)) e)) := by
  obtain ⟨i, hi, hz, hsz, hby⟩ := T.info
  subst hsz hby
  have h1 : (i.bytes : Int) * (n : Int) ≤ 281474976710656 := by
    have : ((i.bytes * n : Nat) : Int) ≤ 281474976710656 := by omega
    rwa [Int.natCast_mul] at this
  have hr := run_make (P := P) w t e i z T.under hi hz .i64 .i64 (n : Int) (n : Int) (by omega) (by omega) h1 (by omega)
  simpa using hr

/-- A row whose cells are known whole. -/
def RowAt (w : World) (g : Nat) (t : TypeId) (xs : List Value) : Prop := w.heap[g]? = some (.cells xs.toArray t (0, 0))
theorem RowAt.lt {w : World} {g : Nat} {t : TypeId} {xs : List Value} (h : RowAt w g t xs) : g < w.heap.size := (Array.getElem?_eq_some_iff.1 h).1
theorem RowAt.kept {w w' : World} {g : Nat} {t : TypeId} {xs : List Value} {row : Option Nat} (h : RowAt w g t xs) (hg : w.grownBy w' row) (hne : row ≠ some g) : RowAt w' g t xs := (hg.block g h.lt (fun e => hne e.symm)).trans h
theorem RowAt.ext {w w' : World} {g : Nat} {t : TypeId} {xs : List Value} (h : RowAt w g t xs) (hx : Ext w w') : RowAt w' g t xs := (hx.block g h.lt).trans h
theorem RowAt.below {B : Nat} {w w' : World} {g : Nat} {t : TypeId} {xs : List Value} (h : RowAt w g t xs) (hx : Below B w w') (hB : g < B) : RowAt w' g t xs := (hx.block g hB).trans h
theorem RowAt.new (w : World) (t : TypeId) (xs : List Value) : RowAt (w.alloc (.cells xs.toArray t)) w.heap.size t xs := World.alloc_heap_new w _
theorem row_at {w : World} {t : TypeId} {xs : List Value} {h : Nat} (hh : w.heap.size = h) : RowAt (w.alloc (.cells xs.toArray t)) h t xs := hh ▸ RowAt.new w t xs
theorem RowAt.cell {w : World} {g : Nat} {t : TypeId} {xs : List Value} (h : RowAt w g t xs) {i : Nat} {v : Value} (hi : xs[i]? = some v) : w.cell? ⟨g, i, none⟩ = some v := by
  simp [World.cell?, show w.heap[g]? = _ from h, hi]
theorem RowAt.frozen {w : World} {g : Nat} {t : TypeId} {xs : List Value} (h : RowAt w g t xs) (i : Nat) : w.frozen? ⟨g, i, none⟩ = false := by simp [World.frozen?, show w.heap[g]? = _ from h]
theorem RowAt.set {w : World} {g : Nat} {t : TypeId} {xs : List Value} (h : RowAt w g t xs) (i : Nat) (v : Value) : RowAt (w.setCell ⟨g, i, none⟩ v) g t (xs.set i v) := by
  obtain ⟨hlt, hk⟩ := Array.getElem?_eq_some_iff.1 h
  show (w.heap.modify g _)[g]? = _
  rw [Array.getElem?_eq_getElem (by rw [Array.size_modify]; exact hlt), Array.getElem_modify_self, hk]
  simp
theorem RowAt.sl {w : World} {g : Nat} {t : TypeId} {xs : List Value} (h : RowAt w g t xs) (n cap : Nat) (hn : n ≤ cap) (hc : cap ≤ maxLen) : Sl w (.slice (some ⟨g, 0, none⟩) n cap) n xs :=
  ⟨_, cap, rfl, hn, hc, fun _ => ⟨g, 0, rfl, fun i u hu => by rw [Nat.zero_add]; exact h.cell hu⟩⟩
theorem RowAt.own {w : World} {g base : Nat} {t : TypeId} {xs : List Value} (h : RowAt w g t xs) (hb : base ≤ g) (hc : xs.length ≤ maxLen) : w.ownsRow base t 1 (.slice (some ⟨g, 0, none⟩) xs.length xs.length) xs.length xs :=
  ⟨by simp, .inr ⟨g, xs.length, xs.toArray, rfl, hb, h, Nat.le_refl _, hc, by simp, by simp⟩⟩
theorem made_toList (z : Value) (n : Nat) (h : z.cells = #[z]) : madeCells z.cells (n * 1) = (List.replicate n z).toArray := by
  rw [h, Nat.mul_one]
  apply Array.ext_getElem?
  intro i
  unfold madeCells
  by_cases hi : i < n <;> simp [hi, Nat.mod_one, Array.getElem?_replicate, List.getElem?_replicate]
theorem grown_set (w : World) (g i : Nat) (v : Value) : w.grownBy (w.setCell ⟨g, i, none⟩ v) (some g) := ⟨rfl, rfl, rfl, by simp [World.setCell], fun k _ hk => Below.heap_setCell _ _ _ k (fun e => hk (by rw [e]))⟩

theorem run_copy_onto {P : Program} {w : World} (dT sT ty : TypeId) {e : TypeId} {z : Value} {bytes : Nat} (T : ElT P dT e z 1 bytes)
    {n g cap : Nat} {u : Value} {xs : List Value} (hu : Sl w u n xs) (hxs : xs.length = n) (h1 : ∀ x ∈ xs, x.oneCell' = true)
    {cur : List Value} {t : TypeId} (hg : RowAt w g t cur) (hcur : cur.length = n) :
    ∃ w', (Builtin.copy_ #[dT, sT] ty #[.slice (some ⟨g, 0, none⟩) n cap, u]).run P w = .ok (goInt n) w' ∧ RowAt w' g t xs ∧ w.grownBy w' (some g) := by
  obtain ⟨sp, sc, rfl, h2, h3, hc⟩ := hu
  obtain ⟨i, hi, hz, hsz, hby⟩ := T.info
  by_cases hp : 0 < xs.length
  · obtain ⟨b, off, rfl, hcell⟩ := hc hp
    refine ⟨_, by
      have := run_copy_row (P := P) w dT sT ty e g 0 n cap ⟨b, off, none⟩ n sc cur.toArray t xs T.under (by rw [hi]; simp [hsz]) hg (by simp [hxs]) (fun j v hj => by rw [addr_add]; exact hcell j v hj) (by simp [hxs, hcur]) h1
      rw [hxs] at this; exact this, ?_, ?_⟩
    · unfold RowAt
      have hlt := hg.lt
      have e1 : cur.toArray.toList.take 0 ++ xs ++ cur.toArray.toList.drop (0 + n) = xs := by simp [List.drop_eq_nil_of_le (show cur.length ≤ n by omega)]
      rw [e1]
      unfold World.setRow
      simp only [Array.getElem?_modify, show w.heap[g]? = _ from hg, if_true, Option.map_some]
    · refine ⟨rfl, rfl, rfl, by simp [World.setRow], fun k _ hk => ?_⟩
      unfold World.setRow
      simp only [Array.getElem?_modify]
      rw [if_neg (fun e => hk (by rw [e]))]
  · have hx0 : xs = [] := List.eq_nil_of_length_eq_zero (by omega)
    subst hx0
    simp at hxs
    subst hxs
    have hc0 : cur = [] := List.eq_nil_of_length_eq_zero hcur
    subst hc0
    exact ⟨w, run_copy_none (P := P) w dT sT ty e _ _ 0 cap 0 sc T.under (by rw [hi]; simp [hsz]) (by simp), hg, ⟨rfl, rfl, rfl, Nat.le_refl _, fun _ _ _ => rfl⟩⟩
theorem own_vw {w : World} {B size n : Nat} {e : TypeId} {v : Value} {xs : List Value} (h : w.ownsRow B e size v n xs) : ∃ a c, v = .slice a n c := by
  obtain ⟨_, c, rfl, _⟩ := Sl.of_own h
  exact ⟨_, c, rfl⟩
theorem own_kept {w w' : World} {base size n : Nat} {e : TypeId} {v : Value} {xs : List Value} {row : Option Nat} (h : w.ownsRow base e size v n xs) (hg : w.grownBy w' row) (hr : ∀ r, row = some r → r < base) : w'.ownsRow base e size v n xs := by
  refine ⟨h.1, ?_⟩
  rcases h.2 with hn | ⟨g, cap, cur, rfl, hbg, hgg, rest⟩
  · exact .inl hn
  · refine .inr ⟨g, cap, cur, rfl, hbg, ?_, rest⟩
    exact (hg.block g (Array.getElem?_eq_some_iff.1 hgg).1 (fun e => by have := hr g e.symm; omega)).trans hgg
theorem keeps_own {w w' : World} {B base size n : Nat} {e : TypeId} {v : Value} {xs : List Value} (h : w.ownsRow base e size v n xs) (hg : w.grownBy w' v.ownBlock) : KeepsFrom B w w' := by
  refine keeps_grown B hg (fun r hr => ?_)
  rcases h.2 with ⟨rfl, _⟩ | ⟨g, cap, cur, rfl, _, hgg, _⟩
  · simp [Value.ownBlock] at hr
  · simp [Value.ownBlock] at hr
    subst hr
    exact ⟨_, hgg, rfl⟩
/-! Steps, to be laid end to end. -/
theorem Ext.via {a b c : World} (k : Ext b c) (h : Ext a b) : Ext a c := h.trans k
theorem Ext.alloc_of {a w : World} (h : Ext a w) (o : Obj) : Ext a (w.alloc o) := h.trans (Ext.alloc w o)
theorem Ext.drewN_of {a w : World} (h : Ext a w) (n : Nat) : Ext a (w.drewN n) := h.trans (Ext.drewN w n)
theorem Ext.drew_of {a w : World} (h : Ext a w) : Ext a w.drew := h.trans (Ext.drewN w 1)
theorem Ext.set_of {a w : World} {b o : Nat} (h : Ext a w) (hb : a.heap.size ≤ b) (v : Value) : Ext a (w.setCell ⟨b, o, none⟩ v) := Below.setCell (p := ⟨b, o, none⟩) h hb v
theorem RowAt.facts2 {w : World} {g : Nat} {t : TypeId} {u0 u1 : Value} (h : RowAt w g t [u0, u1]) : w.cell? ⟨g, 0, none⟩ = some u0 ∧ w.cell? ⟨g, 1, none⟩ = some u1 ∧ w.frozen? ⟨g, 0, none⟩ = false ∧ w.frozen? ⟨g, 1, none⟩ = false := ⟨h.cell (i := 0) rfl, h.cell (i := 1) rfl, h.frozen 0, h.frozen 1⟩
theorem RowAt.facts1 {w : World} {g : Nat} {t : TypeId} {u0 : Value} (h : RowAt w g t [u0]) : w.cell? ⟨g, 0, none⟩ = some u0 ∧ w.frozen? ⟨g, 0, none⟩ = false := ⟨h.cell (i := 0) rfl, h.frozen 0⟩
theorem RowAt.facts3 {w : World} {g : Nat} {t : TypeId} {u0 u1 u2 : Value} (h : RowAt w g t [u0, u1, u2]) : w.cell? ⟨g, 0, none⟩ = some u0 ∧ w.cell? ⟨g, 1, none⟩ = some u1 ∧ w.cell? ⟨g, 2, none⟩ = some u2 ∧ w.frozen? ⟨g, 0, none⟩ = false ∧ w.frozen? ⟨g, 1, none⟩ = false ∧ w.frozen? ⟨g, 2, none⟩ = false :=
  ⟨h.cell (i := 0) rfl, h.cell (i := 1) rfl, h.cell (i := 2) rfl, h.frozen 0, h.frozen 1, h.frozen 2⟩
end Go.Proofs.Ytngnplghjaojhaa
