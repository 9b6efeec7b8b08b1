/- A range over a function, at the wide fence: the statement, and one round. -/
import Derived.Test.YtogoejlbdbapoaaBase
import Derived.RangeFuncNested
import Derived.RangeFuncCalls
import Derived.RangeFuncLeaves
import Derived.OwnWalkIn
import Derived.TacticsInMore
import Derived.LoopNIn
import Derived.LoopIn
import Derived.Shelf.Abstract
namespace Go.Proofs.Ytogoejlbdbapoaa
set_option maxRecDepth 100000
set_option maxHeartbeats 2000000
set_option linter.unusedVariables false
set_option linter.unusedSimpArgs false
open Go.RowKit


theorem wide_fn (f : FuncId) : Fence.wide.fn f = True := rfl
theorem wide_depth : Fence.wide.depth = none := rfl
/-- The loop's record as it lies when a round may begin. -/
def recOf (fn : Nat) (a : Act) (ps : Array Tmp) (assign body : Code) (D : Nat) (st : LoopState) (pe : Option Code) : Loop :=
  { state := st, pending := pe, fn, tmps := a.tmps, params := ps, assign, body, defers := D }

/-- What a range over a function owes when the iterator has returned. -/
def overPost (P : Program) (l : Nat) (Q : Exit → Act → World → Prop) (a' : Act) : Ending → World → Prop := fun e W =>
  ∃ v, e = .returned v ∧ ∃ r : Loop, W.heap[l]? = some (.loop r) ∧ r.state ≠ .busy ∧ ∀ r' : Loop,
    (match r.pending with
     | none => Q .normal a' (W.putObj l (.loop r'))
     | some c => c.wpIn Fence.wide 0 P Q a' (W.putObj l (.loop r')))

/-- The statement: the two blocks are laid, the iterator is called. -/
theorem wp_range {P : Program} {g : Operand} {ps : Array Tmp} {assign body : Code} {Q : Exit → Act → World → Prop} {a : Act} {w : World} {gf : Nat} {lb : Array Value}
    (hg : a.eval g = .func (.func gf) #[] lb) (eg : ∀ args w, (callFunc gf args).run P w = .ok (.enter gf args) w) (D L : Nat) (hD : w.heap.size = D) (hL : D + 1 = L) (args : Array Value) (hargs : #[.func (.yield L) #[] #[]] ++ lb = args)
    (h : ∀ fn W, W = (w.alloc (.deferred (some []))).alloc (.loop (recOf fn a ps assign body D .ready none)) →
      CallsIn Fence.wide 0 P gf args W (overPost P L Q { a with defers := { target := .collected D, args := #[] } :: a.defers })) :
    (Code.rangeFunc g ps assign body).wpIn Fence.wide 0 P Q a w := by
  subst hD hL hargs
  refine wpIn_rangeFunc ?_
  intro fn _
  obtain ⟨W, hW⟩ : ∃ W, W = (w.alloc (.deferred (some []))).alloc (.loop (recOf fn a ps assign body w.heap.size .ready none)) := ⟨_, rfl⟩
  have hc := h fn W hW
  refine ⟨w.heap.size + 1, [{ target := .collected w.heap.size, args := #[] }], W, { target := .fn (.func gf) lb, args := #[.func (.yield (w.heap.size + 1)) #[] #[]] }, W, gf,
    #[.func (.yield (w.heap.size + 1)) #[] #[]] ++ lb, W, ?_, ?_, ?_, ?_, ?_, ?_⟩
  · rw [hW]; exact run_enterLoop_outer _ _ _ _ _
  · simp only [resolve, hg]
    simp [go_sem]
  · intro f' _; trivial
  · simp [invoke, go_sem, eg]
  · intro hd; simp [Fence.wide] at hd
  · refine CallsIn.mono (n := 0) hc ?_
    rintro e W ⟨v, rfl, r, hr, hb, hk⟩
    refine ⟨r.pending, _, run_endLoop hr hb, ?_⟩
    cases hp : r.pending with
    | none => rw [hp] at hk; exact hk _
    | some c => rw [hp] at hk; exact hk _

/-- What a round's body owes. -/
def roundQ (l : Nat) (r : Loop) (R : Ending → World → Prop) : Exit → Act → World → Prop := fun e _ W =>
  W.heap[l]? = some (.loop { r with state := .busy }) ∧
  match e with
  | .normal => R (.returned (.bool true)) (W.putObj l (.loop { r with state := .ready, pending := none }))
  | .ret => R (.returned (.bool false)) (W.putObj l (.loop { r with state := .done, pending := some .ret }))
  | .exit id => R (.returned (.bool false)) (W.putObj l (.loop { r with state := .done, pending := some (.exit id) }))
  | .goto t => R (.returned (.bool false)) (W.putObj l (.loop { r with state := .done, pending := some (.goto t) }))
  | _ => False

/-- One round. -/
theorem yield_round {P : Program} {l : Nat} {r : Loop} {args : Array Value} {W : World} {R : Ending → World → Prop} (hl : W.heap[l]? = some (.loop r)) (hs : args.size = r.params.size) (hst : r.state = .ready)
    (h : r.assign.wpIn (Fence.wide.inRound l) 0 P (Exit.then (fun a₁ w₁ => w₁.heap[l]? = some (.loop r) ∧ r.body.wpIn (Fence.wide.inRound l) 0 P (roundQ l r R) a₁ (w₁.putObj l (.loop { r with state := .busy }))) (fun _ _ _ => False))
      { tmps := (r.params.zip args).foldl (fun tmps (t, a) => tmps.setIfInBounds t a) r.tmps, defers := [] } W) :
    YieldAt Fence.wide 0 P l args W R := by
  refine ⟨r.fn, _, r.assign, r.body, run_yield hl hs, roundIn_of_wpIn trivial (wpIn_mono h ?_)⟩
  rintro e a₁ w₁ hq
  cases e with
  | normal =>
    obtain ⟨h1, h2⟩ := hq
    refine ⟨_, run_beginRound h1 hst, wpIn_mono h2 ?_⟩
    rintro e a₂ w₂ ⟨h3, h4⟩
    cases e with
    | normal => exact ⟨_, _, run_endRound none h3, by simpa using h4⟩
    | ret => exact ⟨_, _, run_endRound (some .ret) h3, by simpa using h4⟩
    | exit id => exact ⟨_, _, run_endRound (some (.exit id)) h3, by simpa using h4⟩
    | goto t => exact ⟨_, _, run_endRound (some (.goto t)) h3, by simpa using h4⟩
    | panic _ => exact h4
    | outgrown => exact h4
  | _ => exact hq

theorem yield_rec {P : Program} {l : Nat} {r : Loop} {args : Array Value} {W : World} {R : Ending → World → Prop} {fn : Nat} {a : Act} {ps : Array Tmp} {assign body : Code} {D : Nat}
    (hr : recOf fn a ps assign body D .ready none = r) (hl : W.heap[l]? = some (.loop r)) (hs : args.size = ps.size)
    (h : assign.wpIn (Fence.wide.inRound l) 0 P (Exit.then (fun a₁ w₁ => w₁.heap[l]? = some (.loop r) ∧ body.wpIn (Fence.wide.inRound l) 0 P (roundQ l r R) a₁ (w₁.putObj l (.loop { r with state := .busy }))) (fun _ _ _ => False))
      { tmps := (ps.zip args).foldl (fun tmps (t, a) => tmps.setIfInBounds t a) a.tmps, defers := [] } W) :
    YieldAt Fence.wide 0 P l args W R := by
  subst hr
  exact yield_round hl hs rfl h
theorem rec_ready {fn : Nat} {a : Act} {ps : Array Tmp} {assign body : Code} {D : Nat} {r : Loop} (hr : recOf fn a ps assign body D .ready none = r) : { r with state := .ready, pending := none } = r := by
  subst hr; rfl

theorem grown_put (W : World) (l : Nat) (o : Obj) : W.grownBy (W.putObj l o) (some l) := grownBy_putObj' W l o
theorem below_put {B : Nat} {w W : World} (h : Below B w W) {l : Nat} (hl : B ≤ l) (o : Obj) : Below B w (W.putObj l o) :=
  h.trans ⟨rfl, rfl, rfl, by simp, fun k hk => World.putObj_heap_other (by omega)⟩

theorem wpListIn_append_sl {F : Fence} {nn : Nat} {P : Program} (w : World) {ops : Array Oper} {rest : List Oper} {o : Oper} {a : Act} {Q : Exit → Act → World → Prop} (hgd : o.guard = none) (s x : Operand) (t : TypeId)
    (ho : o.op = .call { callee := .builtin .append, args := #[s, x], argTypes := #[t, t] })
    {base : Nat} {e : TypeId} {z : Value} {size bytes : Nat} (T : ElT P t e z size bytes) {v : Value} {n : Nat} {xs : List Value} (hs : a.eval s = v) (hown : w.ownsRow base e size v n xs)
    {u : Value} {m : Nat} {news : List Value} (hx : a.eval x = u) (hu : Sl w u m news) (hl : news.length = m * size)
    (h1 : ∀ x ∈ news, x.oneCell' = true) (hb : (n + m) * bytes ≤ 140737488355328) (h63 : n + m ≤ maxLen) (hbase : base ≤ w.heap.size)
    (h : ∀ v' w', w'.ownsRow base e size v' (n + m) (xs ++ news) → Below base w w' → w.grownBy w' v.ownBlock → AppAt v v' w → wpListIn F nn P ops Q rest (a.put o.dst v') w') : wpListIn F nn P ops Q (o :: rest) a w := by
  refine wpListIn_plain hgd fun K hK' => ?_
  obtain ⟨v', w', hrun, h2, h3, _, h5⟩ := run_append_sl (P := P) w (ty := o.type) T hown hu hl h1 hb h63 hbase
  unfold Oper.wpIn
  refine ⟨?_, ?_⟩
  · simp [Oper.about, ho, resolve, Target.leads, Sem.run_pure]
  · rw [Oper.semAt_plain F _ _ (by rw [ho]; intro c hc'; cases hc')]
    simp only [execOp, ho, resolve, invoke, builtin, Sem.run_bind, Sem.run_pure, Result.andThen_ok, List.map_toArray, List.map_cons, List.map_nil, hs, hx, hrun]
    exact hK' _ _ (h v' w' h2 ((Below.refl _ _).grown h3 hbase (own_ge hown)) h3 h5)
end Go.Proofs.Ytogoejlbdbapoaa
