/- Maps of the call's own, as the row of what they hold. No program in sight. -/
import Derived.Test.YtngnplghjaojhaaGp00
import Derived.MapKept
import Derived.Maps.OwnOps
import Derived.Deep.Fields
import Derived.ChangeSame
import Derived.OpenShut
namespace Go.Proofs.Ytngnplghjaojhaa
set_option maxRecDepth 100000
set_option maxHeartbeats 2000000
set_option linter.unusedSimpArgs false
open Go.RowKit Go.MapKept
set_option linter.unusedVariables false

/-- Block b is a map that holds kv, in the order in which they came. -/
def MapAt (d : TypeDesc) (w : World) (b : Nat) (kv : List (Value × Value)) : Prop :=
  ∃ es clock, w.heap[b]? = some (.map es clock) ∧ Stamped es clock ∧ (∀ x ∈ es.toList, IsKey d x.key) ∧ es.toList.map (fun e => (e.key, e.val)) = kv
theorem MapAt.lt {d : TypeDesc} {w : World} {b : Nat} {kv : List (Value × Value)} (h : MapAt d w b kv) : b < w.heap.size := by
  obtain ⟨_, _, h, _⟩ := h; exact (Array.getElem?_eq_some_iff.1 h).1
theorem MapAt.kept {d : TypeDesc} {w w' : World} {b : Nat} {kv : List (Value × Value)} {row : Option Nat} (h : MapAt d w b kv) (hg : w.grownBy w' row) (hne : row ≠ some b) : MapAt d w' b kv := by
  have hl := h.lt
  obtain ⟨es, c, h1, h2⟩ := h
  exact ⟨es, c, (hg.block b hl (fun e => hne e.symm)).trans h1, h2⟩
theorem MapAt.ext {d : TypeDesc} {w w' : World} {b : Nat} {kv : List (Value × Value)} (h : MapAt d w b kv) (hx : Ext w w') : MapAt d w' b kv := by
  have hl := h.lt
  obtain ⟨es, c, h1, h2⟩ := h
  exact ⟨es, c, (hx.block b hl).trans h1, h2⟩
theorem MapAt.new (d : TypeDesc) (w : World) : MapAt d (w.alloc (.map #[] 0)) w.heap.size [] := ⟨#[], 0, World.alloc_heap_new w _, stamped_empty 0, by simp, rfl⟩
theorem MapAt.nodup {d : TypeDesc} {w : World} {b : Nat} {kv : List (Value × Value)} (h : MapAt d w b kv) : (kv.map (·.1)).Nodup := by
  obtain ⟨es, c, h1, h2, h3, rfl⟩ := h
  have := h2.2.2
  rw [List.map_map]; exact this

section
variable {P : Program} {w : World} {mty kt et : TypeId} {d : TypeDesc} {b : Nat} {kv : List (Value × Value)} {k : Value}
theorem MapAt.find_no (h : MapAt d w b kv) (hk : IsKey d k) (hn : ∀ p ∈ kv, p.1 ≠ k) : ∃ es c, w.heap[b]? = some (.map es c) ∧ Stamped es c ∧ (∀ x ∈ es.toList, IsKey d x.key) ∧ es.toList.map (fun e => (e.key, e.val)) = kv ∧ Instr.findNow d k es.toList 0 = some none ∧ (∀ x ∈ es.toList, x.key ≠ k) := by
  obtain ⟨es, c, h1, h2, h3, h4⟩ := h
  refine ⟨es, c, h1, h2, h3, h4, ?_⟩
  rcases findNow_spec hk es.toList 0 h3 with ⟨h5, h6⟩ | ⟨j, e, h5, h6, h7⟩
  · exact ⟨h5, h6⟩
  · refine absurd h7 (hn (e.key, e.val) ?_)
    rw [← h4]; exact List.mem_map.2 ⟨e, List.mem_of_getElem? h6, rfl⟩
theorem MapAt.find_yes (h : MapAt d w b kv) (hk : IsKey d k) {j : Nat} {v : Value} (hj : kv[j]? = some (k, v)) : ∃ es c e, w.heap[b]? = some (.map es c) ∧ Stamped es c ∧ (∀ x ∈ es.toList, IsKey d x.key) ∧ es.toList.map (fun e => (e.key, e.val)) = kv ∧ Instr.findNow d k es.toList 0 = some (some (j, v)) ∧ es[j]? = some e ∧ e.key = k ∧ e.val = v := by
  have hnd := h.nodup
  obtain ⟨es, c, h1, h2, h3, h4⟩ := h
  have hje : ∃ e, es[j]? = some e ∧ e.key = k ∧ e.val = v := by
    rw [← h4, List.getElem?_map] at hj
    cases he : es.toList[j]? with
    | none => rw [he] at hj; simp at hj
    | some e => rw [he] at hj; simp at hj; exact ⟨e, by simpa using he, hj.1, hj.2⟩
  obtain ⟨e, he, hke, hve⟩ := hje
  refine ⟨es, c, e, h1, h2, h3, h4, ?_, he, hke, hve⟩
  rcases findNow_spec hk es.toList 0 h3 with ⟨h5, h6⟩ | ⟨i, e', h5, h6, h7⟩
  · exact absurd hke (h6 e (by simpa using Array.mem_of_getElem? he))
  · rw [Nat.zero_add] at h5
    have hi : i = j := by
      have hn := h2.2.2
      have h6' : (es.toList.map (·.key))[i]? = some k := by rw [List.getElem?_map, h6]; simp [h7]
      have he' : (es.toList.map (·.key))[j]? = some k := by rw [List.getElem?_map]; simp [he, hke]
      obtain ⟨hi1, hi2⟩ := List.getElem?_eq_some_iff.1 h6'
      obtain ⟨hj1, hj2⟩ := List.getElem?_eq_some_iff.1 he'
      have hp := List.pairwise_iff_getElem.1 hn
      rcases Nat.lt_trichotomy i j with h | h | h
      · exact absurd (hi2.trans hj2.symm) (hp i j hi1 hj1 h)
      · exact h
      · exact absurd (hj2.trans hi2.symm) (hp j i hj1 hi1 h)
    subst hi
    have h6e : es[i]? = some e' := by simpa using h6
    rw [he] at h6e
    cases h6e
    rw [h5, hve]

theorem grown_setBlock (w : World) (b : Nat) (o : Obj) : w.grownBy { w with heap := w.heap.setIfInBounds b o } (some b) :=
  ⟨rfl, rfl, rfl, by simp, fun i _ hi => by
    have : b ≠ i := fun e => hi (by rw [e])
    simp [this]⟩
theorem run_put_new (hm : P.underlying mty = some (.map kt et)) (hd : P.underlying kt = some d) (h : MapAt d w b kv) (hk : IsKey d k) (hn : ∀ p ∈ kv, p.1 ≠ k) (v : Value) :
    ∃ w', (Instr.mapUpdate mty (.map (some b)) k v).run P w = .ok () w' ∧ MapAt d w' b (kv ++ [(k, v)]) ∧ w.grownBy w' (some b) ∧ w'.heap.size = w.heap.size := by
  obtain ⟨es, c, h1, h2, h3, h4, h5, h6⟩ := h.find_no hk hn
  refine ⟨{ w with heap := w.heap.setIfInBounds b (.map (es.push { key := k, val := v, born := c }) (c + 1)) }, by simp [Instr.mapUpdate, run_underlying hm, Go.MapKept.run_getObj_map h1, run_checkKey hd hk, run_findKey hd h5, Go.MapKept.run_setObj_map _ h1, Result.andThen], ⟨_, _, (heap_set h1).1, stamped_push h2 h6, ?_, ?_⟩, grown_setBlock _ _ _, by simp⟩
  · intro x hx
    simp only [Array.toList_push, List.mem_append, List.mem_singleton] at hx
    rcases hx with hx | rfl
    · exact h3 x hx
    · exact hk
  · simp [h4]
theorem run_get_yes (hm : P.underlying mty = some (.map kt et)) (hd : P.underlying kt = some d) (h : MapAt d w b kv) (hk : IsKey d k) {j : Nat} {v : Value} (hj : kv[j]? = some (k, v)) (ok : Bool) :
    (Instr.lookup mty (.map (some b)) k ok).run P w = .ok (if ok then .tuple #[v, .bool true] else v) w := by
  obtain ⟨es, c, e, h1, h2, h3, h4, h5, h6, h7, h8⟩ := h.find_yes hk hj
  simp [Instr.lookup, run_underlying hm, Go.MapKept.run_getObj_map h1, run_checkKey hd hk, run_findKey hd h5, Result.andThen]
theorem run_get_no {z : Value} (hm : P.underlying mty = some (.map kt et)) (hd : P.underlying kt = some d) (h : MapAt d w b kv) (hk : IsKey d k) (hn : ∀ p ∈ kv, p.1 ≠ k) (hz : (zeroValue et).run P w = .ok z w) (ok : Bool) :
    (Instr.lookup mty (.map (some b)) k ok).run P w = .ok (if ok then .tuple #[z, .bool false] else z) w := by
  obtain ⟨es, c, h1, h2, h3, h4, h5, h6⟩ := h.find_no hk hn
  simp [Instr.lookup, run_underlying hm, Go.MapKept.run_getObj_map h1, run_checkKey hd hk, run_findKey hd h5, Result.andThen, hz]
end

section
variable {P : Program} (w : World) {ops : Array Oper} {rest : List Oper} {o : Oper} {a : Act} {Q : Exit → Act → World → Prop} {mty kt et : TypeId} {d : TypeDesc} {b : Nat} {kv : List (Value × Value)} {k v : Value}
theorem wpList_insert_new (hg : o.guard = none) (m x y : Operand) (t : TypeId) (hop : o.op = Op.insert t m x y) (hm : P.underlying t = some (.map kt et)) (hd : P.underlying kt = some d)
    (em : a.eval m = .map (some b)) (ex : a.eval x = k) (ey : a.eval y = v) (h : MapAt d w b kv) (hk : IsKey d k) (hn : ∀ p ∈ kv, p.1 ≠ k)
    (hK : ∀ w', MapAt d w' b (kv ++ [(k, v)]) → w.grownBy w' (some b) → w'.heap.size = w.heap.size → wpList P ops Q rest (a.put o.dst undef) w') : wpList P ops Q (o :: rest) a w := by
  refine wpList_plain hg fun K' hK' => ?_
  obtain ⟨w', hrun, r1, r2, r3⟩ := run_put_new hm hd h hk hn v
  unfold Oper.wp
  simp [execOp, hop, em, ex, ey, hrun, Result.andThen]
  exact hK' _ _ (hK w' r1 r2 r3)
theorem wpList_put_new (hg : o.guard = none) (m x y : Operand) (t : TypeId) (hop : o.op = Op.mapUpdate t m x y) (hm : P.underlying t = some (.map kt et)) (hd : P.underlying kt = some d)
    (em : a.eval m = .map (some b)) (ex : a.eval x = k) (ey : a.eval y = v) (h : MapAt d w b kv) (hk : IsKey d k) (hn : ∀ p ∈ kv, p.1 ≠ k)
    (hK : ∀ w', MapAt d w' b (kv ++ [(k, v)]) → w.grownBy w' (some b) → w'.heap.size = w.heap.size → wpList P ops Q rest (a.put o.dst undef) w') : wpList P ops Q (o :: rest) a w := by
  refine wpList_plain hg fun K' hK' => ?_
  obtain ⟨w', hrun, r1, r2, r3⟩ := run_put_new hm hd h hk hn v
  unfold Oper.wp
  simp [execOp, hop, em, ex, ey, hrun, Result.andThen]
  exact hK' _ _ (hK w' r1 r2 r3)
end
/-- A range's next step, wherever its iterator lies. -/
theorem leftOf_mem {es : Array MapEntry} {seen : Array Nat} {e : MapEntry} : e ∈ (leftOf es seen).toList ↔ e ∈ es.toList ∧ e.born ∉ seen := by
  simp [leftOf]
theorem leftOf_push {es : Array MapEntry} {seen : Array Nat} {e : MapEntry} (h : e ∈ (leftOf es seen).toList) : (leftOf es (seen.push e.born)).size < (leftOf es seen).size := by
  have hs : leftOf es (seen.push e.born) = (leftOf es seen).filter fun x => x.born != e.born := by
    unfold leftOf
    rw [Array.filter_filter]
    congr 1
    funext x
    rw [Bool.eq_iff_iff]; simp [and_comm]
  rw [hs]
  have : ((leftOf es seen).filter fun x => x.born != e.born).size ≠ (leftOf es seen).size := fun hh => by
    have h2 := Array.filter_size_eq_size.1 hh e (by simpa using h)
    simp at h2
  have := Array.size_filter_le (p := fun x : MapEntry => x.born != e.born) (xs := leftOf es seen)
  omega
theorem next_step {P : Program} {w2 wr : World} {I M c : Nat} {seen : Array Nat} {es : Array MapEntry} (hx : Ext w2 wr) (hI : w2.heap.size ≤ I) (h1 : w2.heap[M]? = some (.map es c)) (hst : Stamped es c)
    (hit : wr.heap[I]? = some (.mapIter (some M) c seen c)) :
    ((leftOf es seen).size = 0 ∧ ∀ ty, (Instr.next (.pointer (some ⟨I, 0, none⟩)) false ty).run P wr = .ok (.tuple #[.bool false]) wr) ∨
    ∃ e W, e ∈ (leftOf es seen).toList ∧ (∀ ty, (Instr.next (.pointer (some ⟨I, 0, none⟩)) false ty).run P wr = .ok (.tuple #[.bool true, e.key, e.val]) W) ∧ Ext w2 W ∧ W.heap[I]? = some (.mapIter (some M) c (seen.push e.born) c) ∧
      (Instr.entry (.pointer (some ⟨I, 0, none⟩))).run P W = .ok (.tuple #[e.key, e.val]) W := by
  have hM := (Array.getElem?_eq_some_iff.1 h1).1
  have hIr := (Array.getElem?_eq_some_iff.1 hit).1
  have hm := (hx.block M hM).trans h1
  rcases run_next_at (P := P) wr 0 I M c c seen es c hit hm hst.1 (Nat.le_refl _) with h | ⟨e, he, w1, hw1, hrun⟩
  · exact .inl ⟨h.1, fun _ => h.2⟩
  · have hx1 : Ext w2 w1 := by rcases hw1 with rfl | rfl; exact hx; exact hx.trans (Ext.drewN _ 1)
    have hs1 : I < w1.heap.size := by rcases hw1 with rfl | rfl <;> exact hIr
    have hxW : Ext w2 (Go.ChangeMaps.setBlock w1 I (.mapIter (some M) c (seen.push e.born) c)) := by
      refine below_grown hx1 (row := some I) ?_ hx1.size (fun k hk => by cases hk; exact hI)
      exact grown_setBlock w1 I _
    have hIW : (Go.ChangeMaps.setBlock w1 I (.mapIter (some M) c (seen.push e.born) c)).heap[I]? = some (.mapIter (some M) c (seen.push e.born) c) := by
      show (w1.heap.setIfInBounds I _)[I]? = _
      simp [hs1]
    exact .inr ⟨e, _, he, fun _ => hrun, hxW, hIW, run_entry_at _ I M c seen es c e hIW ((hxW.block M hM).trans h1) (leftOf_mem.1 he).1 hst.2.1⟩
theorem isKey_i64 (a : Int) : IsKey (.int .i64) (.int .i64 a) := rfl
theorem isKey_str (s : ByteArray) : IsKey .string (.string s) := trivial
def keyNe : Value → Value → Bool
  | .int k a, .int k' b => k == k' && a != b
  | .string a, .string b => !decide (a = b)
  | _, _ => false
theorem keyNe_ne {a b : Value} (h : keyNe a b = true) : a ≠ b := by
  rintro rfl
  cases a <;> simp [keyNe] at h
theorem notIn {kv : List (Value × Value)} {k : Value} (h : kv.all (fun p => keyNe p.1 k) = true) : ∀ p ∈ kv, p.1 ≠ k := fun p hp => keyNe_ne (List.all_eq_true.1 h p hp)
end Go.Proofs.Ytngnplghjaojhaa

/- A range over a function, whose iterator wants of the world what Inv says. No program in sight. -/
namespace Go.Proofs.Ytngnplghjaojhaa
set_option maxRecDepth 100000
set_option maxHeartbeats 2000000
set_option linter.unusedVariables false
set_option linter.unusedSimpArgs false
open Go.RowKit Go.Sort

/-- An iterator's contract: it calls yield with N rows of arguments, one behind the other; it stops where yield says so. -/
def IterI (P : Program) (gf : Nat) (lb : Array Value) (Inv : World → Prop) (N : Nat) (Enc : Nat → World → Array Value → Prop) : Prop :=
  ∀ (L : Nat) (W : World) (J : Nat → World → Prop) (Js : World → Prop),
    (∀ k W, J k W → Inv W) → (∀ k W W', J k W → Ext W W' → J k W') → (∀ W W', Js W → Ext W W' → Js W') →
    (∀ k args W, k < N → J k W → Enc k W args → YieldAt Fence.wide 0 P L args W fun e W' => (e = .returned (.bool true) ∧ J (k + 1) W') ∨ (e = .returned (.bool false) ∧ Js W')) →
    J 0 W →
    CallsIn Fence.wide 0 P gf (#[.func (.yield L) #[] #[]] ++ lb) W fun e W' => (∃ v, e = .returned v) ∧ (J N W' ∨ Js W')

theorem wp_overI {P : Program} {g : Operand} {ps : Array Tmp} {assign body : Code} {Q : Exit → Act → World → Prop} {a : Act} {w : World} {gf : Nat} {lb : Array Value} {Inv : World → Prop} {N : Nat} {Enc : Nat → World → Array Value → Prop}
    (hg : a.eval g = .func (.func gf) #[] lb) (eg : ∀ args w, (callFunc gf args).run P w = .ok (.enter gf args) w) (hit : IterI P gf lb Inv N Enc)
    (hsz : ∀ k W args, Enc k W args → args.size = ps.size) (hEnc : ∀ k args, Stab w.heap.size (fun W => Enc k W args))
    (I : Nat → World → Prop) (Ix : Code → World → Prop) (hI : ∀ k, Stab w.heap.size (I k)) (hIx : ∀ c, Stab w.heap.size (Ix c))
    (hb : ∀ k W, I k W → Inv W) (h0 : I 0 w)
    (hround : ∀ k args W L, k < N → w.heap.size < L → I k W → Enc k W args →
      assign.wpIn (Fence.wide.inRound L) 0 P (Exit.then (fun a₁ W₁ => KeepsFrom w.heap.size W W₁ ∧ I k W₁ ∧ Enc k W₁ args ∧ ∀ W₂, (∀ J : World → Prop, Stab w.heap.size J → J W₁ → J W₂) → I k W₂ → Enc k W₂ args → body.wpIn (Fence.wide.inRound L) 0 P (overQ w.heap.size I Ix k W₂) a₁ W₂) (fun _ _ _ => False))
        { tmps := (ps.zip args).foldl (fun tmps (t, a) => tmps.setIfInBounds t a) a.tmps, defers := [] } W)
    (hdone : ∀ D W, w.heap.size ≤ D → I N W → W.heap[D]? = some (.deferred (some [])) → Q .normal { a with defers := { target := .collected D, args := #[] } :: a.defers } W)
    (hstop : ∀ D c W, w.heap.size ≤ D → Ix c W → W.heap[D]? = some (.deferred (some [])) → c.wp P Q { a with defers := { target := .collected D, args := #[] } :: a.defers } W) :
    (Code.rangeFunc g ps assign body).wp P Q a w := by
  refine (wpIn_wide (n := 0)).1 ?_
  refine wp_range hg eg w.heap.size (w.heap.size + 1) rfl rfl _ rfl ?_
  intro fn W hW
  have hr0 : ∀ st pe, ({ recOf fn a ps assign body w.heap.size .ready none with state := st, pending := pe } : Loop) = recOf fn a ps assign body w.heap.size st pe := fun _ _ => rfl
  generalize hr : recOf fn a ps assign body w.heap.size .ready none = r at hW
  have hrd : r.state = .ready ∧ r.pending = none := by subst hr; exact ⟨rfl, rfl⟩
  have hL0 : W.heap[w.heap.size + 1]? = some (.loop r) := by
    subst hW
    have := World.alloc_heap_new (w.alloc (.deferred (some []))) (.loop r)
    rwa [World.size_alloc] at this
  have hD0 : W.heap[w.heap.size]? = some (.deferred (some [])) := by
    subst hW
    rw [Below.heap_alloc _ _ _ (by simp)]
    exact World.alloc_heap_new w _
  have hI0 : I 0 W := by
    subst hW
    exact (hI 0).ext ((hI 0).ext h0 (Ext.alloc _ _)) (Ext.alloc _ _)
  have hx := hit (w.heap.size + 1) W (fun k W => W.heap[w.heap.size + 1]? = some (.loop r) ∧ W.heap[w.heap.size]? = some (.deferred (some [])) ∧ I k W)
    (fun W => ∃ c, W.heap[w.heap.size + 1]? = some (.loop { r with state := .done, pending := some c }) ∧ W.heap[w.heap.size]? = some (.deferred (some [])) ∧ Ix c W)
    (fun k W h => hb k W h.2.2)
    (fun k W W' ⟨h1, h2, h3⟩ hx => ⟨(hx.block _ (Array.getElem?_eq_some_iff.1 h1).1).trans h1, (hx.block _ (Array.getElem?_eq_some_iff.1 h2).1).trans h2, (hI k).ext h3 hx⟩)
    (fun W W' ⟨c, h1, h2, h3⟩ hx => ⟨c, (hx.block _ (Array.getElem?_eq_some_iff.1 h1).1).trans h1, (hx.block _ (Array.getElem?_eq_some_iff.1 h2).1).trans h2, (hIx c).ext h3 hx⟩)
    ?_ ⟨hL0, hD0, hI0⟩
  · refine CallsIn.mono (n := 0) hx ?_
    rintro e W' ⟨⟨v, rfl⟩, h | h⟩
    · obtain ⟨h1, h2, h3⟩ := h
      refine ⟨v, rfl, r, h1, by rw [hrd.1]; decide, fun r' => ?_⟩
      rw [hrd.2]
      exact hdone _ _ (Nat.le_refl _) ((hI N).put h3 h1 rfl (by omega) _) ((World.putObj_heap_other (by omega)).trans h2)
    · obtain ⟨c, h1, h2, h3⟩ := h
      refine ⟨v, rfl, _, h1, by simp, fun r' => ?_⟩
      simp only []
      exact wpIn_wide.2 (hstop _ c _ (Nat.le_refl _) ((hIx c).put h3 h1 rfl (by omega) _) ((World.putObj_heap_other (by omega)).trans h2))
  · rintro k args W1 hk ⟨h1, h2, h3⟩ he
    refine yield_rec hr h1 (hsz k W1 args he) ?_
    refine wpIn_mono (hround k args W1 (w.heap.size + 1) hk (by omega) h3 he) ?_
    rintro ex a₁ W₁ hq
    cases ex with
    | normal =>
      obtain ⟨q1, q2, q2', q3⟩ := hq
      have h1' := q1.same _ _ (by omega) h1 rfl
      have h2' := q1.same _ _ (by omega) h2 rfl
      refine ⟨h1', ?_⟩
      refine wpIn_mono (q3 (W₁.putObj (w.heap.size + 1) (.loop { r with state := .busy })) (fun J hJ hj => hJ.put hj h1' rfl (by omega) _) ((hI k).put q2 h1' rfl (by omega) _) ((hEnc k args).put q2' h1' rfl (by omega) _)) ?_
      rintro ex a₂ W₂ ⟨hK, hq⟩
      have h1'' := hK.same _ _ (by omega) (World.putObj_heap_same (Array.getElem?_eq_some_iff.1 h1').1) rfl
      have h2'' := hK.same _ _ (by omega) ((World.putObj_heap_other (by omega)).trans h2') rfl
      have hlt := (Array.getElem?_eq_some_iff.1 h1'').1
      refine ⟨h1'', ?_⟩
      cases ex with
      | normal =>
        refine .inl ⟨rfl, World.putObj_heap_same hlt |>.trans (by rw [rec_ready hr]), (World.putObj_heap_other (by omega)).trans h2'', (hI (k + 1)).put hq h1'' rfl (by omega) _⟩
      | ret => exact .inr ⟨rfl, .ret, World.putObj_heap_same hlt, (World.putObj_heap_other (by omega)).trans h2'', (hIx _).put hq h1'' rfl (by omega) _⟩
      | exit id => exact .inr ⟨rfl, .exit id, World.putObj_heap_same hlt, (World.putObj_heap_other (by omega)).trans h2'', (hIx _).put hq h1'' rfl (by omega) _⟩
      | goto t => exact .inr ⟨rfl, .goto t, World.putObj_heap_same hlt, (World.putObj_heap_other (by omega)).trans h2'', (hIx _).put hq h1'' rfl (by omega) _⟩
      | panic c => exact hq
      | outgrown => exact hq
    | _ => exact hq

end Go.Proofs.Ytngnplghjaojhaa

/- Rows of structs in memory. -/
namespace Go.Proofs.Ytngnplghjaojhaa
set_option maxRecDepth 100000
set_option maxHeartbeats 2000000
set_option linter.unusedVariables false
set_option linter.unusedSimpArgs false
open Go.RowKit Go.ChangeShapes Go.WideShapes Go.Deep

theorem flatMap_at {α : Type} (f : α → List Value) (m : Nat) (hf : ∀ x, (f x).length = m) (l : List α) (k i : Nat) (hk : k < l.length) (hi : i < m) : (l.flatMap f)[k * m + i]? = (f l[k])[i]? := by
  induction l generalizing k with
  | nil => simp at hk
  | cons x l ih =>
    rw [List.flatMap_cons]
    cases k with
    | zero => rw [List.getElem?_append_left (by rw [hf]; omega)]; simp
    | succ k =>
      rw [List.getElem?_append_right (by rw [hf, Nat.add_mul]; omega), hf, show (k + 1) * m + i - m = k * m + i from by rw [Nat.add_mul]; omega]
      rw [ih k (by simpa using hk)]
      simp
theorem flatMap_len {α : Type} (f : α → List Value) (m : Nat) (hf : ∀ x, (f x).length = m) (l : List α) : (l.flatMap f).length = l.length * m := by
  induction l with
  | nil => simp
  | cons x l ih => rw [List.flatMap_cons, List.length_append, hf, ih, List.length_cons, Nat.add_mul]; omega

section
variable {H : Type} {enc : TypeId × Value → H} {P : Program} {w : World} {base : Nat} {spare : Nat → Bool} {held : Bool}
end
/-- What each of n is, as a row. -/
theorem choose_row {α : Type} (n : Nat) (Q : Nat → α → Prop) (h : ∀ i, i < n → ∃ x, Q i x) : ∃ xs : List α, xs.length = n ∧ ∀ i (hi : i < xs.length), Q i xs[i] := by
  induction n with
  | zero => exact ⟨[], rfl, fun i hi => by simp at hi⟩
  | succ n ih =>
    obtain ⟨xs, h1, h2⟩ := ih (fun i hi => h i (by omega))
    obtain ⟨x, hx⟩ := h n (by omega)
    refine ⟨xs ++ [x], by simp [h1], fun i hi => ?_⟩
    by_cases hin : i < xs.length
    · rw [List.getElem_append_left hin]; exact h2 i hin
    · have : i = n := by simp at hi; omega
      subst this
      rw [List.getElem_append_right (by omega)]; simpa [h1] using hx
/-- A view of structs of m one-cell fields, from what each field reads as. -/
theorem sl_of_rows {α : Type} {w : World} {x : Addr} {len cap m : Nat} (f : α → List Value) (hf : ∀ y, (f y).length = m) (hm0 : 0 < m) (hl : len ≤ cap) (hc : cap ≤ maxLen) (xs : List α) (hx : xs.length = len)
    (h : ∀ i (hi : i < xs.length) j v, (f xs[i])[j]? = some v → w.cell? (x.add (i * m + j)) = some v) : Sl w (.slice (some x) len cap) len (xs.flatMap f) := by
  refine ⟨_, cap, rfl, hl, hc, fun hp => ?_⟩
  have hlen := flatMap_len f m hf xs
  have hx0 : 0 < xs.length := by
    rcases Nat.eq_zero_or_pos xs.length with h0 | h0
    · rw [hlen, h0] at hp; simp at hp
    · exact h0
  obtain ⟨b, o, spot⟩ := x
  have hs : spot = none := by
    have h00 : (f xs[0])[0]? = some ((f xs[0])[0]'(by rw [hf]; exact hm0)) := List.getElem?_eq_getElem _
    have := h 0 hx0 0 _ h00
    simpa [Addr.add] using World.cell?_spot this
  subst hs
  refine ⟨b, o, rfl, fun i u hu => ?_⟩
  have hi : i < xs.length * m := by rw [← hlen]; exact (List.getElem?_eq_some_iff.1 hu).1
  have hk : i / m < xs.length := Nat.div_lt_of_lt_mul (by rw [Nat.mul_comm]; exact hi)
  have hr : i % m < m := Nat.mod_lt _ hm0
  have hdm : i = i / m * m + i % m := by rw [Nat.mul_comm]; exact (Nat.div_add_mod i m).symm
  have hat := flatMap_at f m hf xs (i / m) (i % m) hk hr
  rw [← hdm] at hat
  have := h _ hk (i % m) u (by rw [← hat]; exact hu)
  rw [addr_add, ← hdm] at this
  exact this
end Go.Proofs.Ytngnplghjaojhaa

/- A region that draws its order: operations that look at no memory, ones that only read (all that write wait for them), and ones that write: one walk, in an order of one's own choice, serves every order. No program in sight. -/
namespace Go.Proofs.Ytngnplghjaojhaa
set_option maxRecDepth 100000
set_option maxHeartbeats 2000000
set_option linter.unusedSimpArgs false
open Go.RowKit Go.Sort
set_option linter.unusedVariables false

section
variable {P : Program} {md : Region.Mode} {ops : Array Oper} {Q : Exit → Act → World → Prop}

end
end Go.Proofs.Ytngnplghjaojhaa
