/- A region that draws its order, walked in an order of one's own choice, with forks where two operations that make memory may come first. No program in sight. -/
import Derived.Test.YtngnplghjaojhaaGenX4
namespace Go.Proofs.Ytngnplghjaojhaa
set_option maxRecDepth 100000
set_option maxHeartbeats 2000000
set_option linter.unusedSimpArgs false
open Go.RowKit Go.Sort
set_option linter.unusedVariables false

inductive GroT where
  | nil
  | one (i : Nat) (t : GroT)
  | fork (i : Nat) (t : GroT) (j : Nat) (u : GroT)
def GroT.len : GroT → Nat
  | .nil => 0
  | .one _ t => t.len + 1
  | .fork _ t _ _ => t.len + 1
def GroT.pre : List Nat → GroT → GroT
  | [], t => t
  | i :: r, t => .one i (GroT.pre r t)
def isGrow : Gro → Bool
  | .grow => true
  | _ => false
section
variable {R : World → World → Prop} {P : Program} {md : Region.Mode} {ops : Array Oper} {Q : Exit → Act → World → Prop}
def groTText (md : Region.Mode) (ops : Array Oper) (ks : Nat → Gro) : GroT → Array Bool → Bool
  | .nil, listed => (Region.ready md ops listed).isEmpty
  | .one i t, listed => (Region.ready md ops listed).contains i && ((match ks i with
      | .write => (Region.ready md ops listed).all (fun j => j == i)
      | .grow => (Region.ready md ops listed).all (fun j => j == i)
      | .pure => Region.free md ops listed i
      | .read => Region.free md ops listed i && (List.range ops.size).all (fun j => listed.getD j true || !(ks j).writes || Region.chain md ops 8 listed j i)) && groTText md ops ks t (listed.setIfInBounds i true))
  | .fork i t j u, listed => (Region.ready md ops listed).contains i && ((Region.ready md ops listed).all (fun x => x == i || x == j) && (isGrow (ks i) && (isGrow (ks j) && (decide (t.len = u.len) &&
      (groTText md ops ks t (listed.setIfInBounds i true) && groTText md ops ks u (listed.setIfInBounds j true))))))
/-- One step that makes memory. -/
def stepT (R : World → World → Prop) (P : Program) (ops : Array Oper) (Q : Exit → Act → World → Prop) (i : Nat) (L : Act → World → Prop) (a : Act) (w : World) : Prop := match ops[i]? with
  | none => False
  | some o => if Region.wanted o (yielded ops a.tmps) = true then o.wp P a w (fun a' w' => R w w' ∧ L a' w') Q else L (a.put o.dst undef) w
def groTL (R : World → World → Prop) (P : Program) (ops : Array Oper) (Q : Exit → Act → World → Prop) (ks : Nat → Gro) : GroT → Act → World → Prop
  | .nil, a, w => Q .normal a w
  | .one i t, a, w => match ops[i]? with
    | none => False
    | some o => if Region.wanted o (yielded ops a.tmps) = true then (match ks i with
        | .write => o.wp P a w (groTL R P ops Q ks t) Q
        | .grow => o.wp P a w (fun a' w' => R w w' ∧ groTL R P ops Q ks t a' w') Q
        | .pure => ∃ v, (∀ w', (execOp a.eval o).run P w' = .ok (.value v) w') ∧ groTL R P ops Q ks t (a.put o.dst v) w
        | .read => ∃ v, o.quietAt P a (fun x => x = w) w v ∧ Stays R P o a w v ∧ groTL R P ops Q ks t (a.put o.dst v) w)
      else groTL R P ops Q ks t (a.put o.dst undef) w
  | .fork i t j u, a, w => stepT R P ops Q i (groTL R P ops Q ks t) a w ∧ stepT R P ops Q j (groTL R P ops Q ks u) a w
theorem groU_step [hR : Rel R] {ks : Nat → Gro} {i f : Nat} {listed : Array Bool} {a : Act} {w : World} {L : Act → World → Prop} (hk : isGrow (ks i) = true) (hL : ∀ a w, L a w → groU R P md ops Q ks f (listed.setIfInBounds i true) a w)
    (h : stepT R P ops Q i L a w) : ∃ o, ops[i]? = some o ∧
      ((ks i = .write ∧ opG P ops Q o (groU R P md ops Q ks f (listed.setIfInBounds i true)) a w) ∨
       (ks i = .grow ∧ opG P ops Q o (fun a' w' => R w w' ∧ groU R P md ops Q ks f (listed.setIfInBounds i true) a' w') a w) ∨
      ∃ v, groY R P ops (ks i) o v a w ∧ groU R P md ops Q ks f (listed.setIfInBounds i true) (a.put o.dst v) w) := by
  unfold stepT at h
  split at h
  · exact h.elim
  · rename_i o ho
    have hkg : ks i = .grow := by cases hki : ks i <;> rw [hki] at hk <;> first | rfl | cases hk
    refine ⟨o, ho, .inr (.inl ⟨hkg, ?_⟩)⟩
    unfold opG
    split
    · rename_i hw
      rw [if_pos hw] at h
      exact Oper.wp_mono (fun a' w' h' => ⟨h'.1, hL _ _ h'.2⟩) h
    · rename_i hw
      rw [if_neg hw] at h
      exact ⟨hR.refl _, hL _ _ h⟩
theorem groU_of_groTL [hR : Rel R] {ks : Nat → Gro} (hsel : Region.noSelect ops = true) (hQ : ∀ c a w d v, Q (.panic c) (a.put (some d) v) w → Q (.panic c) a w) :
    ∀ (t : GroT) (listed : Array Bool) (a : Act) (w : World), groTText md ops ks t listed = true → groTL R P ops Q ks t a w → groU R P md ops Q ks t.len listed a w
  | .nil, listed, a, w, hB, h => ⟨by simpa [groTText] using hB, h⟩
  | .fork i t j u, listed, a, w, hB, h => by
    simp only [groTText, Bool.and_eq_true, decide_eq_true_eq] at hB
    obtain ⟨hr, hall, hki, hkj, hlen, hBt, hBu⟩ := hB
    have hr' : i ∈ Region.ready md ops listed := by simpa using hr
    refine ⟨fun h0 => (by rw [h0] at hr'; cases hr'), fun x hx => ?_⟩
    have hx' := List.all_eq_true.1 hall x hx
    simp only [Bool.or_eq_true, beq_iff_eq] at hx'
    rcases hx' with rfl | rfl
    · exact groU_step hki (fun a w h' => groU_of_groTL hsel hQ t _ a w hBt h') h.1
    · exact groU_step hkj (fun a w h' => by rw [hlen]; exact groU_of_groTL hsel hQ u _ a w hBu h') h.2
  | .one i t, listed, a, w, hB, h => by
    have hQ' : ∀ (o : Oper) v c a w, Q (.panic c) (a.put o.dst v) w → Q (.panic c) a w := fun o v c a w => by
      cases o.dst with
      | none => exact id
      | some d => exact hQ c a w d v
    simp only [groTText, Bool.and_eq_true] at hB
    obtain ⟨hr, hk, hB'⟩ := hB
    have hr' : i ∈ Region.ready md ops listed := by simpa using hr
    obtain ⟨hun, o, ho, _⟩ := mem_ready.1 hr'
    have ih := groU_of_groTL (ks := ks) hsel hQ t (listed.setIfInBounds i true)
    simp only [groTL, ho] at h
    have go : ∀ v, groY R P ops (ks i) o v a w → groTL R P ops Q ks t (a.put o.dst v) w → groU R P md ops Q ks (t.len + 1) listed a w := fun v hy hl => by
      have hf : Region.free md ops listed i = true := by
        cases hki : ks i with
        | write => rw [hki] at hy; exact hy.elim
        | grow => rw [hki] at hy; exact hy.elim
        | pure => rw [hki] at hk; exact hk
        | read => rw [hki] at hk; simp only [Bool.and_eq_true] at hk; exact hk.1
      have hread : ks i = .read → ∀ j, j < ops.size → listed.getD j true = false → ks j = .write → Region.chain md ops 8 listed j i = true := fun he j hlt hun hkw => by
        rw [he] at hk
        simp only [Bool.and_eq_true, List.all_eq_true, List.mem_range, Bool.or_eq_true, Bool.not_eq_true'] at hk
        rcases hk.2 j hlt with (h1 | h1) | h1
        · rw [hun] at h1; cases h1
        · rw [hkw] at h1; cases h1
        · exact h1
      exact groU_first ho (Region.noSelect_spec hsel) (fun c a w => hQ' o v c a w) t.len listed a w (Region.free_spec ho hf) hread hr' hy (ih _ _ hB' hl)
    have only : (Region.ready md ops listed).all (fun j => j == i) = true → ∀ j ∈ Region.ready md ops listed, j = i := fun hk j hj => by
      have := List.all_eq_true.1 hk j hj
      simpa using this
    show groU R P md ops Q ks (t.len + 1) listed a w
    cases hki : ks i with
    | write =>
      rw [hki] at hk h
      refine ⟨fun h0 => (by rw [h0] at hr'; cases hr'), fun j hj => ?_⟩
      obtain rfl := only hk j hj
      refine ⟨o, ho, .inl ⟨hki, ?_⟩⟩
      unfold opG
      split
      · rename_i hw
        rw [if_pos hw] at h
        exact Oper.wp_mono (fun a' w' h' => ih a' w' hB' h') h
      · rename_i hw
        rw [if_neg hw] at h
        exact ih _ _ hB' h
    | grow =>
      rw [hki] at hk h
      refine ⟨fun h0 => (by rw [h0] at hr'; cases hr'), fun j hj => ?_⟩
      obtain rfl := only hk j hj
      refine ⟨o, ho, .inr (.inl ⟨hki, ?_⟩)⟩
      unfold opG
      split
      · rename_i hw
        rw [if_pos hw] at h
        exact Oper.wp_mono (fun a' w' h' => ⟨h'.1, ih a' w' hB' h'.2⟩) h
      · rename_i hw
        rw [if_neg hw] at h
        exact ⟨hR.refl _, ih _ _ hB' h⟩
    | pure =>
      rw [hki] at h
      by_cases hw : Region.wanted o (yielded ops a.tmps) = true
      · rw [if_pos hw] at h
        obtain ⟨v, hy, hl⟩ := h
        exact go v (by rw [hki]; exact .inl ⟨hw, hy⟩) hl
      · rw [if_neg hw] at h
        exact go undef (by rw [hki]; exact .inr ⟨by simpa using hw, rfl⟩) h
    | read =>
      rw [hki] at h
      by_cases hw : Region.wanted o (yielded ops a.tmps) = true
      · rw [if_pos hw] at h
        obtain ⟨v, hy, hst, hl⟩ := h
        exact go v (by rw [hki]; exact fun w' hx => .inl ⟨hw, fun w'' hw' => by subst hw'; exact hst _ hx⟩) hl
      · rw [if_neg hw] at h
        exact go undef (by rw [hki]; exact fun w' hx => .inr ⟨by simpa using hw, rfl⟩) h
/-- The walk, closed. -/
structure GroF (P : Program) (ops : Array Oper) (Q : Exit → Act → World → Prop) (ks : Nat → Gro) (t : GroT) (a : Act) (w : World) : Prop where
  out : groTL Ext P ops Q ks t a w
theorem groF_nil {ks : Nat → Gro} {a : Act} {w : World} (h : Q .normal a w) : GroF P ops Q ks .nil a w := ⟨h⟩
theorem groF_pure {ks : Nat → Gro} {i : Nat} {r : GroT} {o : Oper} {a : Act} {w : World} (ho : ops[i]? = some o) (hk : ks i = .pure)
    (h : ∀ K : Act → Prop, (∀ a, GroF P ops Q ks r a w → K a) → if Region.wanted o (yielded ops a.tmps) = true then ∃ v, (∀ w', (execOp a.eval o).run P w' = .ok (.value v) w') ∧ K (a.put o.dst v) else K (a.put o.dst undef)) : GroF P ops Q ks (.one i r) a w := ⟨by
  simp only [groTL, ho, hk]
  exact h _ (fun _ h => h.out)⟩
theorem groF_read {ks : Nat → Gro} {i : Nat} {r : GroT} {o : Oper} {a : Act} {w : World} (ho : ops[i]? = some o) (hk : ks i = .read)
    (h : ∀ (K : Act → Prop) (S : Value → Prop), (∀ v, Stays Ext P o a w v → S v) → (∀ a, GroF P ops Q ks r a w → K a) → if Region.wanted o (yielded ops a.tmps) = true then ∃ v, o.quietAt P a (fun x => x = w) w v ∧ S v ∧ K (a.put o.dst v) else K (a.put o.dst undef)) : GroF P ops Q ks (.one i r) a w := ⟨by
  simp only [groTL, ho, hk]
  exact h _ (Stays Ext P o a w) (fun _ h => h) (fun _ h => h.out)⟩
theorem groF_grow {ks : Nat → Gro} {i : Nat} {r : GroT} {o : Oper} {a : Act} {w : World} (ho : ops[i]? = some o) (hk : ks i = .grow)
    (h : ∀ K : Act → World → Prop, (∀ a w', Ext w w' ∧ GroF P ops Q ks r a w' → K a w') → if Region.wanted o (yielded ops a.tmps) = true then o.wp P a w K Q else K (a.put o.dst undef) w) : GroF P ops Q ks (.one i r) a w := ⟨by
  simp only [groTL, ho, hk]
  have h1 := h (fun a' w' => Ext w w' ∧ groTL Ext P ops Q ks r a' w') (fun _ _ h => ⟨h.1, h.2.out⟩)
  split
  · rename_i hw; rw [if_pos hw] at h1; exact h1
  · rename_i hw; rw [if_neg hw] at h1; exact h1.2⟩
theorem groF_write {ks : Nat → Gro} {i : Nat} {r : GroT} {o : Oper} {a : Act} {w : World} (ho : ops[i]? = some o) (hk : ks i = .write)
    (h : ∀ K : Act → World → Prop, (∀ a w, GroF P ops Q ks r a w → K a w) → if Region.wanted o (yielded ops a.tmps) = true then o.wp P a w K Q else K (a.put o.dst undef) w) : GroF P ops Q ks (.one i r) a w := ⟨by
  simp only [groTL, ho, hk]
  exact h _ (fun _ _ h => h.out)⟩
theorem groF_fork {ks : Nat → Gro} {i j : Nat} {r s : GroT} {o o' : Oper} {a : Act} {w : World} (ho : ops[i]? = some o) (ho' : ops[j]? = some o')
    (h : ∀ K : Act → World → Prop, (∀ a w', Ext w w' ∧ GroF P ops Q ks r a w' → K a w') → if Region.wanted o (yielded ops a.tmps) = true then o.wp P a w K Q else K (a.put o.dst undef) w)
    (h' : ∀ K : Act → World → Prop, (∀ a w', Ext w w' ∧ GroF P ops Q ks s a w' → K a w') → if Region.wanted o' (yielded ops a.tmps) = true then o'.wp P a w K Q else K (a.put o'.dst undef) w) : GroF P ops Q ks (.fork i r j s) a w := ⟨by
  have h1 := h (fun a' w' => Ext w w' ∧ groTL Ext P ops Q ks r a' w') (fun _ _ h => ⟨h.1, h.2.out⟩)
  have h2 := h' (fun a' w' => Ext w w' ∧ groTL Ext P ops Q ks s a' w') (fun _ _ h => ⟨h.1, h.2.out⟩)
  refine ⟨?_, ?_⟩
  · simp only [stepT, ho]
    split
    · rename_i hw; rw [if_pos hw] at h1; exact h1
    · rename_i hw; rw [if_neg hw] at h1; exact h1.2
  · simp only [stepT, ho']
    split
    · rename_i hw; rw [if_pos hw] at h2; exact h2
    · rename_i hw; rw [if_neg hw] at h2; exact h2.2⟩
/-- The law. -/
theorem wp_region_fork {id : Nat} {a : Act} {w : World} {l : List Oper} (ks : Nat → Gro) (t : GroT) (hm : P.follows .mixedOrders = true) (hsel : Region.noSelect l.toArray = true) (hn : t.len = l.length)
    (hB : groTText .any l.toArray ks t (Array.replicate l.toArray.size false) = true) (hQ : ∀ c a w d v, Q (.panic c) (a.put (some d) v) w → Q (.panic c) a w)
    (h : GroF P l.toArray Q ks t a w.drew) : (Code.region id l.toArray true).wp P Q a w := by
  refine wp_region_any hm ?_
  have h1 := wpAny_of_groU _ _ _ _ (groU_of_groTL (md := .any) hsel hQ t _ a _ hB h.out)
  rw [hn] at h1
  simpa using h1
end
end Go.Proofs.Ytngnplghjaojhaa
