/- A region that draws its order: operations that look at no memory, ones that only read (all that write wait for them), and ones that write: one walk, in an order of one's own choice, serves every order. No program in sight. -/
import Derived.Test.YtogoejlbdbapoaaTail
namespace Go.Proofs.Ytogoejlbdbapoaa
set_option maxRecDepth 100000
set_option maxHeartbeats 2000000
set_option linter.unusedSimpArgs false
open Go.RowKit Go.Sort
set_option linter.unusedVariables false

/-- What an operation is. -/
inductive Mix where
  | pure
  | read
  | write
def Mix.writes : Mix → Bool
  | .write => true
  | _ => false

section
variable {P : Program} {md : Region.Mode} {ops : Array Oper} {Q : Exit → Act → World → Prop}

/-- It yields so. -/
def mixY (P : Program) (ops : Array Oper) (k : Mix) (o : Oper) (v : Value) (a : Act) (w : World) : Prop := match k with
  | .pure => Yields P ops o v a
  | .read => YieldsIn P ops (fun x => x = w) o v a
  | .write => False
theorem mixY_same {k : Mix} {o : Oper} {v : Value} {a a' : Act} {w : World} (hy : mixY P ops k o v a w) (he : execOp a'.eval o = execOp a.eval o)
    (hw : Region.wanted o (yielded ops a'.tmps) = Region.wanted o (yielded ops a.tmps)) : mixY P ops k o v a' w := by
  cases k with
  | pure => exact Yields.of_same hy he hw
  | read => exact YieldsIn.of_same hy he hw
  | write => exact hy
theorem mixY_wpOp {k : Mix} {i : Nat} {o : Oper} {v : Value} {a : Act} {w : World} {K : Act → World → Prop} (hi : ops[i]? = some o) (hy : mixY P ops k o v a w) (h : K (a.put o.dst v) w) : wpOp P ops Q i K a w := by
  cases k with
  | pure => exact Yields.wpOp hi hy h
  | read => exact wpOp_of_qOp (C := fun x => x = w) (K := fun a' => K a' w) rfl (fun a' w' hw' h' => by subst hw'; exact h') (YieldsIn.qOp hi hy h)
  | write => exact hy.elim

def mixU (P : Program) (md : Region.Mode) (ops : Array Oper) (Q : Exit → Act → World → Prop) (ks : Nat → Mix) : Nat → Array Bool → Act → World → Prop
  | 0, listed, a, w => Region.ready md ops listed = [] ∧ Q .normal a w
  | f + 1, listed, a, w => (Region.ready md ops listed = [] → Q .normal a w) ∧ ∀ i ∈ Region.ready md ops listed,
      ((ks i).writes = true ∧ wpOp P ops Q i (mixU P md ops Q ks f (listed.setIfInBounds i true)) a w) ∨
      ∃ o v, ops[i]? = some o ∧ mixY P ops (ks i) o v a w ∧ mixU P md ops Q ks f (listed.setIfInBounds i true) (a.put o.dst v) w

theorem wpAny_of_mixU {ks : Nat → Mix} : ∀ (f : Nat) (listed : Array Bool) (a : Act) (w : World), mixU P md ops Q ks f listed a w → wpAny P md ops Q f listed a w
  | 0, _, _, _, h => h
  | f + 1, listed, a, w, h => ⟨h.1, fun i hi => by
      rcases h.2 i hi with ⟨_, h1⟩ | ⟨o, v, ho, hy, h1⟩
      · exact wpOp_mono (fun a' w' h' => wpAny_of_mixU f _ a' w' h') h1
      · exact mixY_wpOp ho hy (wpAny_of_mixU f _ _ _ h1)⟩

/-- All that write, and are still to come, wait for i. -/
def mixWaits (md : Region.Mode) (ops : Array Oper) (ks : Nat → Mix) (listed : Array Bool) (i : Nat) : Bool :=
  (List.range ops.size).all fun j => listed.getD j true || !(ks j).writes || Region.waitsFor md ops j i
def mixBlind (ops : Array Oper) (Q : Exit → Act → World → Prop) : Prop := ∀ c a w, ¬ Q (.panic c) a w

theorem mixU_first {ks : Nat → Mix} {i : Nat} {oi : Oper} {v : Value} (hi : ops[i]? = some oi) (hsel : ∀ (j : Nat) (o : Oper) cs b, ops[j]? = some o → o.op ≠ .select cs b)
    (hQ : ∀ c a w, Q (.panic c) (a.put oi.dst v) w → Q (.panic c) a w) :
    ∀ (f : Nat) (listed : Array Bool) (a : Act) (w : World),
      (∀ j oj, ops[j]? = some oj → j ≠ i → listed.getD j true = false → (∀ e ∈ oj.after, Region.binds md e = true → e.on ≠ i) → oi.apart ops oj = true) →
      (ks i = .read → ∀ j, listed.getD j true = false → (ks j).writes = true → j ∉ Region.ready md ops listed) →
      (ks i = .read → ∀ j, j < ops.size → listed.getD j true = false → (ks j).writes = true → Region.waitsFor md ops j i = true) →
      i ∈ Region.ready md ops listed → mixY P ops (ks i) oi v a w →
      mixU P md ops Q ks f (listed.setIfInBounds i true) (a.put oi.dst v) w → mixU P md ops Q ks (f + 1) listed a w := by
  intro f
  induction f with
  | zero =>
    intro listed a w _ _ _ hr hy H
    refine ⟨fun h => (by rw [h] at hr; cases hr), fun j hj => ?_⟩
    by_cases hji : j = i
    · subst hji; exact .inr ⟨oi, v, hi, hy, H⟩
    · have := ready_mono hj hji
      rw [H.1] at this
      cases this
  | succ f ih =>
    intro listed a w hfree hwr hwt hr hy H
    refine ⟨fun h => (by rw [h] at hr; cases hr), fun j hj => ?_⟩
    by_cases hji : j = i
    · subst hji; exact .inr ⟨oi, v, hi, hy, H⟩
    · obtain ⟨hjun, oj, hoj, hall⟩ := mem_ready.1 hj
      have hnot : ∀ e ∈ oj.after, Region.binds md e = true → e.on ≠ i := fun e he hb heq => by
        have h1 := hall e he hb
        have h0 := (mem_ready.1 hr).1
        rw [heq, getD_both h0] at h1
        cases h1
      have hap := hfree j oj hoj hji hjun hnot
      obtain ⟨q1, q2, q3⟩ := Oper.apart_spec hap
      have hsi := fun cs b => hsel i oi cs b hi
      have hsj := fun cs b => hsel j oj cs b hoj
      have hfree' : ∀ k ok, ops[k]? = some ok → k ≠ i → (listed.setIfInBounds j true).getD k true = false →
          (∀ e ∈ ok.after, Region.binds md e = true → e.on ≠ i) → oi.apart ops ok = true := fun k ok hk hki hun hno => by
        refine hfree k ok hk hki ?_ hno
        by_cases hjk : j = k
        · subst hjk; exact hjun
        · rw [getD_set_ne true hjk] at hun; exact hun
      have hun' : ∀ k, (listed.setIfInBounds j true).getD k true = false → listed.getD k true = false := fun k hun => by
        by_cases hjk : j = k
        · subst hjk; exact hjun
        · rw [getD_set_ne true hjk] at hun; exact hun
      have hwt' : ks i = .read → ∀ k, k < ops.size → (listed.setIfInBounds j true).getD k true = false → (ks k).writes = true → Region.waitsFor md ops k i = true := fun he k hlt hun hk => hwt he k hlt (hun' k hun) hk
      have hir : i ∈ Region.ready md ops (listed.setIfInBounds j true) := ready_mono hr (Ne.symm hji)
      have hwr' : ks i = .read → ∀ k, (listed.setIfInBounds j true).getD k true = false → (ks k).writes = true → k ∉ Region.ready md ops (listed.setIfInBounds j true) := fun he k hun hk hin => by
        obtain ⟨_, ok', hok', hall'⟩ := mem_ready.1 hin
        obtain ⟨ok, hok, e, hee, hb, hon⟩ := Region.waitsFor_spec (hwt' he k (Array.getElem?_eq_some_iff.1 hok').1 hun hk)
        obtain rfl : ok = ok' := Option.some.inj (hok.symm.trans hok')
        have h1 := hall' e hee hb
        rw [hon, getD_both (mem_ready.1 hir).1] at h1
        cases h1
      rcases H.2 j (ready_mono hj hji) with ⟨hk, hw⟩ | ⟨o, u, ho, hyj, hU⟩
      · cases hki : ks i with
        | write => rw [hki] at hy; exact hy.elim
        | read => exact absurd hj (hwr hki j hjun hk)
        | pure =>
          rw [hki] at hy
          refine .inl ⟨hk, ?_⟩
          have h2 := wpOp_put hoj hap hsi hsj hQ hy hw
          refine wpOp_mono (fun a' w' h3 => ih (listed.setIfInBounds j true) a' w' hfree' hwr' hwt' hir (by rw [hki]; exact h3.1) ?_) h2
          rw [Array.setIfInBounds_comm _ _ hji]
          exact h3.2
      · obtain rfl : o = oj := Option.some.inj (ho.symm.trans hoj)
        refine .inr ⟨o, u, ho, mixY_same hyj (execOp_put o hsj a oi.dst v q1).symm (wanted_put o a oi.dst v q1).symm, ?_⟩
        refine ih (listed.setIfInBounds j true) (a.put o.dst u) w hfree' hwr' hwt' hir (mixY_same hy (execOp_put oi hsi a o.dst u q3) (wanted_put oi a o.dst u q3)) ?_
        rw [Array.setIfInBounds_comm _ _ hji, Act.put_comm a v u q2] at *
        exact hU
def mixText (md : Region.Mode) (ops : Array Oper) (ks : Nat → Mix) : List Nat → Array Bool → Bool
  | [], listed => (Region.ready md ops listed).isEmpty
  | i :: r, listed => (Region.ready md ops listed).contains i && ((match ks i with
      | .write => (Region.ready md ops listed).all (fun j => j == i)
      | .pure => Region.free md ops listed i
      | .read => Region.free md ops listed i && (List.range ops.size).all (fun j => listed.getD j true || !(ks j).writes || (Region.waitsFor md ops j i && !(Region.ready md ops listed).contains j))) && mixText md ops ks r (listed.setIfInBounds i true))
/-- The walk. -/
def mixL (P : Program) (ops : Array Oper) (Q : Exit → Act → World → Prop) (ks : Nat → Mix) : List Nat → Act → World → Prop
  | [], a, w => Q .normal a w
  | i :: r, a, w => match ops[i]? with
    | none => False
    | some o => if Region.wanted o (yielded ops a.tmps) = true then (match ks i with
        | .write => o.wp P a w (mixL P ops Q ks r) Q
        | .pure => ∃ v, (∀ w', (execOp a.eval o).run P w' = .ok (.value v) w') ∧ mixL P ops Q ks r (a.put o.dst v) w
        | .read => ∃ v, o.quietAt P a (fun x => x = w) w v ∧ mixL P ops Q ks r (a.put o.dst v) w)
      else mixL P ops Q ks r (a.put o.dst undef) w
theorem mixU_of_mixL {ks : Nat → Mix} (hsel : Region.noSelect ops = true) (hQ : ∀ c a w d v, Q (.panic c) (a.put (some d) v) w → Q (.panic c) a w) :
    ∀ (l : List Nat) (listed : Array Bool) (a : Act) (w : World), mixText md ops ks l listed = true → mixL P ops Q ks l a w → mixU P md ops Q ks l.length listed a w
  | [], listed, a, w, hB, h => ⟨by simpa [mixText] using hB, h⟩
  | i :: r, listed, a, w, hB, h => by
    have hQ' : ∀ (o : Oper) v c a w, Q (.panic c) (a.put o.dst v) w → Q (.panic c) a w := fun o v c a w => by
      cases o.dst with
      | none => exact id
      | some d => exact hQ c a w d v
    simp only [mixText, Bool.and_eq_true] at hB
    obtain ⟨hr, hk, hB'⟩ := hB
    have hr' : i ∈ Region.ready md ops listed := by simpa using hr
    obtain ⟨hun, o, ho, _⟩ := mem_ready.1 hr'
    have ih := mixU_of_mixL (ks := ks) hsel hQ r (listed.setIfInBounds i true)
    simp only [mixL, ho] at h
    have go : ∀ v, (ks i).writes = false → mixY P ops (ks i) o v a w → mixL P ops Q ks r (a.put o.dst v) w → mixU P md ops Q ks (r.length + 1) listed a w := fun v hw hy hl => by
      have hf : Region.free md ops listed i = true := by
        cases hki : ks i with
        | write => rw [hki] at hw; cases hw
        | pure => rw [hki] at hk; exact hk
        | read => rw [hki] at hk; simp only [Bool.and_eq_true] at hk; exact hk.1
      have hread : ks i = .read → ∀ j, j < ops.size → listed.getD j true = false → (ks j).writes = true → Region.waitsFor md ops j i = true ∧ j ∉ Region.ready md ops listed := fun he j hlt hun hkw => by
        rw [he] at hk
        simp only [Bool.and_eq_true, List.all_eq_true, List.mem_range, Bool.or_eq_true, Bool.not_eq_true'] at hk
        rcases hk.2 j hlt with (h1 | h1) | h1
        · rw [hun] at h1; cases h1
        · rw [hkw] at h1; cases h1
        · exact ⟨h1.1, by simpa using h1.2⟩
      exact mixU_first ho (Region.noSelect_spec hsel) (fun c a w => hQ' o v c a w) r.length listed a w (Region.free_spec ho hf) (fun he j hu hkw hin => (hread he j (by obtain ⟨_, o', ho', _⟩ := mem_ready.1 hin; exact (Array.getElem?_eq_some_iff.1 ho').1) hu hkw).2 hin) (fun he j hlt hu hkw => (hread he j hlt hu hkw).1) hr' hy (ih _ _ hB' hl)
    show mixU P md ops Q ks (r.length + 1) listed a w
    cases hki : ks i with
    | write =>
      rw [hki] at hk h
      refine ⟨fun h0 => (by rw [h0] at hr'; cases hr'), fun j hj => ?_⟩
      have := List.all_eq_true.1 hk j hj
      obtain rfl : j = i := by simpa using this
      refine .inl ⟨by rw [hki]; rfl, ?_⟩
      unfold wpOp
      simp only [ho]
      split
      · rename_i hw
        rw [if_pos hw] at h
        exact .inl (Oper.wp_mono (fun a' w' h' => ih a' w' hB' h') h)
      · rename_i hw
        rw [if_neg hw] at h
        exact ih _ _ hB' h
    | pure =>
      rw [hki] at h
      by_cases hw : Region.wanted o (yielded ops a.tmps) = true
      · rw [if_pos hw] at h
        obtain ⟨v, hy, hl⟩ := h
        exact go v (by rw [hki]; rfl) (by rw [hki]; exact .inl ⟨hw, hy⟩) hl
      · rw [if_neg hw] at h
        exact go undef (by rw [hki]; rfl) (by rw [hki]; exact .inr ⟨by simpa using hw, rfl⟩) h
    | read =>
      rw [hki] at h
      by_cases hw : Region.wanted o (yielded ops a.tmps) = true
      · rw [if_pos hw] at h
        obtain ⟨v, hy, hl⟩ := h
        exact go v (by rw [hki]; rfl) (by rw [hki]; exact .inl ⟨hw, fun w' hw' => by subst hw'; exact hy⟩) hl
      · rw [if_neg hw] at h
        exact go undef (by rw [hki]; rfl) (by rw [hki]; exact .inr ⟨by simpa using hw, rfl⟩) h
/-- The law: an order of one's own choice. -/
theorem wp_region_mix {id : Nat} {a : Act} {w : World} {l : List Oper} (ks : Nat → Mix) (ord : List Nat) (hm : P.follows .mixedOrders = true) (hsel : Region.noSelect l.toArray = true) (hn : ord.length = l.length)
    (hB : mixText .any l.toArray ks ord (Array.replicate l.toArray.size false) = true) (hQ : ∀ c a w d v, Q (.panic c) (a.put (some d) v) w → Q (.panic c) a w)
    (h : mixL P l.toArray Q ks ord a w.drew) : (Code.region id l.toArray true).wp P Q a w := by
  refine wp_region_any hm ?_
  have h1 := wpAny_of_mixU _ _ _ _ (mixU_of_mixL (md := .any) hsel hQ ord _ a _ hB h)
  rw [hn] at h1
  simpa using h1
theorem mixL_nil {ks : Nat → Mix} {a : Act} {w : World} (h : Q .normal a w) : mixL P ops Q ks [] a w := h
theorem mixL_pure {ks : Nat → Mix} {i : Nat} {r : List Nat} {o : Oper} {a : Act} {w : World} (ho : ops[i]? = some o) (hk : ks i = .pure)
    (h : ∀ K : Act → Prop, (∀ a, mixL P ops Q ks r a w → K a) → if Region.wanted o (yielded ops a.tmps) = true then ∃ v, (∀ w', (execOp a.eval o).run P w' = .ok (.value v) w') ∧ K (a.put o.dst v) else K (a.put o.dst undef)) : mixL P ops Q ks (i :: r) a w := by
  simp only [mixL, ho, hk]
  exact h _ (fun _ h => h)
theorem mixL_read {ks : Nat → Mix} {i : Nat} {r : List Nat} {o : Oper} {a : Act} {w : World} (ho : ops[i]? = some o) (hk : ks i = .read)
    (h : ∀ K : Act → Prop, (∀ a, mixL P ops Q ks r a w → K a) → if Region.wanted o (yielded ops a.tmps) = true then ∃ v, o.quietAt P a (fun x => x = w) w v ∧ K (a.put o.dst v) else K (a.put o.dst undef)) : mixL P ops Q ks (i :: r) a w := by
  simp only [mixL, ho, hk]
  exact h _ (fun _ h => h)
theorem mixL_write {ks : Nat → Mix} {i : Nat} {r : List Nat} {o : Oper} {a : Act} {w : World} (ho : ops[i]? = some o) (hk : ks i = .write)
    (h : ∀ K : Act → World → Prop, (∀ a w, mixL P ops Q ks r a w → K a w) → if Region.wanted o (yielded ops a.tmps) = true then o.wp P a w K Q else K (a.put o.dst undef) w) : mixL P ops Q ks (i :: r) a w := by
  simp only [mixL, ho, hk]
  exact h _ (fun _ _ h => h)
end
end Go.Proofs.Ytogoejlbdbapoaa
