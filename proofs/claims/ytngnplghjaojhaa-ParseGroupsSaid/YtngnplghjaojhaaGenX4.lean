/- A region that draws its order: operations that look at no memory, ones that only read (all that write wait for them), and ones that write: one walk, in an order of one's own choice, serves every order. No program in sight. -/
import Derived.Test.YtngnplghjaojhaaGenX2
import Derived.Test.YtngnplghjaojhaaGenX3
import Derived.Laws.Tables
import Derived.Laws.Rows
import Derived.Deep.MidRow
namespace Go.Proofs.Ytngnplghjaojhaa
set_option maxRecDepth 100000
set_option maxHeartbeats 2000000
set_option linter.unusedSimpArgs false
open Go.RowKit Go.Sort
set_option linter.unusedVariables false

/-- What an operation is. -/
inductive Mix where
  | pure
  | read
  | write
def Mix.writes : Mix → Bool
  | .write => true
  | _ => false

section
variable {P : Program} {md : Region.Mode} {ops : Array Oper} {Q : Exit → Act → World → Prop}

/-- It yields so. -/
def mixY (P : Program) (ops : Array Oper) (k : Mix) (o : Oper) (v : Value) (a : Act) (w : World) : Prop := match k with
  | .pure => Yields P ops o v a
  | .read => YieldsIn P ops (fun x => x = w) o v a
  | .write => False
theorem mixY_same {k : Mix} {o : Oper} {v : Value} {a a' : Act} {w : World} (hy : mixY P ops k o v a w) (he : execOp a'.eval o = execOp a.eval o)
    (hw : Region.wanted o (yielded ops a'.tmps) = Region.wanted o (yielded ops a.tmps)) : mixY P ops k o v a' w := by
  cases k with
  | pure => exact Yields.of_same hy he hw
  | read => exact YieldsIn.of_same hy he hw
  | write => exact hy
theorem mixY_wpOp {k : Mix} {i : Nat} {o : Oper} {v : Value} {a : Act} {w : World} {K : Act → World → Prop} (hi : ops[i]? = some o) (hy : mixY P ops k o v a w) (h : K (a.put o.dst v) w) : wpOp P ops Q i K a w := by
  cases k with
  | pure => exact Yields.wpOp hi hy h
  | read => exact wpOp_of_qOp (C := fun x => x = w) (K := fun a' => K a' w) rfl (fun a' w' hw' h' => by subst hw'; exact h') (YieldsIn.qOp hi hy h)
  | write => exact hy.elim

def mixU (P : Program) (md : Region.Mode) (ops : Array Oper) (Q : Exit → Act → World → Prop) (ks : Nat → Mix) : Nat → Array Bool → Act → World → Prop
  | 0, listed, a, w => Region.ready md ops listed = [] ∧ Q .normal a w
  | f + 1, listed, a, w => (Region.ready md ops listed = [] → Q .normal a w) ∧ ∀ i ∈ Region.ready md ops listed,
      ((ks i).writes = true ∧ wpOp P ops Q i (mixU P md ops Q ks f (listed.setIfInBounds i true)) a w) ∨
      ∃ o v, ops[i]? = some o ∧ mixY P ops (ks i) o v a w ∧ mixU P md ops Q ks f (listed.setIfInBounds i true) (a.put o.dst v) w

theorem wpAny_of_mixU {ks : Nat → Mix} : ∀ (f : Nat) (listed : Array Bool) (a : Act) (w : World), mixU P md ops Q ks f listed a w → wpAny P md ops Q f listed a w
  | 0, _, _, _, h => h
  | f + 1, listed, a, w, h => ⟨h.1, fun i hi => by
      rcases h.2 i hi with ⟨_, h1⟩ | ⟨o, v, ho, hy, h1⟩
      · exact wpOp_mono (fun a' w' h' => wpAny_of_mixU f _ a' w' h') h1
      · exact mixY_wpOp ho hy (wpAny_of_mixU f _ _ _ h1)⟩

/-- All that write, and are still to come, wait for i. -/
def mixWaits (md : Region.Mode) (ops : Array Oper) (ks : Nat → Mix) (listed : Array Bool) (i : Nat) : Bool :=
  (List.range ops.size).all fun j => listed.getD j true || !(ks j).writes || Region.waitsFor md ops j i
def mixBlind (ops : Array Oper) (Q : Exit → Act → World → Prop) : Prop := ∀ c a w, ¬ Q (.panic c) a w

theorem mixU_first {ks : Nat → Mix} {i : Nat} {oi : Oper} {v : Value} (hi : ops[i]? = some oi) (hsel : ∀ (j : Nat) (o : Oper) cs b, ops[j]? = some o → o.op ≠ .select cs b)
    (hQ : ∀ c a w, Q (.panic c) (a.put oi.dst v) w → Q (.panic c) a w) :
    ∀ (f : Nat) (listed : Array Bool) (a : Act) (w : World),
      (∀ j oj, ops[j]? = some oj → j ≠ i → listed.getD j true = false → (∀ e ∈ oj.after, Region.binds md e = true → e.on ≠ i) → oi.apart ops oj = true) →
      (ks i = .read → ∀ j, listed.getD j true = false → (ks j).writes = true → j ∉ Region.ready md ops listed) →
      (ks i = .read → ∀ j, j < ops.size → listed.getD j true = false → (ks j).writes = true → Region.waitsFor md ops j i = true) →
      i ∈ Region.ready md ops listed → mixY P ops (ks i) oi v a w →
      mixU P md ops Q ks f (listed.setIfInBounds i true) (a.put oi.dst v) w → mixU P md ops Q ks (f + 1) listed a w := by
  intro f
  induction f with
  | zero =>
    intro listed a w _ _ _ hr hy H
    refine ⟨fun h => (by rw [h] at hr; cases hr), fun j hj => ?_⟩
    by_cases hji : j = i
    · subst hji; exact .inr ⟨oi, v, hi, hy, H⟩
    · have := ready_mono hj hji
      rw [H.1] at this
      cases this
  | succ f ih =>
    intro listed a w hfree hwr hwt hr hy H
    refine ⟨fun h => (by rw [h] at hr; cases hr), fun j hj => ?_⟩
    by_cases hji : j = i
    · subst hji; exact .inr ⟨oi, v, hi, hy, H⟩
    · obtain ⟨hjun, oj, hoj, hall⟩ := mem_ready.1 hj
      have hnot : ∀ e ∈ oj.after, Region.binds md e = true → e.on ≠ i := fun e he hb heq => by
        have h1 := hall e he hb
        have h0 := (mem_ready.1 hr).1
        rw [heq, getD_both h0] at h1
        cases h1
      have hap := hfree j oj hoj hji hjun hnot
      obtain ⟨q1, q2, q3⟩ := Oper.apart_spec hap
      have hsi := fun cs b => hsel i oi cs b hi
      have hsj := fun cs b => hsel j oj cs b hoj
      have hfree' : ∀ k ok, ops[k]? = some ok → k ≠ i → (listed.setIfInBounds j true).getD k true = false →
          (∀ e ∈ ok.after, Region.binds md e = true → e.on ≠ i) → oi.apart ops ok = true := fun k ok hk hki hun hno => by
        refine hfree k ok hk hki ?_ hno
        by_cases hjk : j = k
        · subst hjk; exact hjun
        · rw [getD_set_ne true hjk] at hun; exact hun
      have hun' : ∀ k, (listed.setIfInBounds j true).getD k true = false → listed.getD k true = false := fun k hun => by
        by_cases hjk : j = k
        · subst hjk; exact hjun
        · rw [getD_set_ne true hjk] at hun; exact hun
      have hwt' : ks i = .read → ∀ k, k < ops.size → (listed.setIfInBounds j true).getD k true = false → (ks k).writes = true → Region.waitsFor md ops k i = true := fun he k hlt hun hk => hwt he k hlt (hun' k hun) hk
      have hir : i ∈ Region.ready md ops (listed.setIfInBounds j true) := ready_mono hr (Ne.symm hji)
      have hwr' : ks i = .read → ∀ k, (listed.setIfInBounds j true).getD k true = false → (ks k).writes = true → k ∉ Region.ready md ops (listed.setIfInBounds j true) := fun he k hun hk hin => by
        obtain ⟨_, ok', hok', hall'⟩ := mem_ready.1 hin
        obtain ⟨ok, hok, e, hee, hb, hon⟩ := Region.waitsFor_spec (hwt' he k (Array.getElem?_eq_some_iff.1 hok').1 hun hk)
        obtain rfl : ok = ok' := Option.some.inj (hok.symm.trans hok')
        have h1 := hall' e hee hb
        rw [hon, getD_both (mem_ready.1 hir).1] at h1
        cases h1
      rcases H.2 j (ready_mono hj hji) with ⟨hk, hw⟩ | ⟨o, u, ho, hyj, hU⟩
      · cases hki : ks i with
        | write => rw [hki] at hy; exact hy.elim
        | read => exact absurd hj (hwr hki j hjun hk)
        | pure =>
          rw [hki] at hy
          refine .inl ⟨hk, ?_⟩
          have h2 := wpOp_put hoj hap hsi hsj hQ hy hw
          refine wpOp_mono (fun a' w' h3 => ih (listed.setIfInBounds j true) a' w' hfree' hwr' hwt' hir (by rw [hki]; exact h3.1) ?_) h2
          rw [Array.setIfInBounds_comm _ _ hji]
          exact h3.2
      · obtain rfl : o = oj := Option.some.inj (ho.symm.trans hoj)
        refine .inr ⟨o, u, ho, mixY_same hyj (execOp_put o hsj a oi.dst v q1).symm (wanted_put o a oi.dst v q1).symm, ?_⟩
        refine ih (listed.setIfInBounds j true) (a.put o.dst u) w hfree' hwr' hwt' hir (mixY_same hy (execOp_put oi hsi a o.dst u q3) (wanted_put oi a o.dst u q3)) ?_
        rw [Array.setIfInBounds_comm _ _ hji, Act.put_comm a v u q2] at *
        exact hU
def mixText (md : Region.Mode) (ops : Array Oper) (ks : Nat → Mix) : List Nat → Array Bool → Bool
  | [], listed => (Region.ready md ops listed).isEmpty
  | i :: r, listed => (Region.ready md ops listed).contains i && ((match ks i with
      | .write => (Region.ready md ops listed).all (fun j => j == i)
      | .pure => Region.free md ops listed i
      | .read => Region.free md ops listed i && (List.range ops.size).all (fun j => listed.getD j true || !(ks j).writes || (Region.waitsFor md ops j i && !(Region.ready md ops listed).contains j))) && mixText md ops ks r (listed.setIfInBounds i true))
/-- The walk. -/
def mixL (P : Program) (ops : Array Oper) (Q : Exit → Act → World → Prop) (ks : Nat → Mix) : List Nat → Act → World → Prop
  | [], a, w => Q .normal a w
  | i :: r, a, w => match ops[i]? with
    | none => False
    | some o => if Region.wanted o (yielded ops a.tmps) = true then (match ks i with
        | .write => o.wp P a w (mixL P ops Q ks r) Q
        | .pure => ∃ v, (∀ w', (execOp a.eval o).run P w' = .ok (.value v) w') ∧ mixL P ops Q ks r (a.put o.dst v) w
        | .read => ∃ v, o.quietAt P a (fun x => x = w) w v ∧ mixL P ops Q ks r (a.put o.dst v) w)
      else mixL P ops Q ks r (a.put o.dst undef) w
theorem mixU_of_mixL {ks : Nat → Mix} (hsel : Region.noSelect ops = true) (hQ : ∀ c a w d v, Q (.panic c) (a.put (some d) v) w → Q (.panic c) a w) :
    ∀ (l : List Nat) (listed : Array Bool) (a : Act) (w : World), mixText md ops ks l listed = true → mixL P ops Q ks l a w → mixU P md ops Q ks l.length listed a w
  | [], listed, a, w, hB, h => ⟨by simpa [mixText] using hB, h⟩
  | i :: r, listed, a, w, hB, h => by
    have hQ' : ∀ (o : Oper) v c a w, Q (.panic c) (a.put o.dst v) w → Q (.panic c) a w := fun o v c a w => by
      cases o.dst with
      | none => exact id
      | some d => exact hQ c a w d v
    simp only [mixText, Bool.and_eq_true] at hB
    obtain ⟨hr, hk, hB'⟩ := hB
    have hr' : i ∈ Region.ready md ops listed := by simpa using hr
    obtain ⟨hun, o, ho, _⟩ := mem_ready.1 hr'
    have ih := mixU_of_mixL (ks := ks) hsel hQ r (listed.setIfInBounds i true)
    simp only [mixL, ho] at h
    have go : ∀ v, (ks i).writes = false → mixY P ops (ks i) o v a w → mixL P ops Q ks r (a.put o.dst v) w → mixU P md ops Q ks (r.length + 1) listed a w := fun v hw hy hl => by
      have hf : Region.free md ops listed i = true := by
        cases hki : ks i with
        | write => rw [hki] at hw; cases hw
        | pure => rw [hki] at hk; exact hk
        | read => rw [hki] at hk; simp only [Bool.and_eq_true] at hk; exact hk.1
      have hread : ks i = .read → ∀ j, j < ops.size → listed.getD j true = false → (ks j).writes = true → Region.waitsFor md ops j i = true ∧ j ∉ Region.ready md ops listed := fun he j hlt hun hkw => by
        rw [he] at hk
        simp only [Bool.and_eq_true, List.all_eq_true, List.mem_range, Bool.or_eq_true, Bool.not_eq_true'] at hk
        rcases hk.2 j hlt with (h1 | h1) | h1
        · rw [hun] at h1; cases h1
        · rw [hkw] at h1; cases h1
        · exact ⟨h1.1, by simpa using h1.2⟩
      exact mixU_first ho (Region.noSelect_spec hsel) (fun c a w => hQ' o v c a w) r.length listed a w (Region.free_spec ho hf) (fun he j hu hkw hin => (hread he j (by obtain ⟨_, o', ho', _⟩ := mem_ready.1 hin; exact (Array.getElem?_eq_some_iff.1 ho').1) hu hkw).2 hin) (fun he j hlt hu hkw => (hread he j hlt hu hkw).1) hr' hy (ih _ _ hB' hl)
    show mixU P md ops Q ks (r.length + 1) listed a w
    cases hki : ks i with
    | write =>
      rw [hki] at hk h
      refine ⟨fun h0 => (by rw [h0] at hr'; cases hr'), fun j hj => ?_⟩
      have := List.all_eq_true.1 hk j hj
      obtain rfl : j = i := by simpa using this
      refine .inl ⟨by rw [hki]; rfl, ?_⟩
      unfold wpOp
      simp only [ho]
      split
      · rename_i hw
        rw [if_pos hw] at h
        exact .inl (Oper.wp_mono (fun a' w' h' => ih a' w' hB' h') h)
      · rename_i hw
        rw [if_neg hw] at h
        exact ih _ _ hB' h
    | pure =>
      rw [hki] at h
      by_cases hw : Region.wanted o (yielded ops a.tmps) = true
      · rw [if_pos hw] at h
        obtain ⟨v, hy, hl⟩ := h
        exact go v (by rw [hki]; rfl) (by rw [hki]; exact .inl ⟨hw, hy⟩) hl
      · rw [if_neg hw] at h
        exact go undef (by rw [hki]; rfl) (by rw [hki]; exact .inr ⟨by simpa using hw, rfl⟩) h
    | read =>
      rw [hki] at h
      by_cases hw : Region.wanted o (yielded ops a.tmps) = true
      · rw [if_pos hw] at h
        obtain ⟨v, hy, hl⟩ := h
        exact go v (by rw [hki]; rfl) (by rw [hki]; exact .inl ⟨hw, fun w' hw' => by subst hw'; exact hy⟩) hl
      · rw [if_neg hw] at h
        exact go undef (by rw [hki]; rfl) (by rw [hki]; exact .inr ⟨by simpa using hw, rfl⟩) h
/-- The law: an order of one's own choice. -/
theorem wp_region_mix {id : Nat} {a : Act} {w : World} {l : List Oper} (ks : Nat → Mix) (ord : List Nat) (hm : P.follows .mixedOrders = true) (hsel : Region.noSelect l.toArray = true) (hn : ord.length = l.length)
    (hB : mixText .any l.toArray ks ord (Array.replicate l.toArray.size false) = true) (hQ : ∀ c a w d v, Q (.panic c) (a.put (some d) v) w → Q (.panic c) a w)
    (h : mixL P l.toArray Q ks ord a w.drew) : (Code.region id l.toArray true).wp P Q a w := by
  refine wp_region_any hm ?_
  have h1 := wpAny_of_mixU _ _ _ _ (mixU_of_mixL (md := .any) hsel hQ ord _ a _ hB h)
  rw [hn] at h1
  simpa using h1
theorem mixL_nil {ks : Nat → Mix} {a : Act} {w : World} (h : Q .normal a w) : mixL P ops Q ks [] a w := h
theorem mixL_pure {ks : Nat → Mix} {i : Nat} {r : List Nat} {o : Oper} {a : Act} {w : World} (ho : ops[i]? = some o) (hk : ks i = .pure)
    (h : ∀ K : Act → Prop, (∀ a, mixL P ops Q ks r a w → K a) → if Region.wanted o (yielded ops a.tmps) = true then ∃ v, (∀ w', (execOp a.eval o).run P w' = .ok (.value v) w') ∧ K (a.put o.dst v) else K (a.put o.dst undef)) : mixL P ops Q ks (i :: r) a w := by
  simp only [mixL, ho, hk]
  exact h _ (fun _ h => h)
theorem mixL_read {ks : Nat → Mix} {i : Nat} {r : List Nat} {o : Oper} {a : Act} {w : World} (ho : ops[i]? = some o) (hk : ks i = .read)
    (h : ∀ K : Act → Prop, (∀ a, mixL P ops Q ks r a w → K a) → if Region.wanted o (yielded ops a.tmps) = true then ∃ v, o.quietAt P a (fun x => x = w) w v ∧ K (a.put o.dst v) else K (a.put o.dst undef)) : mixL P ops Q ks (i :: r) a w := by
  simp only [mixL, ho, hk]
  exact h _ (fun _ h => h)
theorem mixL_write {ks : Nat → Mix} {i : Nat} {r : List Nat} {o : Oper} {a : Act} {w : World} (ho : ops[i]? = some o) (hk : ks i = .write)
    (h : ∀ K : Act → World → Prop, (∀ a w, mixL P ops Q ks r a w → K a w) → if Region.wanted o (yielded ops a.tmps) = true then o.wp P a w K Q else K (a.put o.dst undef) w) : mixL P ops Q ks (i :: r) a w := by
  simp only [mixL, ho, hk]
  exact h _ (fun _ _ h => h)
end
end Go.Proofs.Ytngnplghjaojhaa

/- A region that draws its order: operations that look at no memory, ones that only read (what they read stays when memory is made), ones that only make memory, and ones that write: one walk, in an order of one's own choice, serves every order. No program in sight. -/
namespace Go.Proofs.Ytngnplghjaojhaa
set_option maxRecDepth 100000
set_option maxHeartbeats 2000000
set_option linter.unusedSimpArgs false
open Go.RowKit Go.Sort
set_option linter.unusedVariables false

/-- What an operation is. -/
inductive Gro where
  | pure
  | read
  | grow
  | write
def Gro.writes : Gro → Bool
  | .write => true
  | _ => false

/-- What may become of the memory meanwhile. -/
class Rel (R : World → World → Prop) : Prop where
  refl : ∀ w, R w w
  trans : ∀ {a b c : World}, R a b → R b c → R a c
instance extRel : Rel Ext := ⟨Ext.refl, fun h k => h.trans k⟩
instance grownRel (g : Nat) : Rel (fun w w' => w.grownBy w' (some g)) := ⟨fun w => (grown_ext (Ext.refl w)).but _, fun h k => World.grownBy.trans h k⟩
section
variable {R : World → World → Prop} {P : Program} {md : Region.Mode} {ops : Array Oper} {Q : Exit → Act → World → Prop}

theorem oper_putY {Y : Act → Prop} {oi oj : Oper} {v : Value} (hap : oi.apart ops oj = true)
    (hsi : ∀ cs b, oi.op ≠ .select cs b) (hsj : ∀ cs b, oj.op ≠ .select cs b)
    (hQ : ∀ c a w, Q (.panic c) (a.put oi.dst v) w → Q (.panic c) a w) {K : Act → World → Prop} {a : Act} {w : World}
    (keep : ∀ ds u, Y ({ a with defers := ds }.put oj.dst u)) (h : oj.wp P (a.put oi.dst v) w K Q) :
    oj.wp P a w (fun a' w' => Y a' ∧ K (a'.put oi.dst v) w') Q := by
  obtain ⟨h1, h2, h3⟩ := Oper.apart_spec hap
  unfold Oper.wp at *
  rw [execOp_put oj hsj a oi.dst v h1] at h
  generalize (execOp a.eval oj).run P w = r at *
  cases r with
  | ok n w' =>
    cases n <;> simp only [Oper.upon] at h ⊢
    case value u => exact ⟨keep a.defers u, by rw [← Act.put_comm a v u h2]; exact h⟩
    case skip => exact ⟨keep a.defers _, by rw [← Act.put_comm a v undef h2]; exact h⟩
    case defer d =>
      refine ⟨keep _ _, ?_⟩
      rw [← Act.put_comm _ v undef h2, ← Act.put_defers]
      exact h
    case enter f args =>
      refine Calls.mono h fun e w'' he => ?_
      cases e with
      | returned u => exact ⟨keep a.defers u, by rw [← Act.put_comm a v u h2]; exact he⟩
      | panicked c => exact hQ _ _ _ he
      | outgrown => exact he
    case row row args => exact Rows.mono h fun u w'' he => ⟨keep a.defers u, by rw [← Act.put_comm a v u h2]; exact he⟩
  | halt x w' =>
    cases x <;> simp only [Oper.upon] at h ⊢
    case panic u => exact hQ _ _ _ h

/-- An operation is carried out where it is wanted. -/
def opG (P : Program) (ops : Array Oper) (Q : Exit → Act → World → Prop) (o : Oper) (K : Act → World → Prop) (a : Act) (w : World) : Prop :=
  if Region.wanted o (yielded ops a.tmps) = true then o.wp P a w K Q else K (a.put o.dst undef) w
theorem opG_mono {o : Oper} {a : Act} {w : World} {K K' : Act → World → Prop} (h : ∀ a w, K a w → K' a w) (hh : opG P ops Q o K a w) : opG P ops Q o K' a w := by
  unfold opG at *
  split
  · rename_i hw; rw [if_pos hw] at hh; exact Oper.wp_mono h hh
  · rename_i hw; rw [if_neg hw] at hh; exact h _ _ hh
theorem opG_putY {Y : Act → Prop} {oi oj : Oper} {v : Value} (hap : oi.apart ops oj = true)
    (hsi : ∀ cs b, oi.op ≠ .select cs b) (hsj : ∀ cs b, oj.op ≠ .select cs b)
    (hQ : ∀ c a w, Q (.panic c) (a.put oi.dst v) w → Q (.panic c) a w) {K : Act → World → Prop} {a : Act} {w : World}
    (keep : ∀ ds u, Y ({ a with defers := ds }.put oj.dst u)) (h : opG P ops Q oj K (a.put oi.dst v) w) :
    opG P ops Q oj (fun a' w' => Y a' ∧ K (a'.put oi.dst v) w') a w := by
  obtain ⟨h1, h2, h3⟩ := Oper.apart_spec hap
  unfold opG at *
  rw [wanted_put oj a oi.dst v h1] at h
  split
  · rename_i hw; rw [if_pos hw] at h; exact oper_putY hap hsi hsj hQ keep h
  · rename_i hw; rw [if_neg hw] at h; exact ⟨keep a.defers _, by rw [← Act.put_comm a v undef h2]; exact h⟩

/-- It yields so, here and wherever memory has been made since. -/
def groY (R : World → World → Prop) (P : Program) (ops : Array Oper) (k : Gro) (o : Oper) (v : Value) (a : Act) (w : World) : Prop := match k with
  | .pure => Yields P ops o v a
  | .read => ∀ w', R w w' → YieldsIn P ops (fun x => x = w') o v a
  | _ => False
theorem groY_same {k : Gro} {o : Oper} {v : Value} {a a' : Act} {w : World} (hy : groY R P ops k o v a w) (he : execOp a'.eval o = execOp a.eval o)
    (hw : Region.wanted o (yielded ops a'.tmps) = Region.wanted o (yielded ops a.tmps)) : groY R P ops k o v a' w := by
  cases k with
  | pure => exact Yields.of_same hy he hw
  | read => exact fun w' hx => YieldsIn.of_same (hy w' hx) he hw
  | grow => exact hy
  | write => exact hy
theorem groY_ext [hR : Rel R] {k : Gro} {o : Oper} {v : Value} {a : Act} {w w' : World} (hy : groY R P ops k o v a w) (hx : R w w') : groY R P ops k o v a w' := by
  cases k with
  | pure => exact hy
  | read => exact fun w'' hx' => hy w'' (hR.trans hx hx')
  | grow => exact hy
  | write => exact hy
theorem groY_op [hR : Rel R] {k : Gro} {o : Oper} {v : Value} {a : Act} {w : World} {K : Act → World → Prop} (hy : groY R P ops k o v a w) (h : K (a.put o.dst v) w) : opG P ops Q o K a w := by
  unfold opG
  cases k with
  | pure =>
    rcases hy with ⟨hw, hv⟩ | ⟨hw, rfl⟩
    · rw [if_pos hw]; simp only [Oper.wp, hv w, Oper.upon]; exact h
    · rw [if_neg (by rw [hw]; decide)]; exact h
  | read =>
    rcases hy w (hR.refl w) with ⟨hw, hv⟩ | ⟨hw, rfl⟩
    · rw [if_pos hw]; exact Oper.wp_of_quiet (C := fun x => x = w) (K := fun a' => K a' w) rfl (fun a' w' hw' h' => by subst hw'; exact h') ⟨v, hv, h⟩
    · rw [if_neg (by rw [hw]; decide)]; exact h
  | grow => exact hy.elim
  | write => exact hy.elim

def groU (R : World → World → Prop) (P : Program) (md : Region.Mode) (ops : Array Oper) (Q : Exit → Act → World → Prop) (ks : Nat → Gro) : Nat → Array Bool → Act → World → Prop
  | 0, listed, a, w => Region.ready md ops listed = [] ∧ Q .normal a w
  | f + 1, listed, a, w => (Region.ready md ops listed = [] → Q .normal a w) ∧ ∀ i ∈ Region.ready md ops listed, ∃ o, ops[i]? = some o ∧
      ((ks i = .write ∧ opG P ops Q o (groU R P md ops Q ks f (listed.setIfInBounds i true)) a w) ∨
       (ks i = .grow ∧ opG P ops Q o (fun a' w' => R w w' ∧ groU R P md ops Q ks f (listed.setIfInBounds i true) a' w') a w) ∨
      ∃ v, groY R P ops (ks i) o v a w ∧ groU R P md ops Q ks f (listed.setIfInBounds i true) (a.put o.dst v) w)

theorem wpOp_of_opG {i : Nat} {o : Oper} {K : Act → World → Prop} {a : Act} {w : World} (ho : ops[i]? = some o) (h : opG P ops Q o K a w) : wpOp P ops Q i K a w := by
  unfold wpOp
  simp only [ho]
  unfold opG at h
  split
  · rename_i hw; rw [if_pos hw] at h; exact .inl h
  · rename_i hw; rw [if_neg hw] at h; exact h
theorem opG_of_groU [hR : Rel R] {ks : Nat → Gro} {f : Nat} {listed : Array Bool} {a : Act} {w : World} {K : Act → World → Prop} {i : Nat} (hK : ∀ a w, groU R P md ops Q ks f (listed.setIfInBounds i true) a w → K a w)
    (h : ∃ o, ops[i]? = some o ∧
      ((ks i = .write ∧ opG P ops Q o (groU R P md ops Q ks f (listed.setIfInBounds i true)) a w) ∨
       (ks i = .grow ∧ opG P ops Q o (fun a' w' => R w w' ∧ groU R P md ops Q ks f (listed.setIfInBounds i true) a' w') a w) ∨
      ∃ v, groY R P ops (ks i) o v a w ∧ groU R P md ops Q ks f (listed.setIfInBounds i true) (a.put o.dst v) w)) : ∃ o, ops[i]? = some o ∧ opG P ops Q o K a w := by
  obtain ⟨o, ho, ⟨_, h⟩ | ⟨_, h⟩ | ⟨v, hy, h⟩⟩ := h
  · exact ⟨o, ho, opG_mono hK h⟩
  · exact ⟨o, ho, opG_mono (fun a w h => hK a w h.2) h⟩
  · exact ⟨o, ho, groY_op hy (hK _ _ h)⟩
theorem wpAny_of_groU [hR : Rel R] {ks : Nat → Gro} : ∀ (f : Nat) (listed : Array Bool) (a : Act) (w : World), groU R P md ops Q ks f listed a w → wpAny P md ops Q f listed a w
  | 0, _, _, _, h => h
  | f + 1, listed, a, w, h => ⟨h.1, fun i hi => by
      obtain ⟨o, ho, h1⟩ := opG_of_groU (K := wpAny P md ops Q f (listed.setIfInBounds i true)) (fun a w h => wpAny_of_groU f _ a w h) (h.2 i hi)
      exact wpOp_of_opG ho h1⟩
theorem wpAnyIn_of_groU [hR : Rel R] {ks : Nat → Gro} (L : Nat) (hnd : noDefer ops.toList = true) : ∀ (f : Nat) (listed : Array Bool) (a : Act) (w : World), groU R P md ops Q ks f listed a w → wpAnyIn (Fence.wide.inRound L) 0 P md ops Q f listed a w
  | 0, _, _, _, h => h
  | f + 1, listed, a, w, h => ⟨h.1, fun i hi => by
      obtain ⟨o, ho, h1⟩ := opG_of_groU (K := wpAnyIn (Fence.wide.inRound L) 0 P md ops Q f (listed.setIfInBounds i true)) (fun a w h => wpAnyIn_of_groU L hnd f _ a w h) (h.2 i hi)
      have hm : o ∈ ops.toList := List.mem_of_getElem? (by rw [Array.getElem?_toList]; exact ho)
      unfold wpOpIn
      simp only [ho]
      unfold opG at h1
      split
      · rename_i hw; rw [if_pos hw] at h1; exact oper_round L (noDefer_at hnd hm) h1
      · rename_i hw; rw [if_neg hw] at h1; exact ⟨fun f _ => trivial, h1⟩⟩

/-- An operation waits for another one, by way of others that are not yet listed. -/
def Region.chain (md : Region.Mode) (ops : Array Oper) : Nat → Array Bool → Nat → Nat → Bool
  | 0, _, j, i => Region.waitsFor md ops j i
  | f + 1, listed, j, i => Region.waitsFor md ops j i || (List.range ops.size).any (fun k => !listed.getD k true && (Region.waitsFor md ops j k && Region.chain md ops f listed k i))
theorem waits_not_ready {listed : Array Bool} {j k : Nat} (hk : listed.getD k true = false) (h : Region.waitsFor md ops j k = true) : j ∉ Region.ready md ops listed := fun hin => by
  obtain ⟨_, oj', hoj', hall'⟩ := mem_ready.1 hin
  obtain ⟨oj, hoj, e, hee, hb, hon⟩ := Region.waitsFor_spec h
  obtain rfl : oj = oj' := Option.some.inj (hoj.symm.trans hoj')
  have h1 := hall' e hee hb
  rw [hon, getD_both hk] at h1
  cases h1
theorem chain_not_ready {listed : Array Bool} {i : Nat} (hi : listed.getD i true = false) : ∀ (f : Nat) {j : Nat}, Region.chain md ops f listed j i = true → j ∉ Region.ready md ops listed
  | 0, _, h => waits_not_ready hi h
  | f + 1, j, h => by
    simp only [Region.chain, Bool.or_eq_true, List.any_eq_true, List.mem_range, Bool.and_eq_true, Bool.not_eq_true'] at h
    rcases h with h | ⟨k, _, h1, h2, _⟩
    · exact waits_not_ready hi h
    · exact waits_not_ready h1 h2
theorem chain_step {listed : Array Bool} {i x : Nat} (hi : listed.getD i true = false) (hx : x ∈ Region.ready md ops listed) : ∀ (f : Nat) {j : Nat}, Region.chain md ops f listed j i = true → Region.chain md ops f (listed.setIfInBounds x true) j i = true
  | 0, _, h => h
  | f + 1, j, h => by
    simp only [Region.chain, Bool.or_eq_true, List.any_eq_true, List.mem_range, Bool.and_eq_true, Bool.not_eq_true'] at h ⊢
    rcases h with h | ⟨k, h0, h1, h2, h3⟩
    · exact .inl h
    · refine .inr ⟨k, h0, ?_, h2, chain_step hi hx f h3⟩
      have hne : x ≠ k := fun e => by subst e; exact chain_not_ready hi f h3 hx
      rw [getD_set_ne true hne]; exact h1

theorem groU_first [hR : Rel R] {ks : Nat → Gro} {i : Nat} {oi : Oper} {v : Value} (hi : ops[i]? = some oi) (hsel : ∀ (j : Nat) (o : Oper) cs b, ops[j]? = some o → o.op ≠ .select cs b)
    (hQ : ∀ c a w, Q (.panic c) (a.put oi.dst v) w → Q (.panic c) a w) :
    ∀ (f : Nat) (listed : Array Bool) (a : Act) (w : World),
      (∀ j oj, ops[j]? = some oj → j ≠ i → listed.getD j true = false → (∀ e ∈ oj.after, Region.binds md e = true → e.on ≠ i) → oi.apart ops oj = true) →
      (ks i = .read → ∀ j, j < ops.size → listed.getD j true = false → ks j = .write → Region.chain md ops 8 listed j i = true) →
      i ∈ Region.ready md ops listed → groY R P ops (ks i) oi v a w →
      groU R P md ops Q ks f (listed.setIfInBounds i true) (a.put oi.dst v) w → groU R P md ops Q ks (f + 1) listed a w := by
  intro f
  induction f with
  | zero =>
    intro listed a w _ _ hr hy H
    refine ⟨fun h => (by rw [h] at hr; cases hr), fun j hj => ?_⟩
    by_cases hji : j = i
    · subst hji; exact ⟨oi, hi, .inr (.inr ⟨v, hy, H⟩)⟩
    · have := ready_mono hj hji
      rw [H.1] at this
      cases this
  | succ f ih =>
    intro listed a w hfree hwt hr hy H
    refine ⟨fun h => (by rw [h] at hr; cases hr), fun j hj => ?_⟩
    by_cases hji : j = i
    · subst hji; exact ⟨oi, hi, .inr (.inr ⟨v, hy, H⟩)⟩
    · obtain ⟨hjun, oj, hoj, hall⟩ := mem_ready.1 hj
      have hnot : ∀ e ∈ oj.after, Region.binds md e = true → e.on ≠ i := fun e he hb heq => by
        have h1 := hall e he hb
        have h0 := (mem_ready.1 hr).1
        rw [heq, getD_both h0] at h1
        cases h1
      have hap := hfree j oj hoj hji hjun hnot
      obtain ⟨q1, q2, q3⟩ := Oper.apart_spec hap
      have hsi := fun cs b => hsel i oi cs b hi
      have hsj := fun cs b => hsel j oj cs b hoj
      have hfree' : ∀ k ok, ops[k]? = some ok → k ≠ i → (listed.setIfInBounds j true).getD k true = false →
          (∀ e ∈ ok.after, Region.binds md e = true → e.on ≠ i) → oi.apart ops ok = true := fun k ok hk hki hun hno => by
        refine hfree k ok hk hki ?_ hno
        by_cases hjk : j = k
        · subst hjk; exact hjun
        · rw [getD_set_ne true hjk] at hun; exact hun
      have hun' : ∀ k, (listed.setIfInBounds j true).getD k true = false → listed.getD k true = false := fun k hun => by
        by_cases hjk : j = k
        · subst hjk; exact hjun
        · rw [getD_set_ne true hjk] at hun; exact hun
      have hwt' : ks i = .read → ∀ k, k < ops.size → (listed.setIfInBounds j true).getD k true = false → ks k = .write → Region.chain md ops 8 (listed.setIfInBounds j true) k i = true := fun he k hlt hun hk => chain_step (mem_ready.1 hr).1 hj 8 (hwt he k hlt (hun' k hun) hk)
      have hir : i ∈ Region.ready md ops (listed.setIfInBounds j true) := ready_mono hr (Ne.symm hji)
      have keep : ∀ ds u, groY R P ops (ks i) oi v ({ a with defers := ds }.put oj.dst u) w := fun ds u =>
        groY_same (groY_same hy (a' := { a with defers := ds }) rfl rfl) (execOp_put oi hsi _ oj.dst u q3) (wanted_put oi _ oj.dst u q3)
      obtain ⟨o, ho, hrest⟩ := H.2 j (ready_mono hj hji)
      obtain rfl : o = oj := Option.some.inj (ho.symm.trans hoj)
      refine ⟨o, ho, ?_⟩
      rcases hrest with ⟨hk, hw⟩ | ⟨hk, hw⟩ | ⟨u, hyj, hU⟩
      · cases hki : ks i with
        | write => rw [hki] at hy; exact hy.elim
        | grow => rw [hki] at hy; exact hy.elim
        | read => exact absurd hj (chain_not_ready (mem_ready.1 hr).1 8 (hwt hki j (Array.getElem?_eq_some_iff.1 hoj).1 hjun hk))
        | pure =>
          refine .inl ⟨hk, ?_⟩
          refine opG_mono (fun a' w' h3 => ih (listed.setIfInBounds j true) a' w' hfree' hwt' hir (by have := h3.1; rw [hki] at this ⊢; exact this) ?_) (opG_putY (Y := fun a' => groY R P ops (ks i) oi v a' w) hap hsi hsj hQ keep hw)
          rw [Array.setIfInBounds_comm _ _ hji]
          exact h3.2
      · refine .inr (.inl ⟨hk, ?_⟩)
        refine opG_mono (fun a' w' h3 => ⟨h3.2.1, ih (listed.setIfInBounds j true) a' w' hfree' hwt' hir (groY_ext h3.1 h3.2.1) ?_⟩) (opG_putY (Y := fun a' => groY R P ops (ks i) oi v a' w) hap hsi hsj hQ keep hw)
        rw [Array.setIfInBounds_comm _ _ hji]
        exact h3.2.2
      · refine .inr (.inr ⟨u, groY_same hyj (execOp_put o hsj a oi.dst v q1).symm (wanted_put o a oi.dst v q1).symm, ?_⟩)
        refine ih (listed.setIfInBounds j true) (a.put o.dst u) w hfree' hwt' hir (keep a.defers u) ?_
        rw [Array.setIfInBounds_comm _ _ hji, Act.put_comm a v u q2] at *
        exact hU
def groText (md : Region.Mode) (ops : Array Oper) (ks : Nat → Gro) : List Nat → Array Bool → Bool
  | [], listed => (Region.ready md ops listed).isEmpty
  | i :: r, listed => (Region.ready md ops listed).contains i && ((match ks i with
      | .write => (Region.ready md ops listed).all (fun j => j == i)
      | .grow => (Region.ready md ops listed).all (fun j => j == i)
      | .pure => Region.free md ops listed i
      | .read => Region.free md ops listed i && (List.range ops.size).all (fun j => listed.getD j true || !(ks j).writes || Region.chain md ops 8 listed j i)) && groText md ops ks r (listed.setIfInBounds i true))
/-- What is read stays. -/
def Stays (R : World → World → Prop) (P : Program) (o : Oper) (a : Act) (w : World) (v : Value) : Prop := ∀ w', R w w' → o.quietAt P a (fun x => x = w') w' v
/-- The walk. -/
def groL (R : World → World → Prop) (P : Program) (ops : Array Oper) (Q : Exit → Act → World → Prop) (ks : Nat → Gro) : List Nat → Act → World → Prop
  | [], a, w => Q .normal a w
  | i :: r, a, w => match ops[i]? with
    | none => False
    | some o => if Region.wanted o (yielded ops a.tmps) = true then (match ks i with
        | .write => o.wp P a w (groL R P ops Q ks r) Q
        | .grow => o.wp P a w (fun a' w' => R w w' ∧ groL R P ops Q ks r a' w') Q
        | .pure => ∃ v, (∀ w', (execOp a.eval o).run P w' = .ok (.value v) w') ∧ groL R P ops Q ks r (a.put o.dst v) w
        | .read => ∃ v, o.quietAt P a (fun x => x = w) w v ∧ Stays R P o a w v ∧ groL R P ops Q ks r (a.put o.dst v) w)
      else groL R P ops Q ks r (a.put o.dst undef) w
theorem groU_of_groL [hR : Rel R] {ks : Nat → Gro} (hsel : Region.noSelect ops = true) (hQ : ∀ c a w d v, Q (.panic c) (a.put (some d) v) w → Q (.panic c) a w) :
    ∀ (l : List Nat) (listed : Array Bool) (a : Act) (w : World), groText md ops ks l listed = true → groL R P ops Q ks l a w → groU R P md ops Q ks l.length listed a w
  | [], listed, a, w, hB, h => ⟨by simpa [groText] using hB, h⟩
  | i :: r, listed, a, w, hB, h => by
    have hQ' : ∀ (o : Oper) v c a w, Q (.panic c) (a.put o.dst v) w → Q (.panic c) a w := fun o v c a w => by
      cases o.dst with
      | none => exact id
      | some d => exact hQ c a w d v
    simp only [groText, Bool.and_eq_true] at hB
    obtain ⟨hr, hk, hB'⟩ := hB
    have hr' : i ∈ Region.ready md ops listed := by simpa using hr
    obtain ⟨hun, o, ho, _⟩ := mem_ready.1 hr'
    have ih := groU_of_groL (ks := ks) hsel hQ r (listed.setIfInBounds i true)
    simp only [groL, ho] at h
    have go : ∀ v, groY R P ops (ks i) o v a w → groL R P ops Q ks r (a.put o.dst v) w → groU R P md ops Q ks (r.length + 1) listed a w := fun v hy hl => by
      have hf : Region.free md ops listed i = true := by
        cases hki : ks i with
        | write => rw [hki] at hy; exact hy.elim
        | grow => rw [hki] at hy; exact hy.elim
        | pure => rw [hki] at hk; exact hk
        | read => rw [hki] at hk; simp only [Bool.and_eq_true] at hk; exact hk.1
      have hread : ks i = .read → ∀ j, j < ops.size → listed.getD j true = false → ks j = .write → Region.chain md ops 8 listed j i = true := fun he j hlt hun hkw => by
        rw [he] at hk
        simp only [Bool.and_eq_true, List.all_eq_true, List.mem_range, Bool.or_eq_true, Bool.not_eq_true'] at hk
        rcases hk.2 j hlt with (h1 | h1) | h1
        · rw [hun] at h1; cases h1
        · rw [hkw] at h1; cases h1
        · exact h1
      exact groU_first ho (Region.noSelect_spec hsel) (fun c a w => hQ' o v c a w) r.length listed a w (Region.free_spec ho hf) hread hr' hy (ih _ _ hB' hl)
    have only : (Region.ready md ops listed).all (fun j => j == i) = true → ∀ j ∈ Region.ready md ops listed, j = i := fun hk j hj => by
      have := List.all_eq_true.1 hk j hj
      simpa using this
    show groU R P md ops Q ks (r.length + 1) listed a w
    cases hki : ks i with
    | write =>
      rw [hki] at hk h
      refine ⟨fun h0 => (by rw [h0] at hr'; cases hr'), fun j hj => ?_⟩
      obtain rfl := only hk j hj
      refine ⟨o, ho, .inl ⟨hki, ?_⟩⟩
      unfold opG
      split
      · rename_i hw
        rw [if_pos hw] at h
        exact Oper.wp_mono (fun a' w' h' => ih a' w' hB' h') h
      · rename_i hw
        rw [if_neg hw] at h
        exact ih _ _ hB' h
    | grow =>
      rw [hki] at hk h
      refine ⟨fun h0 => (by rw [h0] at hr'; cases hr'), fun j hj => ?_⟩
      obtain rfl := only hk j hj
      refine ⟨o, ho, .inr (.inl ⟨hki, ?_⟩)⟩
      unfold opG
      split
      · rename_i hw
        rw [if_pos hw] at h
        exact Oper.wp_mono (fun a' w' h' => ⟨h'.1, ih a' w' hB' h'.2⟩) h
      · rename_i hw
        rw [if_neg hw] at h
        exact ⟨hR.refl _, ih _ _ hB' h⟩
    | pure =>
      rw [hki] at h
      by_cases hw : Region.wanted o (yielded ops a.tmps) = true
      · rw [if_pos hw] at h
        obtain ⟨v, hy, hl⟩ := h
        exact go v (by rw [hki]; exact .inl ⟨hw, hy⟩) hl
      · rw [if_neg hw] at h
        exact go undef (by rw [hki]; exact .inr ⟨by simpa using hw, rfl⟩) h
    | read =>
      rw [hki] at h
      by_cases hw : Region.wanted o (yielded ops a.tmps) = true
      · rw [if_pos hw] at h
        obtain ⟨v, hy, hst, hl⟩ := h
        exact go v (by rw [hki]; exact fun w' hx => .inl ⟨hw, fun w'' hw' => by subst hw'; exact hst _ hx⟩) hl
      · rw [if_neg hw] at h
        exact go undef (by rw [hki]; exact fun w' hx => .inr ⟨by simpa using hw, rfl⟩) h
/-- The law: an order of one's own choice. -/
theorem wp_region_gro0 [hR : Rel R] {id : Nat} {a : Act} {w : World} {l : List Oper} (ks : Nat → Gro) (ord : List Nat) (hm : P.follows .mixedOrders = true) (hsel : Region.noSelect l.toArray = true) (hn : ord.length = l.length)
    (hB : groText .any l.toArray ks ord (Array.replicate l.toArray.size false) = true) (hQ : ∀ c a w d v, Q (.panic c) (a.put (some d) v) w → Q (.panic c) a w)
    (h : groL R P l.toArray Q ks ord a w.drew) : (Code.region id l.toArray true).wp P Q a w := by
  refine wp_region_any hm ?_
  have h1 := wpAny_of_groU _ _ _ _ (groU_of_groL (md := .any) hsel hQ ord _ a _ hB h)
  rw [hn] at h1
  simpa using h1
/-- The same, within a round. -/
theorem wpIn_region_gro0 [hR : Rel R] {L id : Nat} {a : Act} {w : World} {l : List Oper} (ks : Nat → Gro) (ord : List Nat) (hm : P.follows .mixedOrders = true) (hnd : noDefer l = true) (hsel : Region.noSelect l.toArray = true) (hn : ord.length = l.length)
    (hB : groText .any l.toArray ks ord (Array.replicate l.toArray.size false) = true) (hQ : ∀ c a w d v, Q (.panic c) (a.put (some d) v) w → Q (.panic c) a w)
    (h : groL R P l.toArray Q ks ord a w.drew) : (Code.region id l.toArray true).wpIn (Fence.wide.inRound L) 0 P Q a w := by
  refine wpIn_region_any hm ?_
  have h1 := wpAnyIn_of_groU L (by simpa using hnd) _ _ _ _ (groU_of_groL (md := .any) hsel hQ ord _ a _ hB h)
  rw [hn] at h1
  simpa using h1
theorem groL0_nil {ks : Nat → Gro} {a : Act} {w : World} (h : Q .normal a w) : groL R P ops Q ks [] a w := h
theorem groL0_pure {ks : Nat → Gro} {i : Nat} {r : List Nat} {o : Oper} {a : Act} {w : World} (ho : ops[i]? = some o) (hk : ks i = .pure)
    (h : ∀ K : Act → Prop, (∀ a, groL R P ops Q ks r a w → K a) → if Region.wanted o (yielded ops a.tmps) = true then ∃ v, (∀ w', (execOp a.eval o).run P w' = .ok (.value v) w') ∧ K (a.put o.dst v) else K (a.put o.dst undef)) : groL R P ops Q ks (i :: r) a w := by
  simp only [groL, ho, hk]
  exact h _ (fun _ h => h)
theorem groL0_read {ks : Nat → Gro} {i : Nat} {r : List Nat} {o : Oper} {a : Act} {w : World} (ho : ops[i]? = some o) (hk : ks i = .read)
    (h : ∀ (K : Act → Prop) (S : Value → Prop), (∀ v, Stays R P o a w v → S v) → (∀ a, groL R P ops Q ks r a w → K a) → if Region.wanted o (yielded ops a.tmps) = true then ∃ v, o.quietAt P a (fun x => x = w) w v ∧ S v ∧ K (a.put o.dst v) else K (a.put o.dst undef)) : groL R P ops Q ks (i :: r) a w := by
  simp only [groL, ho, hk]
  exact h _ (Stays R P o a w) (fun _ h => h) (fun _ h => h)
theorem groL0_grow {ks : Nat → Gro} {i : Nat} {r : List Nat} {o : Oper} {a : Act} {w : World} (ho : ops[i]? = some o) (hk : ks i = .grow)
    (h : ∀ K : Act → World → Prop, (∀ a w', R w w' ∧ groL R P ops Q ks r a w' → K a w') → if Region.wanted o (yielded ops a.tmps) = true then o.wp P a w K Q else K (a.put o.dst undef) w) : groL R P ops Q ks (i :: r) a w := by
  simp only [groL, ho, hk]
  have h1 := h (fun a' w' => R w w' ∧ groL R P ops Q ks r a' w') (fun _ _ h => h)
  split
  · rename_i hw; rw [if_pos hw] at h1; exact h1
  · rename_i hw; rw [if_neg hw] at h1; exact h1.2
theorem groL0_write {ks : Nat → Gro} {i : Nat} {r : List Nat} {o : Oper} {a : Act} {w : World} (ho : ops[i]? = some o) (hk : ks i = .write)
    (h : ∀ K : Act → World → Prop, (∀ a w, groL R P ops Q ks r a w → K a w) → if Region.wanted o (yielded ops a.tmps) = true then o.wp P a w K Q else K (a.put o.dst undef) w) : groL R P ops Q ks (i :: r) a w := by
  simp only [groL, ho, hk]
  exact h _ (fun _ _ h => h)
/-- The walk, closed: nothing looks into it but the laws below. -/
structure GroW (P : Program) (ops : Array Oper) (Q : Exit → Act → World → Prop) (ks : Nat → Gro) (l : List Nat) (a : Act) (w : World) : Prop where
  out : groL Ext P ops Q ks l a w
theorem groL_nil {ks : Nat → Gro} {a : Act} {w : World} (h : Q .normal a w) : GroW P ops Q ks [] a w := ⟨h⟩
theorem groL_pure {ks : Nat → Gro} {i : Nat} {r : List Nat} {o : Oper} {a : Act} {w : World} (ho : ops[i]? = some o) (hk : ks i = .pure)
    (h : ∀ K : Act → Prop, (∀ a, GroW P ops Q ks r a w → K a) → if Region.wanted o (yielded ops a.tmps) = true then ∃ v, (∀ w', (execOp a.eval o).run P w' = .ok (.value v) w') ∧ K (a.put o.dst v) else K (a.put o.dst undef)) : GroW P ops Q ks (i :: r) a w :=
  ⟨groL0_pure ho hk fun K hK => h K fun a h => hK a h.out⟩
theorem groL_read {ks : Nat → Gro} {i : Nat} {r : List Nat} {o : Oper} {a : Act} {w : World} (ho : ops[i]? = some o) (hk : ks i = .read)
    (h : ∀ (K : Act → Prop) (S : Value → Prop), (∀ v, Stays Ext P o a w v → S v) → (∀ a, GroW P ops Q ks r a w → K a) → if Region.wanted o (yielded ops a.tmps) = true then ∃ v, o.quietAt P a (fun x => x = w) w v ∧ S v ∧ K (a.put o.dst v) else K (a.put o.dst undef)) : GroW P ops Q ks (i :: r) a w :=
  ⟨groL0_read ho hk fun K S hS hK => h K S hS fun a h => hK a h.out⟩
theorem groL_grow {ks : Nat → Gro} {i : Nat} {r : List Nat} {o : Oper} {a : Act} {w : World} (ho : ops[i]? = some o) (hk : ks i = .grow)
    (h : ∀ K : Act → World → Prop, (∀ a w', Ext w w' ∧ GroW P ops Q ks r a w' → K a w') → if Region.wanted o (yielded ops a.tmps) = true then o.wp P a w K Q else K (a.put o.dst undef) w) : GroW P ops Q ks (i :: r) a w :=
  ⟨groL0_grow ho hk fun K hK => h K fun a w' h => hK a w' ⟨h.1, h.2.out⟩⟩
theorem groL_write {ks : Nat → Gro} {i : Nat} {r : List Nat} {o : Oper} {a : Act} {w : World} (ho : ops[i]? = some o) (hk : ks i = .write)
    (h : ∀ K : Act → World → Prop, (∀ a w, GroW P ops Q ks r a w → K a w) → if Region.wanted o (yielded ops a.tmps) = true then o.wp P a w K Q else K (a.put o.dst undef) w) : GroW P ops Q ks (i :: r) a w :=
  ⟨groL0_write ho hk fun K hK => h K fun a w h => hK a w h.out⟩
/-- The law: an order of one's own choice. -/
theorem wp_region_gro {id : Nat} {a : Act} {w : World} {l : List Oper} (ks : Nat → Gro) (ord : List Nat) (hm : P.follows .mixedOrders = true) (hsel : Region.noSelect l.toArray = true) (hn : ord.length = l.length)
    (hB : groText .any l.toArray ks ord (Array.replicate l.toArray.size false) = true) (hQ : ∀ c a w d v, Q (.panic c) (a.put (some d) v) w → Q (.panic c) a w)
    (h : GroW P l.toArray Q ks ord a w.drew) : (Code.region id l.toArray true).wp P Q a w := wp_region_gro0 ks ord hm hsel hn hB hQ h.out
/-- The same, within a round. -/
theorem wpIn_region_gro {L id : Nat} {a : Act} {w : World} {l : List Oper} (ks : Nat → Gro) (ord : List Nat) (hm : P.follows .mixedOrders = true) (hnd : noDefer l = true) (hsel : Region.noSelect l.toArray = true) (hn : ord.length = l.length)
    (hB : groText .any l.toArray ks ord (Array.replicate l.toArray.size false) = true) (hQ : ∀ c a w d v, Q (.panic c) (a.put (some d) v) w → Q (.panic c) a w)
    (h : GroW P l.toArray Q ks ord a w.drew) : (Code.region id l.toArray true).wpIn (Fence.wide.inRound L) 0 P Q a w := wpIn_region_gro0 ks ord hm hnd hsel hn hB hQ h.out
end
/-- The same walk, in which one block may be written meanwhile; what is read lies elsewhere. -/
structure GroB (g : Nat) (P : Program) (ops : Array Oper) (Q : Exit → Act → World → Prop) (ks : Nat → Gro) (l : List Nat) (a : Act) (w : World) : Prop where
  out : groL (fun w w' => w.grownBy w' (some g)) P ops Q ks l a w
theorem groB_nil {g : Nat} {P : Program} {ops : Array Oper} {Q : Exit → Act → World → Prop} {ks : Nat → Gro} {a : Act} {w : World} (h : Q .normal a w) : GroB g P ops Q ks [] a w := ⟨h⟩
theorem groB_pure {g : Nat} {P : Program} {ops : Array Oper} {Q : Exit → Act → World → Prop} {ks : Nat → Gro} {i : Nat} {r : List Nat} {o : Oper} {a : Act} {w : World} (ho : ops[i]? = some o) (hk : ks i = .pure)
    (h : ∀ K : Act → Prop, (∀ a, GroB g P ops Q ks r a w → K a) → if Region.wanted o (yielded ops a.tmps) = true then ∃ v, (∀ w', (execOp a.eval o).run P w' = .ok (.value v) w') ∧ K (a.put o.dst v) else K (a.put o.dst undef)) : GroB g P ops Q ks (i :: r) a w :=
  ⟨groL0_pure ho hk fun K hK => h K fun a h => hK a h.out⟩
theorem groB_read {g : Nat} {P : Program} {ops : Array Oper} {Q : Exit → Act → World → Prop} {ks : Nat → Gro} {i : Nat} {r : List Nat} {o : Oper} {a : Act} {w : World} (ho : ops[i]? = some o) (hk : ks i = .read)
    (h : ∀ (K : Act → Prop) (S : Value → Prop), (∀ v, Stays (fun w w' => w.grownBy w' (some g)) P o a w v → S v) → (∀ a, GroB g P ops Q ks r a w → K a) → if Region.wanted o (yielded ops a.tmps) = true then ∃ v, o.quietAt P a (fun x => x = w) w v ∧ S v ∧ K (a.put o.dst v) else K (a.put o.dst undef)) : GroB g P ops Q ks (i :: r) a w :=
  ⟨groL0_read ho hk fun K S hS hK => h K S hS fun a h => hK a h.out⟩
theorem groB_grow {g : Nat} {P : Program} {ops : Array Oper} {Q : Exit → Act → World → Prop} {ks : Nat → Gro} {i : Nat} {r : List Nat} {o : Oper} {a : Act} {w : World} (ho : ops[i]? = some o) (hk : ks i = .grow)
    (h : ∀ K : Act → World → Prop, (∀ a w', w.grownBy w' (some g) ∧ GroB g P ops Q ks r a w' → K a w') → if Region.wanted o (yielded ops a.tmps) = true then o.wp P a w K Q else K (a.put o.dst undef) w) : GroB g P ops Q ks (i :: r) a w :=
  ⟨groL0_grow ho hk fun K hK => h K fun a w' h => hK a w' ⟨h.1, h.2.out⟩⟩
theorem wp_region_grob (g : Nat) {P : Program} {Q : Exit → Act → World → Prop} {id : Nat} {a : Act} {w : World} {l : List Oper} (ks : Nat → Gro) (ord : List Nat) (hm : P.follows .mixedOrders = true) (hsel : Region.noSelect l.toArray = true) (hn : ord.length = l.length)
    (hB : groText .any l.toArray ks ord (Array.replicate l.toArray.size false) = true) (hQ : ∀ c a w d v, Q (.panic c) (a.put (some d) v) w → Q (.panic c) a w)
    (h : GroB g P l.toArray Q ks ord a w.drew) : (Code.region id l.toArray true).wp P Q a w := wp_region_gro0 ks ord hm hsel hn hB hQ h.out
/-- What lies elsewhere stays. -/
theorem grown_some {g : Nat} {w w' : World} (hx : w.grownBy w' (some g)) (p : Addr) (hne : p.block ≠ g) (h : (w.cell? p).isSome = true) : w'.cell? p = w.cell? p := by
  obtain ⟨v, hv⟩ := Option.isSome_iff_exists.1 h
  exact World.cell?_of_block (w := w) (hx.block p.block (World.block_lt_of_cell? w p hv) (fun e => hne (Option.some.inj e)))
/-- A cell that holds something holds it still when memory has been made. -/
theorem ext_some {w w' : World} (hx : Ext w w') (p : Addr) (h : (w.cell? p).isSome = true) : w'.cell? p = w.cell? p := by
  obtain ⟨v, hv⟩ := Option.isSome_iff_exists.1 h
  exact Below.cell hx (World.block_lt_of_cell? w p hv)
end Go.Proofs.Ytngnplghjaojhaa

/- A region that draws its order, by what holds when some of its operations have been carried out. No program in sight. -/
namespace Go.Proofs.Ytngnplghjaojhaa
set_option maxRecDepth 100000
set_option maxHeartbeats 2000000
set_option linter.unusedSimpArgs false
open Go.RowKit Go.Sort
set_option linter.unusedVariables false

section
variable {P : Program} {md : Region.Mode} {ops : Array Oper} {Q : Exit → Act → World → Prop}
/-- Operations wait for earlier ones only. -/
def acycB (md : Region.Mode) (ops : Array Oper) : Bool := (List.range ops.size).all fun i => match ops[i]? with
  | none => true
  | some o => o.after.all (fun e => !Region.binds md e || decide (e.on < i))
theorem acyc_ready {listed : Array Bool} (hB : acycB md ops = true) (hz : listed.size = ops.size) (hr : Region.ready md ops listed = []) : ∀ j, j < ops.size → listed.getD j true = true := by
  intro j
  induction j using Nat.strongRecOn with
  | _ j ih =>
    intro hj
    refine Classical.byContradiction fun hne => ?_
    have hf : listed.getD j true = false := by simpa using hne
    have hm : j ∈ Region.ready md ops listed := by
      refine mem_ready.2 ⟨hf, ops[j], Array.getElem?_eq_getElem hj, fun e he hb => ?_⟩
      have h1 := List.all_eq_true.1 hB j (List.mem_range.2 hj)
      simp only [Array.getElem?_eq_getElem hj] at h1
      have h2 := Array.all_eq_true'.1 h1 e he
      simp only [hb, Bool.not_true, Bool.false_or, decide_eq_true_eq] at h2
      have h3 := ih e.on h2 (by omega)
      have hlt : e.on < listed.size := by omega
      simp only [Array.getD, hlt, dif_pos] at h3 ⊢
      exact h3
    rw [hr] at hm
    cases hm
theorem wpAny_of_inv {R : Array Bool → Act → World → Prop} (hB : acycB md ops = true)
    (hs : ∀ listed a w i o, listed.size = ops.size → ops[i]? = some o → i ∈ Region.ready md ops listed → R listed a w → opG P ops Q o (R (listed.setIfInBounds i true)) a w)
    (he : ∀ listed a w, listed.size = ops.size → (∀ j, j < ops.size → listed.getD j true = true) → R listed a w → Q .normal a w) :
    ∀ (f : Nat) (listed : Array Bool) (a : Act) (w : World), listed.size = ops.size → listed.toList.count false = f → R listed a w → wpAny P md ops Q f listed a w
  | 0, listed, a, w, hz, hc, h => by
    have hr : Region.ready md ops listed = [] := by
      refine List.eq_nil_iff_forall_not_mem.2 fun i hi => ?_
      obtain ⟨hf, o, ho, _⟩ := mem_ready.1 hi
      have hlt : i < listed.size := by rw [hz]; exact (Array.getElem?_eq_some_iff.1 ho).1
      simp only [Array.getD, hlt, dif_pos] at hf
      have hm : false ∈ listed.toList := by
        have h1 := List.getElem_mem (l := listed.toList) (n := i) (by simpa using hlt)
        have h2 : listed.toList[i]'(by simpa using hlt) = false := by simpa using hf
        rwa [h2] at h1
      have := List.count_pos_iff.2 hm
      omega
    exact ⟨hr, he listed a w hz (acyc_ready hB hz hr) h⟩
  | f + 1, listed, a, w, hz, hc, h => by
    refine ⟨fun hr => he listed a w hz (acyc_ready hB hz hr) h, fun i hi => ?_⟩
    obtain ⟨hf, o, ho, hdep⟩ := mem_ready.1 hi
    have hlt : i < listed.size := by rw [hz]; exact (Array.getElem?_eq_some_iff.1 ho).1
    simp only [Array.getD, hlt, dif_pos] at hf
    refine wpOp_of_opG ho (opG_mono (fun a' w' h' => wpAny_of_inv hB hs he f _ a' w' (by simpa using hz) ?_ h') (hs listed a w i o hz ho hi h))
    have hl : i < listed.toList.length := by simpa using hlt
    have hg : listed.toList[i] = false := by simpa using hf
    rw [Array.toList_setIfInBounds, List.count_set hl, hg]
    show listed.toList.count false - 1 + 0 = f
    omega
/-- The slots that a region fills. -/
def puts (a : Act) : List Tmp → List Value → Act
  | s :: ss, v :: vs => puts (a.put (some s) v) ss vs
  | _, _ => a
def depB (md : Region.Mode) (ops : Array Oper) (dep : Nat → List Nat) : Bool := (List.range ops.size).all fun i => match ops[i]? with
  | none => true
  | some o => (dep i).all fun d => o.after.any (fun e => Region.binds md e && e.on == d)
def updB (S : Nat → Bool) (i : Nat) : Nat → Bool := fun j => if j = i then true else S j
theorem updB_at (S : Nat → Bool) (i : Nat) : updB S i i = true := if_pos rfl
theorem updB_ne (S : Nat → Bool) {i j : Nat} (h : j ≠ i) : updB S i j = S j := if_neg h
/-- What is owed at each operation. -/
def stepsI (P : Program) (Q : Exit → Act → World → Prop) (l : Array Oper) (a0 : Act) (slots : List Tmp) (dep : Nat → List Nat) (F : (Nat → Bool) → List Value → World → Prop) : List Oper → Nat → Prop
  | [], _ => True
  | o :: r, i => (∀ S us w', (∀ d ∈ dep i, S d = true) → S i = false → F S us w' → ∀ K : Act → World → Prop, (∀ us' w'', F (updB S i) us' w'' → K (puts a0 slots us') w'') →
      if Region.wanted o (yielded l (puts a0 slots us).tmps) = true then o.wp P (puts a0 slots us) w' K Q else K ((puts a0 slots us).put o.dst undef) w') ∧ stepsI P Q l a0 slots dep F r (i + 1)
theorem stepsI_at {l : Array Oper} {a0 : Act} {slots : List Tmp} {dep : Nat → List Nat} {F : (Nat → Bool) → List Value → World → Prop} : ∀ (r : List Oper) (k : Nat), stepsI P Q l a0 slots dep F r k → ∀ i o, r[i]? = some o →
    (∀ S us w', (∀ d ∈ dep (k + i), S d = true) → S (k + i) = false → F S us w' → ∀ K : Act → World → Prop, (∀ us' w'', F (updB S (k + i)) us' w'' → K (puts a0 slots us') w'') →
      if Region.wanted o (yielded l (puts a0 slots us).tmps) = true then o.wp P (puts a0 slots us) w' K Q else K ((puts a0 slots us).put o.dst undef) w')
  | [], _, _, i, o, h => by simp at h
  | x :: r, k, hs, 0, o, h => by
    simp only [List.getElem?_cons_zero, Option.some.injEq] at h
    subst h
    exact hs.1
  | x :: r, k, hs, i + 1, o, h => by
    rw [List.getElem?_cons_succ] at h
    have := stepsI_at r (k + 1) hs.2 i o h
    rw [show k + 1 + i = k + (i + 1) from by omega] at this
    exact this
theorem wp_region_inv {id : Nat} {a0 : Act} {w : World} {l : List Oper} (slots : List Tmp) (us0 : List Value) (dep : Nat → List Nat) (F : (Nat → Bool) → List Value → World → Prop)
    (hm : P.follows .mixedOrders = true) (hB : acycB .any l.toArray = true) (hD : depB .any l.toArray dep = true)
    (ha : puts a0 slots us0 = a0) (h0 : F (fun _ => false) us0 w.drew)
    (hst : stepsI P Q l.toArray a0 slots dep F l 0)
    (he : ∀ S us w', (∀ j, j < l.length → S j = true) → F S us w' → Q .normal (puts a0 slots us) w') : (Code.region id l.toArray true).wp P Q a0 w := by
  have hs : ∀ i o, l.toArray[i]? = some o → ∀ S us w', (∀ d ∈ dep i, S d = true) → S i = false → F S us w' → ∀ K : Act → World → Prop, (∀ us' w'', F (updB S i) us' w'' → K (puts a0 slots us') w'') →
      if Region.wanted o (yielded l.toArray (puts a0 slots us).tmps) = true then o.wp P (puts a0 slots us) w' K Q else K ((puts a0 slots us).put o.dst undef) w' := fun i o ho => by
    have := stepsI_at l 0 hst i o (by simpa using ho)
    rw [Nat.zero_add] at this
    exact this
  refine wp_region_any hm ?_
  refine wpAny_of_inv (md := .any) (R := fun listed a w' => ∃ us, a = puts a0 slots us ∧ F (fun j => listed.getD j false) us w') hB ?_ ?_ _ _ _ _ (by simp) (by simp) ⟨us0, ha.symm, ?_⟩
  · rintro listed a w' i o hz ho hi ⟨us, rfl, hF⟩
    obtain ⟨hf, o', ho', hdep⟩ := mem_ready.1 hi
    obtain rfl : o = o' := Option.some.inj (ho.symm.trans ho')
    have hlt : i < listed.size := by rw [hz]; exact (Array.getElem?_eq_some_iff.1 ho).1
    have hlt' : i < l.toArray.size := by omega
    have hfi : listed.getD i false = false := by
      simp only [Array.getD, hlt, dif_pos] at hf ⊢
      exact hf
    refine hs i o ho (fun j => listed.getD j false) us w' (fun d hd => ?_) hfi hF _ (fun us' w'' h' => ⟨us', rfl, ?_⟩)
    · have h1 := List.all_eq_true.1 hD i (List.mem_range.2 hlt')
      simp only [ho] at h1
      have h2 := List.all_eq_true.1 h1 d hd
      obtain ⟨e, he1, he2⟩ := Array.any_eq_true'.1 h2
      simp only [Bool.and_eq_true, beq_iff_eq] at he2
      have h3 := hdep e he1 he2.1
      rw [he2.2] at h3
      exact h3
    · have : (fun j => (listed.setIfInBounds i true).getD j false) = updB (fun j => listed.getD j false) i := by
        funext j
        by_cases e : j = i
        · subst e; rw [updB_at]; simp [Array.getD, hlt]
        · rw [updB_ne _ e, getD_set_ne false (Ne.symm e)]
      rw [this]
      exact h'
  · rintro listed a w' hz hall ⟨us, rfl, hF⟩
    refine he _ us w' (fun j hj => ?_) hF
    have h1 := hall j (by simpa using hj)
    have hlt : j < listed.size := by rw [hz]; simpa using hj
    simp only [Array.getD, hlt, dif_pos] at h1 ⊢
    exact h1
  · have : (fun j => (Array.replicate l.toArray.size false).getD j false) = fun _ => false := by
      funext j
      simp only [Array.getD]
      split
      · simp
      · rfl
    rw [this]
    exact h0
end
end Go.Proofs.Ytngnplghjaojhaa

/- Two structs are made by two calls, each kept in a box of its own, in one statement: whatever order the calls, the boxes and the stores come in. No program in sight. -/
namespace Go.Proofs.Ytngnplghjaojhaa
set_option maxRecDepth 100000
set_option maxHeartbeats 2000000
set_option linter.unusedSimpArgs false
open Go.RowKit Go.Sort
set_option linter.unusedVariables false

/-- Cells of a block are written, one behind the other. -/
def setC : World → Nat → Nat → List Value → World
  | W, _, _, [] => W
  | W, g, i, x :: xs => setC (W.setCell ⟨g, i, none⟩ x) g (i + 1) xs
theorem row_setC_ne {g g' : Nat} {t : TypeId} {ys : List Value} (hg : g ≠ g') : ∀ (xs : List Value) (i : Nat) {W : World}, RowAt W g' t ys → RowAt (setC W g i xs) g' t ys
  | [], _, _, h => h
  | x :: xs, i, _, h => row_setC_ne hg xs (i + 1) (h.kept (grown_set _ g i x) (fun e => hg (Option.some.inj e)))
theorem row_setC {g : Nat} {t : TypeId} : ∀ (xs pre ys : List Value) {W : World}, RowAt W g t (pre ++ ys) → ys.length = xs.length → RowAt (setC W g pre.length xs) g t (pre ++ xs)
  | [], pre, ys, W, h, hl => by
    obtain rfl : ys = [] := List.eq_nil_of_length_eq_zero (by simpa using hl)
    exact h
  | x :: xs, pre, y :: ys, W, h, hl => by
    have h1 := h.set pre.length x
    rw [List.set_append_right _ _ (Nat.le_refl _), Nat.sub_self, List.set_cons_zero] at h1
    have h2 := row_setC xs (pre ++ [x]) ys (W := W.setCell ⟨g, pre.length, none⟩ x) (by rw [List.append_assoc]; exact h1) (by simpa using hl)
    rw [List.length_append, List.length_singleton, List.append_assoc] at h2
    exact h2
theorem below_setC {B g : Nat} {w : World} (hg : B ≤ g) : ∀ (xs : List Value) (i : Nat) {W : World}, Below B w W → Below B w (setC W g i xs)
  | [], _, _, h => h
  | x :: xs, i, _, h => below_setC hg xs (i + 1) (h.setCell (p := ⟨g, i, none⟩) hg x)
theorem grown_setC {g : Nat} : ∀ (xs : List Value) (i : Nat) (W : World), W.grownBy (setC W g i xs) (some g)
  | [], _, W => (grown_ext (Ext.refl W)).but _
  | x :: xs, i, W => (grown_set W g i x).trans (grown_setC xs (i + 1) _)
theorem own_setC_ne {W : World} {B size n g : Nat} {e t : TypeId} {v : Value} {xs ys : List Value} (h : W.ownsRow B e size v n xs) (hr : RowAt W g t ys) (hne : e ≠ t) (zs : List Value) (i : Nat) : (setC W g i zs).ownsRow B e size v n xs := by
  refine ⟨h.1, ?_⟩
  rcases h.2 with hn | ⟨g', cap, cur, rfl, hbg, hgg, rest⟩
  · exact .inl hn
  · refine .inr ⟨g', cap, cur, rfl, hbg, ?_, rest⟩
    have hg : g' ≠ g := by
      rintro rfl
      have h1 := hgg.symm.trans hr
      simp only [Option.some.injEq, Obj.cells.injEq] at h1
      exact hne h1.2.1
    exact ((grown_setC zs i W).block g' (Array.getElem?_eq_some_iff.1 hgg).1 (fun e => hg (Option.some.inj e))).trans hgg
/-- What is so stays so where memory is made, and where the boxes are written. -/
structure Firm (T0 T1 : TypeId) (O : World → Value → Prop) : Prop where
  ext : ∀ {W W' : World} {c : Value}, Ext W W' → O W c → O W' c
  set : ∀ {W : World} {g : Nat} {t : TypeId} {ys xs : List Value} {i : Nat} {c : Value}, RowAt W g t ys → (t = T0 ∨ t = T1) → O W c → O (setC W g i xs) c
structure PairF (w0 : World) (V0 V1 : Value) (O0 O1 : World → Value → Prop) (T0 T1 : TypeId) (z0 z1 : List Value) (S : Nat → Bool) (l0 c0 l1 c1 x0 x1 : Value) (W : World) : Prop where
  ext : Ext w0 W
  a0 : S 0 = true → l0 = V0
  a1 : S 1 = true → O0 W c0
  a2 : S 2 = true → l1 = V1
  a3 : S 3 = true → O1 W c1
  a4 : S 4 = true → ∃ g, x0 = .pointer (some ⟨g, 0, none⟩) ∧ w0.heap.size ≤ g ∧ RowAt W g T0 (if S 6 = true then c0.cells.toList else z0)
  a5 : S 5 = true → ∃ g, x1 = .pointer (some ⟨g, 0, none⟩) ∧ w0.heap.size ≤ g ∧ RowAt W g T1 (if S 7 = true then c1.cells.toList else z1)
  ne : S 4 = true → S 5 = true → x0 ≠ x1
  d6 : S 6 = true → S 1 = true
  d7 : S 7 = true → S 3 = true
  s6 : S 6 = true → S 4 = true
  s7 : S 7 = true → S 5 = true
/-- As the region's law wants it. -/
def PairG (w0 : World) (V0 V1 : Value) (O0 O1 : World → Value → Prop) (T0 T1 : TypeId) (z0 z1 : List Value) (S : Nat → Bool) (us : List Value) (W : World) : Prop :=
  ∃ l0 c0 l1 c1 x0 x1, us = [l0, c0, l1, c1, x0, x1] ∧ PairF w0 V0 V1 O0 O1 T0 T1 z0 z1 S l0 c0 l1 c1 x0 x1 W
section
variable {w0 : World} {V0 V1 : Value} {O0 O1 : World → Value → Prop} {T0 T1 : TypeId} {z0 z1 : List Value} {S : Nat → Bool} {l0 c0 l1 c1 x0 x1 : Value} {W : World}
theorem PairG.start (us : List Value) (hl : us.length = 6) (hx : Ext w0 W) : PairG w0 V0 V1 O0 O1 T0 T1 z0 z1 (fun _ => false) us W := by
  match us, hl with
  | [l0, c0, l1, c1, x0, x1], _ => exact ⟨l0, c0, l1, c1, x0, x1, rfl, hx, nofun, nofun, nofun, nofun, nofun, nofun, nofun, nofun, nofun, nofun, nofun⟩
theorem PairF.g (h : PairF w0 V0 V1 O0 O1 T0 T1 z0 z1 S l0 c0 l1 c1 x0 x1 W) : PairG w0 V0 V1 O0 O1 T0 T1 z0 z1 S [l0, c0, l1, c1, x0, x1] W := ⟨_, _, _, _, _, _, rfl, h⟩
theorem PairF.load0 (h : PairF w0 V0 V1 O0 O1 T0 T1 z0 z1 S l0 c0 l1 c1 x0 x1 W) : PairG w0 V0 V1 O0 O1 T0 T1 z0 z1 (updB S 0) [V0, c0, l1, c1, x0, x1] W :=
  PairF.g ⟨h.ext, fun _ => rfl, h.a1, h.a2, h.a3, h.a4, h.a5, h.ne, h.d6, h.d7, h.s6, h.s7⟩
theorem PairF.load1 (h : PairF w0 V0 V1 O0 O1 T0 T1 z0 z1 S l0 c0 l1 c1 x0 x1 W) : PairG w0 V0 V1 O0 O1 T0 T1 z0 z1 (updB S 2) [l0, c0, V1, c1, x0, x1] W :=
  PairF.g ⟨h.ext, h.a0, h.a1, fun _ => rfl, h.a3, h.a4, h.a5, h.ne, h.d6, h.d7, h.s6, h.s7⟩
theorem PairF.call0 (h : PairF w0 V0 V1 O0 O1 T0 T1 z0 z1 S l0 c0 l1 c1 x0 x1 W) (F1 : Firm T0 T1 O1) (hn : S 1 = false) {W' : World} {u : Value} (hx : Ext W W') (ho : O0 W' u) :
    PairG w0 V0 V1 O0 O1 T0 T1 z0 z1 (updB S 1) [l0, u, l1, c1, x0, x1] W' := by
  have h6 : ¬ S 6 = true := fun e => by have := h.d6 e; rw [hn] at this; cases this
  refine PairF.g ⟨h.ext.trans hx, h.a0, fun _ => ho, h.a2, fun e => F1.ext hx (h.a3 e), fun e => ?_, fun e => ?_, h.ne, fun _ => rfl, fun e => h.d7 e, h.s6, h.s7⟩
  · obtain ⟨g, e1, e2, e3⟩ := h.a4 e
    rw [if_neg h6] at e3
    exact ⟨g, e1, e2, by rw [if_neg (show ¬ updB S 1 6 = true from h6)]; exact e3.ext hx⟩
  · obtain ⟨g, e1, e2, e3⟩ := h.a5 e
    exact ⟨g, e1, e2, e3.ext hx⟩
theorem PairF.call1 (h : PairF w0 V0 V1 O0 O1 T0 T1 z0 z1 S l0 c0 l1 c1 x0 x1 W) (F0 : Firm T0 T1 O0) (hn : S 3 = false) {W' : World} {u : Value} (hx : Ext W W') (ho : O1 W' u) :
    PairG w0 V0 V1 O0 O1 T0 T1 z0 z1 (updB S 3) [l0, c0, l1, u, x0, x1] W' := by
  have h7 : ¬ S 7 = true := fun e => by have := h.d7 e; rw [hn] at this; cases this
  refine PairF.g ⟨h.ext.trans hx, h.a0, fun e => F0.ext hx (h.a1 e), h.a2, fun _ => ho, fun e => ?_, fun e => ?_, h.ne, fun e => h.d6 e, fun _ => rfl, h.s6, h.s7⟩
  · obtain ⟨g, e1, e2, e3⟩ := h.a4 e
    exact ⟨g, e1, e2, e3.ext hx⟩
  · obtain ⟨g, e1, e2, e3⟩ := h.a5 e
    rw [if_neg h7] at e3
    exact ⟨g, e1, e2, by rw [if_neg (show ¬ updB S 3 7 = true from h7)]; exact e3.ext hx⟩
theorem PairF.new0 (h : PairF w0 V0 V1 O0 O1 T0 T1 z0 z1 S l0 c0 l1 c1 x0 x1 W) (F0 : Firm T0 T1 O0) (F1 : Firm T0 T1 O1) (hn : S 4 = false) :
    PairG w0 V0 V1 O0 O1 T0 T1 z0 z1 (updB S 4) [l0, c0, l1, c1, .pointer (some ⟨W.heap.size, 0, none⟩), x1] (W.alloc (.cells z0.toArray T0)) := by
  have hx := Ext.alloc W (.cells z0.toArray T0)
  have h6 : ¬ S 6 = true := fun e => by have := h.s6 e; rw [hn] at this; cases this
  refine PairF.g ⟨h.ext.trans hx, h.a0, fun e => F0.ext hx (h.a1 e), h.a2, fun e => F1.ext hx (h.a3 e), fun _ => ⟨_, rfl, h.ext.size, ?_⟩, fun e => ?_, fun _ e he => ?_, h.d6, h.d7, fun _ => rfl, h.s7⟩
  · rw [if_neg (show ¬ updB S 4 6 = true from h6)]
    exact RowAt.new _ _ _
  · obtain ⟨g, e1, e2, e3⟩ := h.a5 e
    exact ⟨g, e1, e2, e3.ext hx⟩
  · obtain ⟨g, e1, e2, e3⟩ := h.a5 e
    rw [e1] at he
    have := e3.lt
    simp at he
    try omega
theorem PairF.new1 (h : PairF w0 V0 V1 O0 O1 T0 T1 z0 z1 S l0 c0 l1 c1 x0 x1 W) (F0 : Firm T0 T1 O0) (F1 : Firm T0 T1 O1) (hn : S 5 = false) :
    PairG w0 V0 V1 O0 O1 T0 T1 z0 z1 (updB S 5) [l0, c0, l1, c1, x0, .pointer (some ⟨W.heap.size, 0, none⟩)] (W.alloc (.cells z1.toArray T1)) := by
  have hx := Ext.alloc W (.cells z1.toArray T1)
  have h7 : ¬ S 7 = true := fun e => by have := h.s7 e; rw [hn] at this; cases this
  refine PairF.g ⟨h.ext.trans hx, h.a0, fun e => F0.ext hx (h.a1 e), h.a2, fun e => F1.ext hx (h.a3 e), fun e => ?_, fun _ => ⟨_, rfl, h.ext.size, ?_⟩, fun e _ he => ?_, h.d6, h.d7, h.s6, fun _ => rfl⟩
  · obtain ⟨g, e1, e2, e3⟩ := h.a4 e
    exact ⟨g, e1, e2, e3.ext hx⟩
  · rw [if_neg (show ¬ updB S 5 7 = true from h7)]
    exact RowAt.new _ _ _
  · obtain ⟨g, e1, e2, e3⟩ := h.a4 e
    rw [e1] at he
    have := e3.lt
    simp at he
    try omega
theorem PairF.store0 (h : PairF w0 V0 V1 O0 O1 T0 T1 z0 z1 S l0 c0 l1 c1 x0 x1 W) (F0 : Firm T0 T1 O0) (F1 : Firm T0 T1 O1) (h1 : S 1 = true) (hn : S 6 = false) {g : Nat} (hx : x0 = .pointer (some ⟨g, 0, none⟩)) (h4 : S 4 = true) (hz : z0.length = c0.cells.toList.length) :
    PairG w0 V0 V1 O0 O1 T0 T1 z0 z1 (updB S 6) [l0, c0, l1, c1, x0, x1] (setC W g 0 c0.cells.toList) := by
  obtain ⟨g', e1, e2, e3⟩ := h.a4 h4
  rw [hx] at e1
  cases e1
  rw [if_neg (by rw [hn]; simp)] at e3
  refine PairF.g ⟨below_setC e2 _ 0 h.ext, h.a0, fun e => F0.set e3 (.inl rfl) (h.a1 e), h.a2, fun e => F1.set e3 (.inl rfl) (h.a3 e), fun _ => ⟨g, hx, e2, ?_⟩, fun e => ?_, h.ne, fun _ => h1, h.d7, fun _ => h4, h.s7⟩
  · rw [if_pos (updB_at S 6)]
    exact row_setC c0.cells.toList [] z0 e3 hz
  · obtain ⟨g2, f1, f2, f3⟩ := h.a5 e
    refine ⟨g2, f1, f2, row_setC_ne (fun he => ?_) _ _ f3⟩
    exact h.ne h4 e (by rw [hx, f1, he])
theorem PairF.store1 (h : PairF w0 V0 V1 O0 O1 T0 T1 z0 z1 S l0 c0 l1 c1 x0 x1 W) (F0 : Firm T0 T1 O0) (F1 : Firm T0 T1 O1) (h1 : S 3 = true) (hn : S 7 = false) {g : Nat} (hx : x1 = .pointer (some ⟨g, 0, none⟩)) (h4 : S 5 = true) (hz : z1.length = c1.cells.toList.length) :
    PairG w0 V0 V1 O0 O1 T0 T1 z0 z1 (updB S 7) [l0, c0, l1, c1, x0, x1] (setC W g 0 c1.cells.toList) := by
  obtain ⟨g', e1, e2, e3⟩ := h.a5 h4
  rw [hx] at e1
  cases e1
  rw [if_neg (by rw [hn]; simp)] at e3
  refine PairF.g ⟨below_setC e2 _ 0 h.ext, h.a0, fun e => F0.set e3 (.inr rfl) (h.a1 e), h.a2, fun e => F1.set e3 (.inr rfl) (h.a3 e), fun e => ?_, fun _ => ⟨g, hx, e2, ?_⟩, h.ne, h.d6, fun _ => h1, h.s6, fun _ => h4⟩
  · obtain ⟨g2, f1, f2, f3⟩ := h.a4 e
    refine ⟨g2, f1, f2, row_setC_ne (fun he => ?_) _ _ f3⟩
    exact h.ne e h4 (by rw [hx, f1, he])
  · rw [if_pos (updB_at S 7)]
    exact row_setC c1.cells.toList [] z1 e3 hz
end
theorem puts_self : ∀ (a : Act) (slots : List Tmp), puts a slots (slots.map fun s => a.tmps.getD s undef) = a
  | _, [] => rfl
  | a, s :: ss => by
    have h : a.put (some s) (a.tmps.getD s undef) = a := by
      obtain ⟨t, d⟩ := a
      show (⟨t.setIfInBounds s (t.getD s undef), d⟩ : Act) = ⟨t, d⟩
      congr 1
      apply Array.ext_getElem?
      intro i
      rw [Array.getElem?_setIfInBounds]
      split
      · rename_i e
        subst e
        split
        · rename_i hl
          simp [Array.getD, hl]
        · rename_i hl
          rw [Array.getElem?_eq_none (by omega)]
      · rfl
    show puts (a.put (some s) (a.tmps.getD s undef)) ss (ss.map fun s => a.tmps.getD s undef) = a
    rw [h]
    exact puts_self a ss
end Go.Proofs.Ytngnplghjaojhaa

/- A region that draws its order, while blocks of a list may be written; whole rows are loaded and stored in one step. No program in sight. -/
namespace Go.Proofs.Ytngnplghjaojhaa
set_option maxRecDepth 100000
set_option maxHeartbeats 2000000
set_option linter.unusedSimpArgs false
open Go.RowKit Go.Sort
set_option linter.unusedVariables false

/-- Only blocks of a list have changed, and there may be new ones. -/
structure Grows (X : List Nat) (w w' : World) : Prop where
  os : w'.os = w.os
  tape : w'.tape = w.tape
  output : w'.output = w.output
  size : w.heap.size ≤ w'.heap.size
  block : ∀ i, i < w.heap.size → i ∉ X → w'.heap[i]? = w.heap[i]?
theorem Grows.refl (X : List Nat) (w : World) : Grows X w w := ⟨rfl, rfl, rfl, Nat.le_refl _, fun _ _ _ => rfl⟩
theorem Grows.trans {X : List Nat} {a b c : World} (h : Grows X a b) (k : Grows X b c) : Grows X a c :=
  ⟨k.os.trans h.os, k.tape.trans h.tape, k.output.trans h.output, Nat.le_trans h.size k.size, fun i hi hn => (k.block i (Nat.lt_of_lt_of_le hi h.size) hn).trans (h.block i hi hn)⟩
theorem Grows.ext {X : List Nat} {w w' : World} (h : Ext w w') : Grows X w w' := ⟨h.os, h.tape, h.output, h.size, fun i hi _ => h.block i hi⟩
theorem Grows.one {X : List Nat} {w w' : World} {g : Nat} (h : w.grownBy w' (some g)) (hg : g ∈ X) : Grows X w w' := ⟨h.os, h.tape, h.output, h.size, fun i hi hn => h.block i hi (fun e => hn (by cases e; exact hg))⟩
theorem Grows.row {X : List Nat} {w w' : World} {b : Nat} {t : TypeId} {xs : List Value} (h : Grows X w w') (hr : RowAt w b t xs) (hn : b ∉ X) : RowAt w' b t xs := (h.block b hr.lt hn).trans hr
theorem Grows.set {X : List Nat} {w : World} {g : Nat} (hg : g ∈ X) (i : Nat) (v : Value) : Grows X w (w.setCell ⟨g, i, none⟩ v) := Grows.one (grown_set w g i v) hg
theorem setRow_grown (w : World) (g : Nat) (cs : Array Value) : w.grownBy (w.setRow g cs) (some g) :=
  ⟨rfl, rfl, rfl, by simp [World.setRow], fun i hi hn => setRow_other w g i cs (fun e => hn (by rw [e]))⟩
theorem Grows.setRow {X : List Nat} {w : World} {g : Nat} (hg : g ∈ X) (cs : Array Value) : Grows X w (w.setRow g cs) := Grows.one (setRow_grown w g cs) hg
theorem RowAt.setRow {w : World} {g : Nat} {t : TypeId} {old : List Value} (h : RowAt w g t old) (xs : List Value) : RowAt (w.setRow g xs.toArray) g t xs := setRow_heap _ _ _ _ _ _ h
theorem RowAt.range {w : World} {g : Nat} {t : TypeId} {pre cs post : List Value} (h : RowAt w g t (pre ++ cs ++ post)) : w.rangeAt g pre.length cs := fun j v hv => by
  refine h.cell ?_
  rw [List.append_assoc, List.getElem?_append_right (by omega), Nat.add_sub_cancel_left, List.getElem?_append_left (List.getElem?_eq_some_iff.1 hv).1]
  exact hv
theorem RowAt.whole {w : World} {g : Nat} {t : TypeId} {cs : List Value} (h : RowAt w g t cs) : w.rangeAt g 0 cs := fun j v hv => h.cell (by rw [Nat.zero_add]; exact hv)
theorem Grows.range {X : List Nat} {w w' : World} {b o : Nat} {cs : List Value} (h : Grows X w w') (hc : w.rangeAt b o cs) (hn : b ∉ X) : w'.rangeAt b o cs := fun j v hv => by
  have h1 := hc j v hv
  exact (World.cell?_of_block (w := w) (h.block b (World.block_lt_of_cell? w _ h1) hn)).trans h1
theorem grows_some {X : List Nat} {w w' : World} (hx : Grows X w w') (p : Addr) (hne : p.block ∉ X) (h : (w.cell? p).isSome = true) : w'.cell? p = w.cell? p := by
  obtain ⟨v, hv⟩ := Option.isSome_iff_exists.1 h
  exact World.cell?_of_block (w := w) (hx.block p.block (World.block_lt_of_cell? w p hv) hne)
instance growsRel (X : List Nat) : Rel (Grows X) := ⟨Grows.refl X, fun h k => h.trans k⟩
structure GroX (X : List Nat) (P : Program) (ops : Array Oper) (Q : Exit → Act → World → Prop) (ks : Nat → Gro) (l : List Nat) (a : Act) (w : World) : Prop where
  out : groL (Grows X) P ops Q ks l a w
section
variable {X : List Nat} {P : Program} {ops : Array Oper} {Q : Exit → Act → World → Prop} {ks : Nat → Gro} {a : Act} {w : World} {i : Nat} {r : List Nat} {o : Oper}
theorem groX_nil (h : Q .normal a w) : GroX X P ops Q ks [] a w := ⟨h⟩
theorem groX_pure (ho : ops[i]? = some o) (hk : ks i = .pure)
    (h : ∀ K : Act → Prop, (∀ a, GroX X P ops Q ks r a w → K a) → if Region.wanted o (yielded ops a.tmps) = true then ∃ v, (∀ w', (execOp a.eval o).run P w' = .ok (.value v) w') ∧ K (a.put o.dst v) else K (a.put o.dst undef)) : GroX X P ops Q ks (i :: r) a w :=
  ⟨groL0_pure ho hk fun K hK => h K fun a h => hK a h.out⟩
theorem groX_read (ho : ops[i]? = some o) (hk : ks i = .read)
    (h : ∀ (K : Act → Prop) (S : Value → Prop), (∀ v, Stays (Grows X) P o a w v → S v) → (∀ a, GroX X P ops Q ks r a w → K a) → if Region.wanted o (yielded ops a.tmps) = true then ∃ v, o.quietAt P a (fun x => x = w) w v ∧ S v ∧ K (a.put o.dst v) else K (a.put o.dst undef)) : GroX X P ops Q ks (i :: r) a w :=
  ⟨groL0_read ho hk fun K S hS hK => h K S hS fun a h => hK a h.out⟩
theorem groX_grow (ho : ops[i]? = some o) (hk : ks i = .grow)
    (h : ∀ K : Act → World → Prop, (∀ a w', Grows X w w' ∧ GroX X P ops Q ks r a w' → K a w') → if Region.wanted o (yielded ops a.tmps) = true then o.wp P a w K Q else K (a.put o.dst undef) w) : GroX X P ops Q ks (i :: r) a w :=
  ⟨groL0_grow ho hk fun K hK => h K fun a w' h => hK a w' ⟨h.1, h.2.out⟩⟩
theorem wanted_none (hgd : o.guard = none) (ops : Array Oper) (tmps : Array Value) : Region.wanted o (yielded ops tmps) = true := by simp [Region.wanted, hgd]
/-- A row is loaded. -/
theorem groX_load (ho : ops[i]? = some o) (hk : ks i = .read) (hgd : o.guard = none) (ty : TypeId) (x : Operand) (hop : o.op = .load ty x) (b off : Nat) (hx : a.eval x = .pointer (some ⟨b, off, none⟩)) (cs : List Value) (d : TypeDesc) (hc : w.rangeAt b off cs) (hb : b ∉ X)
    (hu : P.underlying ty = some d) (hd : d.isRow = true) (hi : (P.info? ty).map (·.size) = some cs.length)
    (h : GroX X P ops Q ks r (a.put o.dst (.agg cs.toArray)) w) : GroX X P ops Q ks (i :: r) a w := by
  refine groX_read ho hk fun K S hS hK => ?_
  rw [if_pos (wanted_none hgd _ _)]
  have hq : ∀ w', w'.rangeAt b off cs → o.quietAt P a (fun x => x = w') w' (.agg cs.toArray) := fun w' hc' => by
    unfold Oper.quietAt execOp
    simp only [hop, hx, Instr.loadAt, Instr.sureAddr, Sem.run_bind, Sem.run_pure, Result.andThen_ok, run_loadVar_mid w' b off ty cs d hc' hu hd hi]
    simp [Oper.quietUpon]
  exact ⟨_, hq w hc, hS _ (fun w' hg => hq w' (hg.range hc hb)), hK _ h⟩
/-- A row is stored. -/
theorem groX_store (ho : ops[i]? = some o) (hk : ks i = .grow) (hgd : o.guard = none) (ty : TypeId) (x y : Operand) (hop : o.op = .store ty x y) (g : Nat) (cs : List Value) (hx : a.eval x = .pointer (some ⟨g, 0, none⟩)) (hy : a.eval y = .agg cs.toArray)
    {t : TypeId} {old : List Value} (hg : RowAt w g t old) (hX : g ∈ X) (hi : (P.info? ty).map (·.size) = some cs.length) (hold : old.length = cs.length) (h1 : ∀ v ∈ cs, v.oneCell' = true)
    (h : GroX X P ops Q ks r (a.put o.dst undef) (w.setRow g cs.toArray)) : GroX X P ops Q ks (i :: r) a w := by
  refine groX_grow ho hk fun K hK => ?_
  rw [if_pos (wanted_none hgd _ _)]
  exact wp_store_row ty x y hop g cs.toArray hx hy t old.toArray hg (by simpa using hi) (by simpa using hold) (all_oneCell_toArray h1) (hK _ _ ⟨Grows.setRow hX _, h⟩)
theorem wp_region_grox (X : List Nat) {id : Nat} {l : List Oper} (ks : Nat → Gro) (ord : List Nat) (hm : P.follows .mixedOrders = true) (hsel : Region.noSelect l.toArray = true) (hn : ord.length = l.length)
    (hB : groText .any l.toArray ks ord (Array.replicate l.toArray.size false) = true) (hQ : ∀ c a w d v, Q (.panic c) (a.put (some d) v) w → Q (.panic c) a w)
    (h : GroX X P l.toArray Q ks ord a w.drew) : (Code.region id l.toArray true).wp P Q a w := wp_region_gro0 ks ord hm hsel hn hB hQ h.out
end
/-- Results that begin with a cell of a whole row. -/
theorem load_whole {P : Program} {w : World} {g : Nat} {t ty : TypeId} {xs : List Value} {d : TypeDesc} (h : RowAt w g t xs) (hu : P.underlying ty = some d) (hd : d.isRow = true) (hi : (P.info? ty).map (·.size) = some xs.length) : (loadVar ty ⟨g, 0, none⟩).run P w = .ok (.agg xs.toArray) w :=
  run_loadVar_mid w g 0 ty xs d h.whole hu hd hi
theorem results_row2 {P : Program} {fn : Func} {p u v : Tmp} {ty : TypeId} (h : fn.results = #[.cell p ty, .tmp u, .tmp v]) {tmps : Array Value} {w : World} {g : Nat} {t : TypeId} {xs : List Value} {d : TypeDesc}
    (hp : tmps.getD p undef = .pointer (some ⟨g, 0, none⟩)) (hg : RowAt w g t xs) (hu : P.underlying ty = some d) (hd : d.isRow = true) (hi : (P.info? ty).map (·.size) = some xs.length) :
    (results fn tmps).run P w = .ok (.tuple #[.agg xs.toArray, tmps.getD u undef, tmps.getD v undef]) w := by
  have hp' : tmps[p]?.getD undef = .pointer (some ⟨g, 0, none⟩) := by simpa using hp
  simp [results, h, hp', asAddr, load_whole hg hu hd hi]
theorem results_row1 {P : Program} {fn : Func} {p u : Tmp} {ty : TypeId} (h : fn.results = #[.cell p ty, .tmp u]) {tmps : Array Value} {w : World} {g : Nat} {t : TypeId} {xs : List Value} {d : TypeDesc}
    (hp : tmps.getD p undef = .pointer (some ⟨g, 0, none⟩)) (hg : RowAt w g t xs) (hu : P.underlying ty = some d) (hd : d.isRow = true) (hi : (P.info? ty).map (·.size) = some xs.length) :
    (results fn tmps).run P w = .ok (.tuple #[.agg xs.toArray, tmps.getD u undef]) w := by
  have hp' : tmps[p]?.getD undef = .pointer (some ⟨g, 0, none⟩) := by simpa using hp
  simp [results, h, hp', asAddr, load_whole hg hu hd hi]
theorem results_row0 {P : Program} {fn : Func} {p : Tmp} {ty : TypeId} (h : fn.results = #[.cell p ty]) {tmps : Array Value} {w : World} {g : Nat} {t : TypeId} {xs : List Value} {d : TypeDesc}
    (hp : tmps.getD p undef = .pointer (some ⟨g, 0, none⟩)) (hg : RowAt w g t xs) (hu : P.underlying ty = some d) (hd : d.isRow = true) (hi : (P.info? ty).map (·.size) = some xs.length) :
    (results fn tmps).run P w = .ok (.agg xs.toArray) w := by
  have hp' : tmps[p]?.getD undef = .pointer (some ⟨g, 0, none⟩) := by simpa using hp
  simp [results, h, hp', asAddr, load_whole hg hu hd hi]
/-- In a plain region. -/
theorem plain_load {P : Program} {Q : Exit → Act → World → Prop} {ops : Array Oper} {rest : List Oper} {o : Oper} {a : Act} {w : World} (hgd : o.guard = none) (ty : TypeId) (x : Operand) (ho : o.op = .load ty x) (g : Nat) (hx : a.eval x = .pointer (some ⟨g, 0, none⟩)) {t : TypeId} (cs : List Value) (d : TypeDesc) (hg : RowAt w g t cs)
    (hu : P.underlying ty = some d) (hd : d.isRow = true) (hi : (P.info? ty).map (·.size) = some cs.length)
    (h : wpList P ops Q rest (a.put o.dst (.agg cs.toArray)) w) : wpList P ops Q (o :: rest) a w :=
  wpList_load_mid hgd ty x ho g 0 hx cs d hg.whole hu hd hi h
theorem plain_store {P : Program} {Q : Exit → Act → World → Prop} {ops : Array Oper} {rest : List Oper} {o : Oper} {a : Act} {w : World} (hgd : o.guard = none) (ty : TypeId) (x y : Operand) (ho : o.op = .store ty x y) (g : Nat) (cs : List Value) (hx : a.eval x = .pointer (some ⟨g, 0, none⟩)) (hy : a.eval y = .agg cs.toArray)
    {t : TypeId} {old : List Value} (hg : RowAt w g t old) (hi : (P.info? ty).map (·.size) = some cs.length) (hold : old.length = cs.length) (h1 : ∀ v ∈ cs, v.oneCell' = true)
    (h : wpList P ops Q rest (a.put o.dst undef) (w.setRow g cs.toArray)) : wpList P ops Q (o :: rest) a w :=
  wpList_store_row hgd ty x y ho g cs.toArray hx hy t old.toArray hg (by simpa using hi) (by simpa using hold) (all_oneCell_toArray h1) h
end Go.Proofs.Ytngnplghjaojhaa

/- A range over a function whose iterator turns blocks of its own; a loop of such kind may stand within another's iterator. No program in sight. -/
namespace Go.Proofs.Ytngnplghjaojhaa
set_option maxRecDepth 100000
set_option maxHeartbeats 2000000
set_option linter.unusedVariables false
set_option linter.unusedSimpArgs false
open Go.RowKit Go.Sort

/-- What an iterator may do between the rounds: make blocks; turn what is no row from B on; turn rows of type T from X on. -/
def Turn (T : TypeId) (X B : Nat) (W W' : World) : Prop := ∃ row, W.grownBy W' row ∧ ∀ r, row = some r → ∃ o, W.heap[r]? = some o ∧ (B ≤ r ∧ o.isCells = false ∨ X ≤ r ∧ ∃ cs fr, o = .cells cs T fr)
theorem Turn.ext {T : TypeId} {X B : Nat} {W W' : World} (h : Ext W W') : Turn T X B W W' := ⟨none, grown_ext h, fun r e => by cases e⟩
theorem Turn.put {T : TypeId} {X B : Nat} {W : World} {l : Nat} {o : Obj} (hl : W.heap[l]? = some o) (ho : o.isCells = false) (hB : B ≤ l) (o' : Obj) : Turn T X B W (W.putObj l o') :=
  ⟨some l, grownBy_putObj' W l o', fun r e => by cases e; exact ⟨o, hl, .inl ⟨hB, ho⟩⟩⟩
theorem Turn.set {T : TypeId} {X B : Nat} {W : World} {x : Nat} {xs : List Value} (h : RowAt W x T xs) (hX : X ≤ x) (i : Nat) (v : Value) : Turn T X B W (W.setCell ⟨x, i, none⟩ v) :=
  ⟨some x, grown_set W x i v, fun r e => by cases e; exact ⟨_, h, .inr ⟨hX, _, _, rfl⟩⟩⟩
theorem Turn.mono {T : TypeId} {X B X' B' : Nat} {W W' : World} (h : Turn T X B W W') (hX : X' ≤ X) (hB : B' ≤ B) : Turn T X' B' W W' := by
  obtain ⟨row, hg, hr⟩ := h
  refine ⟨row, hg, fun r e => ?_⟩
  obtain ⟨o, ho, h | h⟩ := hr r e
  · exact ⟨o, ho, .inl ⟨by omega, h.2⟩⟩
  · exact ⟨o, ho, .inr ⟨by omega, h.2⟩⟩
theorem Turn.keep {T : TypeId} {X B : Nat} {W W' : World} (h : Turn T X B W W') {l : Nat} {o : Obj} (hl : W.heap[l]? = some o) (ho : o.isCells = false) (hB : l < B) : W'.heap[l]? = some o := by
  obtain ⟨row, hg, hr⟩ := h
  refine (hg.block l (Array.getElem?_eq_some_iff.1 hl).1 (fun e => ?_)).trans hl
  obtain ⟨o', ho', h | h⟩ := hr l e.symm
  · omega
  · rw [hl] at ho'; cases ho'; obtain ⟨_, cs, fr, rfl⟩ := h; cases ho
/-- What abides such turns. -/
def PStab (T : TypeId) (X B : Nat) (I : World → Prop) : Prop := ∀ W W', Turn T X B W W' → I W → I W'
theorem PStab.stab {T : TypeId} {X B : Nat} {I : World → Prop} (h : PStab T X B I) : Stab B I := fun W W' row hi hg hr =>
  h W W' ⟨row, hg, fun r e => by obtain ⟨hB, o, ho, hc⟩ := hr r e; exact ⟨o, ho, .inl ⟨hB, hc⟩⟩⟩ hi
theorem PStab.mono {T : TypeId} {X B X' B' : Nat} {I : World → Prop} (h : PStab T X B I) (hX : X ≤ X') (hB : B ≤ B') : PStab T X' B' I := fun W W' ht hi => h W W' (ht.mono hX hB) hi
theorem PStab.and {T : TypeId} {X B : Nat} {I I' : World → Prop} (h : PStab T X B I) (h' : PStab T X B I') : PStab T X B (fun W => I W ∧ I' W) := fun W W' ht hi => ⟨h W W' ht hi.1, h' W W' ht hi.2⟩
theorem PStab.pure {T : TypeId} {X B : Nat} (p : Prop) : PStab T X B (fun _ => p) := fun _ _ _ h => h
theorem PStab.ex {T : TypeId} {X B : Nat} {α : Sort _} {I : α → World → Prop} (h : ∀ x, PStab T X B (I x)) : PStab T X B (fun W => ∃ x, I x W) := fun W W' ht ⟨x, hi⟩ => ⟨x, h x W W' ht hi⟩
theorem PStab.row {T : TypeId} {X B : Nat} (g : Nat) (t : TypeId) (xs : List Value) (h : t ≠ T ∨ g < X) : PStab T X B (fun W => RowAt W g t xs) := fun W W' ⟨row, hg, hr⟩ hi => hi.kept hg (fun e => by
  obtain ⟨o, ho, h' | h'⟩ := hr g e
  · rw [show W.heap[g]? = _ from hi] at ho; cases ho; exact absurd h'.2 (by simp [Obj.isCells])
  · rw [show W.heap[g]? = _ from hi] at ho
    obtain ⟨hX, cs, fr, rfl⟩ := h'
    cases ho
    rcases h with h | h
    · exact h rfl
    · omega)
theorem PStab.below {T : TypeId} {X B : Nat} (n : Nat) (w0 : World) (hX : n ≤ X) (hB : n ≤ B) (hw : n ≤ w0.heap.size) : PStab T X B (fun W => Below n w0 W) := fun W W' ⟨row, hg, hr⟩ hb =>
  hb.grown hg (Nat.le_trans hw hb.size) (fun k e => by obtain ⟨o, _, h | h⟩ := hr k e <;> omega)
theorem PStab.own {T : TypeId} {X B : Nat} (base n size : Nat) (e : TypeId) (v : Value) (xs : List Value) (he : e ≠ T) : PStab T X B (fun W => W.ownsRow base e size v n xs) := fun W W' ⟨row, hg, hr⟩ h => by
  refine ⟨h.1, ?_⟩
  rcases h.2 with hn | ⟨g, cap, cur, rfl, hbg, hgg, rest⟩
  · exact .inl hn
  · refine .inr ⟨g, cap, cur, rfl, hbg, ?_, rest⟩
    refine (hg.block g (Array.getElem?_eq_some_iff.1 hgg).1 (fun e' => ?_)).trans hgg
    obtain ⟨o, ho, h' | h'⟩ := hr g e'.symm
    · rw [hgg] at ho; cases ho; exact absurd h'.2 (by simp [Obj.isCells])
    · rw [hgg] at ho; obtain ⟨_, cs, fr, rfl⟩ := h'; cases ho; exact he rfl
/-- What the rounds leave of what the iterator holds: rows of some types, from X on. -/
structure KeepsC (Kt : TypeId → Prop) (X : Nat) (W W' : World) : Prop where
  size : W.heap.size ≤ W'.heap.size
  row : ∀ (k : Nat) (t : TypeId) (xs : List Value), X ≤ k → Kt t → RowAt W k t xs → RowAt W' k t xs
theorem KeepsC.refl (Kt : TypeId → Prop) (X : Nat) (W : World) : KeepsC Kt X W W := ⟨Nat.le_refl _, fun _ _ _ _ _ h => h⟩
theorem KeepsC.trans {Kt : TypeId → Prop} {X : Nat} {A B C : World} (h : KeepsC Kt X A B) (h' : KeepsC Kt X B C) : KeepsC Kt X A C := ⟨Nat.le_trans h.size h'.size, fun k t xs hk ht hr => h'.row k t xs hk ht (h.row k t xs hk ht hr)⟩
theorem KeepsC.ext {Kt : TypeId → Prop} {X : Nat} {W W' : World} (h : Ext W W') : KeepsC Kt X W W' := ⟨h.size, fun _ _ _ _ _ hr => hr.ext h⟩
theorem KeepsC.mono {Kt Kt' : TypeId → Prop} {X X' : Nat} {W W' : World} (h : KeepsC Kt X W W') (hX : X ≤ X') (hK : ∀ t, Kt' t → Kt t) : KeepsC Kt' X' W W' := ⟨h.size, fun k t xs hk ht hr => h.row k t xs (by omega) (hK t ht) hr⟩
theorem KeepsC.put {Kt : TypeId → Prop} {X : Nat} {W : World} {l : Nat} {o : Obj} (hl : W.heap[l]? = some o) (ho : o.isCells = false) (o' : Obj) : KeepsC Kt X W (W.putObj l o') :=
  ⟨(grownBy_putObj' W l o').size, fun k t xs _ _ hr => hr.kept (grownBy_putObj' W l o') (fun e => by
    have e := Option.some.inj e; subst e; rw [show W.heap[l]? = _ from hr] at hl; cases hl; cases ho)⟩
/-- A row elsewhere is written, or one of a type that need not be kept. -/
theorem KeepsC.grown {Kt : TypeId → Prop} {X : Nat} {W W' : World} {row : Option Nat} (hg : W.grownBy W' row) (h : ∀ r, row = some r → r < X ∨ ∃ o : Obj, W.heap[r]? = some o ∧ ∀ cs t fr, o = .cells cs t fr → ¬ Kt t) : KeepsC Kt X W W' :=
  ⟨hg.size, fun k t xs hk ht hr => hr.kept hg (fun e => by
    rcases h k e with h | ⟨o, ho, h⟩
    · omega
    · rw [show W.heap[k]? = _ from hr] at ho; cases ho; exact h _ _ _ rfl ht)⟩

theorem keepsFrom_mono {A B : Nat} {W W' : World} (h : KeepsFrom A W W') (hB : A ≤ B) : KeepsFrom B W W' := ⟨h.size, fun k o hk h0 ho => h.same k o (by omega) h0 ho⟩
/-- An iterator's contract. -/
def IterP (P : Program) (gf : Nat) (lb : Array Value) (Inv : World → Prop) (T : TypeId) (Kt : TypeId → Prop) (X : Nat) (N : Nat) (Enc : Nat → World → Array Value → Prop) : Prop :=
  ∀ (L : Nat) (W : World) (J : Nat → World → Prop) (Js : World → Prop), X ≤ W.heap.size → Inv W →
    (∀ k, PStab T X W.heap.size (J k)) → PStab T X W.heap.size Js →
    (∀ k args W₁, k < N → J k W₁ → Enc k W₁ args → YieldAt Fence.wide 0 P L args W₁ fun e W' => KeepsFrom W.heap.size W₁ W' ∧ KeepsC Kt X W₁ W' ∧ ((e = .returned (.bool true) ∧ J (k + 1) W') ∨ (e = .returned (.bool false) ∧ Js W'))) →
    J 0 W →
    CallsIn Fence.wide 0 P gf (#[.func (.yield L) #[] #[]] ++ lb) W fun e W' => (∃ v, e = .returned v) ∧ (J N W' ∨ Js W')

/-- What a round's body owes. -/
def overP (B : Nat) (Kt : TypeId → Prop) (X : Nat) (I : Nat → World → Prop) (Ix : Code → World → Prop) (k : Nat) (W : World) : Exit → Act → World → Prop := fun e _ W' =>
  KeepsFrom B W W' ∧ KeepsC Kt X W W' ∧ match e with
  | .normal => I (k + 1) W'
  | .ret => Ix .ret W'
  | .exit id => Ix (.exit id) W'
  | .goto t => Ix (.goto t) W'
  | _ => False

theorem wp_overP {P : Program} {g : Operand} {ps : Array Tmp} {assign body : Code} {Q : Exit → Act → World → Prop} {a : Act} {w : World} {gf : Nat} {lb : Array Value} {Inv : World → Prop} {T : TypeId} {Kt : TypeId → Prop} {X : Nat} {N : Nat} {Enc : Nat → World → Array Value → Prop}
    (hg : a.eval g = .func (.func gf) #[] lb) (eg : ∀ args w, (callFunc gf args).run P w = .ok (.enter gf args) w) (hit : IterP P gf lb Inv T Kt X N Enc) (hX : X ≤ w.heap.size)
    (hsz : ∀ k W args, Enc k W args → args.size = ps.size) (hEnc : ∀ k args, Stab w.heap.size (fun W => Enc k W args))
    (I : Nat → World → Prop) (Ix : Code → World → Prop) (hI : ∀ k, PStab T X w.heap.size (I k)) (hIx : ∀ c, PStab T X w.heap.size (Ix c))
    (hInv : Stab w.heap.size Inv) (hb : Inv w) (h0 : I 0 w)
    (hround : ∀ k args W L, k < N → w.heap.size < L → I k W → Enc k W args →
      assign.wpIn (Fence.wide.inRound L) 0 P (Exit.then (fun a₁ W₁ => KeepsFrom w.heap.size W W₁ ∧ KeepsC Kt X W W₁ ∧ I k W₁ ∧ Enc k W₁ args ∧ ∀ W₂, (∀ J : World → Prop, Stab w.heap.size J → J W₁ → J W₂) → I k W₂ → Enc k W₂ args → body.wpIn (Fence.wide.inRound L) 0 P (overP w.heap.size Kt X I Ix k W₂) a₁ W₂) (fun _ _ _ => False))
        { tmps := (ps.zip args).foldl (fun tmps (t, a) => tmps.setIfInBounds t a) a.tmps, defers := [] } W)
    (hdone : ∀ D W, w.heap.size ≤ D → I N W → W.heap[D]? = some (.deferred (some [])) → Q .normal { a with defers := { target := .collected D, args := #[] } :: a.defers } W)
    (hstop : ∀ D c W, w.heap.size ≤ D → Ix c W → W.heap[D]? = some (.deferred (some [])) → c.wp P Q { a with defers := { target := .collected D, args := #[] } :: a.defers } W) :
    (Code.rangeFunc g ps assign body).wp P Q a w := by
  refine (wpIn_wide (n := 0)).1 ?_
  refine wp_range hg eg w.heap.size (w.heap.size + 1) rfl rfl _ rfl ?_
  intro fn W hW
  have hr0 : ∀ st pe, ({ recOf fn a ps assign body w.heap.size .ready none with state := st, pending := pe } : Loop) = recOf fn a ps assign body w.heap.size st pe := fun _ _ => rfl
  generalize hr : recOf fn a ps assign body w.heap.size .ready none = r at hW
  have hrd : r.state = .ready ∧ r.pending = none := by subst hr; exact ⟨rfl, rfl⟩
  have hL0 : W.heap[w.heap.size + 1]? = some (.loop r) := by
    subst hW
    have := World.alloc_heap_new (w.alloc (.deferred (some []))) (.loop r)
    rwa [World.size_alloc] at this
  have hD0 : W.heap[w.heap.size]? = some (.deferred (some [])) := by
    subst hW
    rw [Below.heap_alloc _ _ _ (by simp)]
    exact World.alloc_heap_new w _
  have hI0 : I 0 W := by
    subst hW
    exact (hI 0).stab.ext ((hI 0).stab.ext h0 (Ext.alloc _ _)) (Ext.alloc _ _)
  have hWs : W.heap.size = w.heap.size + 1 + 1 := by subst hW; simp
  have hx := hit (w.heap.size + 1) W (fun k W => W.heap[w.heap.size + 1]? = some (.loop r) ∧ W.heap[w.heap.size]? = some (.deferred (some [])) ∧ I k W)
    (fun W => ∃ c, W.heap[w.heap.size + 1]? = some (.loop { r with state := .done, pending := some c }) ∧ W.heap[w.heap.size]? = some (.deferred (some [])) ∧ Ix c W)
    (by omega)
    (by subst hW; exact hInv.ext (hInv.ext hb (Ext.alloc _ _)) (Ext.alloc _ _))
    (fun k W₁ W₂ ht ⟨h1, h2, h3⟩ => ⟨ht.keep h1 rfl (by omega), ht.keep h2 rfl (by omega), hI k W₁ W₂ (ht.mono (Nat.le_refl _) (by omega)) h3⟩)
    (fun W₁ W₂ ht ⟨c, h1, h2, h3⟩ => ⟨c, ht.keep h1 rfl (by omega), ht.keep h2 rfl (by omega), hIx c W₁ W₂ (ht.mono (Nat.le_refl _) (by omega)) h3⟩)
    ?_ ⟨hL0, hD0, hI0⟩
  · refine CallsIn.mono (n := 0) hx ?_
    rintro e W' ⟨⟨v, rfl⟩, h | h⟩
    · obtain ⟨h1, h2, h3⟩ := h
      refine ⟨v, rfl, r, h1, by rw [hrd.1]; decide, fun r' => ?_⟩
      rw [hrd.2]
      exact hdone _ _ (Nat.le_refl _) ((hI N).stab.put h3 h1 rfl (by omega) _) ((World.putObj_heap_other (by omega)).trans h2)
    · obtain ⟨c, h1, h2, h3⟩ := h
      refine ⟨v, rfl, _, h1, by simp, fun r' => ?_⟩
      simp only []
      exact wpIn_wide.2 (hstop _ c _ (Nat.le_refl _) ((hIx c).stab.put h3 h1 rfl (by omega) _) ((World.putObj_heap_other (by omega)).trans h2))
  · rintro k args W1 hk ⟨h1, h2, h3⟩ he
    refine yield_rec hr h1 (hsz k W1 args he) ?_
    refine wpIn_mono (hround k args W1 (w.heap.size + 1) hk (by omega) h3 he) ?_
    rintro ex a₁ W₁ hq
    cases ex with
    | normal =>
      obtain ⟨q1, q1c, q2, q2', q3⟩ := hq
      have h1' := q1.same _ _ (by omega) h1 rfl
      have h2' := q1.same _ _ (by omega) h2 rfl
      refine ⟨h1', ?_⟩
      have hput : ∀ o : Obj, KeepsFrom W.heap.size W₁ (W₁.putObj (w.heap.size + 1) o) := fun o => ⟨(grownBy_putObj' W₁ _ o).size, fun k' o' hk' h0' ho' => (World.putObj_heap_other (by omega)).trans h0'⟩
      refine wpIn_mono (q3 (W₁.putObj (w.heap.size + 1) (.loop { r with state := .busy })) (fun J hJ hj => hJ.put hj h1' rfl (by omega) _) ((hI k).stab.put q2 h1' rfl (by omega) _) ((hEnc k args).put q2' h1' rfl (by omega) _)) ?_
      rintro ex a₂ W₂ ⟨hK, hKc, hq⟩
      have h1'' := hK.same _ _ (by omega) (World.putObj_heap_same (Array.getElem?_eq_some_iff.1 h1').1) rfl
      have h2'' := hK.same _ _ (by omega) ((World.putObj_heap_other (by omega)).trans h2') rfl
      have hlt := (Array.getElem?_eq_some_iff.1 h1'').1
      have hput2 : ∀ o : Obj, KeepsFrom W.heap.size W₂ (W₂.putObj (w.heap.size + 1) o) := fun o => ⟨(grownBy_putObj' W₂ _ o).size, fun k' o' hk' h0' ho' => (World.putObj_heap_other (by omega)).trans h0'⟩
      have hkm : ∀ {A B : World}, KeepsFrom w.heap.size A B → KeepsFrom W.heap.size A B := fun h => ⟨h.size, fun k' o' hk' h0' ho' => h.same k' o' (by omega) h0' ho'⟩
      have hAll : ∀ o : Obj, KeepsFrom W.heap.size W1 (W₂.putObj (w.heap.size + 1) o) ∧ KeepsC Kt X W1 (W₂.putObj (w.heap.size + 1) o) := fun o =>
        ⟨(((hkm q1).trans (hput _)).trans (hkm hK)).trans (hput2 o), ((q1c.trans (KeepsC.put h1' rfl _)).trans hKc).trans (KeepsC.put h1'' rfl o)⟩
      refine ⟨h1'', ?_⟩
      cases ex with
      | normal =>
        refine ⟨(hAll _).1, (hAll _).2, .inl ⟨rfl, World.putObj_heap_same hlt |>.trans (by rw [rec_ready hr]), (World.putObj_heap_other (by omega)).trans h2'', (hI (k + 1)).stab.put hq h1'' rfl (by omega) _⟩⟩
      | ret => exact ⟨(hAll _).1, (hAll _).2, .inr ⟨rfl, .ret, World.putObj_heap_same hlt, (World.putObj_heap_other (by omega)).trans h2'', (hIx _).stab.put hq h1'' rfl (by omega) _⟩⟩
      | exit id => exact ⟨(hAll _).1, (hAll _).2, .inr ⟨rfl, .exit id, World.putObj_heap_same hlt, (World.putObj_heap_other (by omega)).trans h2'', (hIx _).stab.put hq h1'' rfl (by omega) _⟩⟩
      | goto t => exact ⟨(hAll _).1, (hAll _).2, .inr ⟨rfl, .goto t, World.putObj_heap_same hlt, (World.putObj_heap_other (by omega)).trans h2'', (hIx _).stab.put hq h1'' rfl (by omega) _⟩⟩
      | panic c => exact hq
      | outgrown => exact hq
    | _ => exact hq
end Go.Proofs.Ytngnplghjaojhaa

/- A range over a function whose iterator turns rows of its own, and may end in a panic. No program in sight. -/
namespace Go.Proofs.Ytngnplghjaojhaa
set_option maxRecDepth 100000
set_option maxHeartbeats 2000000
set_option linter.unusedVariables false
set_option linter.unusedSimpArgs false
open Go.RowKit Go.Sort

/-- What a range over a function owes when the iterator has ended. -/
def overPostX (P : Program) (l : Nat) (Q : Exit → Act → World → Prop) (a' : Act) : Ending → World → Prop := fun e W =>
  match e with
  | .returned _ => ∃ r : Loop, W.heap[l]? = some (.loop r) ∧ r.state ≠ .busy ∧ r.pending = none ∧ ∀ r' : Loop, Q .normal a' (W.putObj l (.loop r'))
  | .panicked chain => Q (.panic chain) a' W
  | .outgrown => False

theorem wp_rangeX {P : Program} {g : Operand} {ps : Array Tmp} {assign body : Code} {Q : Exit → Act → World → Prop} {a : Act} {w : World} {gf : Nat} {lb : Array Value}
    (hg : a.eval g = .func (.func gf) #[] lb) (eg : ∀ args w, (callFunc gf args).run P w = .ok (.enter gf args) w) (D L : Nat) (hD : w.heap.size = D) (hL : D + 1 = L) (args : Array Value) (hargs : #[.func (.yield L) #[] #[]] ++ lb = args)
    (h : ∀ fn W, W = (w.alloc (.deferred (some []))).alloc (.loop (recOf fn a ps assign body D .ready none)) →
      CallsIn Fence.wide 0 P gf args W (overPostX P L Q { a with defers := { target := .collected D, args := #[] } :: a.defers })) :
    (Code.rangeFunc g ps assign body).wpIn Fence.wide 0 P Q a w := by
  subst hD hL hargs
  refine wpIn_rangeFunc ?_
  intro fn _
  obtain ⟨W, hW⟩ : ∃ W, W = (w.alloc (.deferred (some []))).alloc (.loop (recOf fn a ps assign body w.heap.size .ready none)) := ⟨_, rfl⟩
  have hc := h fn W hW
  refine ⟨w.heap.size + 1, [{ target := .collected w.heap.size, args := #[] }], W, { target := .fn (.func gf) lb, args := #[.func (.yield (w.heap.size + 1)) #[] #[]] }, W, gf,
    #[.func (.yield (w.heap.size + 1)) #[] #[]] ++ lb, W, ?_, ?_, ?_, ?_, ?_, ?_⟩
  · rw [hW]; exact run_enterLoop_outer _ _ _ _ _
  · simp only [resolve, hg]
    simp [go_sem]
  · intro f' _; trivial
  · simp [invoke, go_sem, eg]
  · intro hd; simp [Fence.wide] at hd
  · refine CallsIn.mono (n := 0) hc ?_
    rintro e W hq
    cases e with
    | returned v =>
      obtain ⟨r, hr, hb, hp, hk⟩ := hq
      refine ⟨r.pending, _, run_endLoop hr hb, ?_⟩
      rw [hp]
      exact hk _
    | panicked chain => exact hq
    | outgrown => exact hq.elim

/-- An iterator's contract: it calls yield with N rows of arguments, one behind the other, and yield goes on each time; it ends as Fin says: returned behind the last one, or panicked somewhere. -/
def IterX (P : Program) (gf : Nat) (lb : Array Value) (Inv : World → Prop) (T : TypeId) (Y N : Nat) (Enc : Nat → Array Value → Prop) (Fin : Ending → World → Prop) : Prop :=
  ∀ (L : Nat) (W : World) (J : Nat → World → Prop), Y ≤ W.heap.size → Inv W →
    (∀ k, PStab T 0 W.heap.size (J k)) →
    (∀ k args W₁, k < N → J k W₁ → Enc k args → YieldAt Fence.wide 0 P L args W₁ fun e W' => KeepsFrom W.heap.size W₁ W' ∧ Below Y W₁ W' ∧ e = .returned (.bool true) ∧ J (k + 1) W') →
    J 0 W →
    CallsIn Fence.wide 0 P gf (#[.func (.yield L) #[] #[]] ++ lb) W fun e W' => Fin e W' ∧ ((∃ v, e = .returned v) ∧ J N W' ∨ (∃ c, e = .panicked c) ∧ ∃ k, J k W')

/-- What a round's body owes. -/
def overX (B Y : Nat) (I : Nat → World → Prop) (k : Nat) (W : World) : Exit → Act → World → Prop := fun e _ W' =>
  KeepsFrom B W W' ∧ Below Y W W' ∧ e = .normal ∧ I (k + 1) W'

theorem wp_overX {P : Program} {g : Operand} {ps : Array Tmp} {assign body : Code} {Q : Exit → Act → World → Prop} {a : Act} {w : World} {gf : Nat} {lb : Array Value} {Inv : World → Prop} {T : TypeId} {Y N : Nat} {Enc : Nat → Array Value → Prop} {Fin : Ending → World → Prop}
    (hg : a.eval g = .func (.func gf) #[] lb) (eg : ∀ args w, (callFunc gf args).run P w = .ok (.enter gf args) w) (hit : IterX P gf lb Inv T Y N Enc Fin) (hY : Y ≤ w.heap.size)
    (hsz : ∀ k args, Enc k args → args.size = ps.size)
    (I : Nat → World → Prop) (hI : ∀ k, PStab T 0 w.heap.size (I k)) (hInv : Stab w.heap.size Inv) (hFin : ∀ e, Stab w.heap.size (Fin e)) (hb : Inv w) (h0 : I 0 w)
    (hround : ∀ k args W L, k < N → w.heap.size < L → I k W → Enc k args →
      assign.wpIn (Fence.wide.inRound L) 0 P (Exit.then (fun a₁ W₁ => KeepsFrom w.heap.size W W₁ ∧ Below Y W W₁ ∧ I k W₁ ∧ ∀ W₂, (∀ J : World → Prop, Stab w.heap.size J → J W₁ → J W₂) → I k W₂ → body.wpIn (Fence.wide.inRound L) 0 P (overX w.heap.size Y I k W₂) a₁ W₂) (fun _ _ _ => False))
        { tmps := (ps.zip args).foldl (fun tmps (t, a) => tmps.setIfInBounds t a) a.tmps, defers := [] } W)
    (hdone : ∀ D v W, w.heap.size ≤ D → I N W → Fin (.returned v) W → W.heap[D]? = some (.deferred (some [])) → Q .normal { a with defers := { target := .collected D, args := #[] } :: a.defers } W)
    (hpan : ∀ D c k W, w.heap.size ≤ D → I k W → Fin (.panicked c) W → W.heap[D]? = some (.deferred (some [])) → Q (.panic c) { a with defers := { target := .collected D, args := #[] } :: a.defers } W) :
    (Code.rangeFunc g ps assign body).wp P Q a w := by
  refine (wpIn_wide (n := 0)).1 ?_
  refine wp_rangeX hg eg w.heap.size (w.heap.size + 1) rfl rfl _ rfl ?_
  intro fn W hW
  generalize hr : recOf fn a ps assign body w.heap.size .ready none = r at hW
  have hrd : r.state = .ready ∧ r.pending = none := by subst hr; exact ⟨rfl, rfl⟩
  have hL0 : W.heap[w.heap.size + 1]? = some (.loop r) := by
    subst hW
    have := World.alloc_heap_new (w.alloc (.deferred (some []))) (.loop r)
    rwa [World.size_alloc] at this
  have hD0 : W.heap[w.heap.size]? = some (.deferred (some [])) := by
    subst hW
    rw [Below.heap_alloc _ _ _ (by simp)]
    exact World.alloc_heap_new w _
  have hI0 : I 0 W := by
    subst hW
    exact (hI 0).stab.ext ((hI 0).stab.ext h0 (Ext.alloc _ _)) (Ext.alloc _ _)
  have hWs : W.heap.size = w.heap.size + 1 + 1 := by subst hW; simp
  have hx := hit (w.heap.size + 1) W (fun k W => W.heap[w.heap.size + 1]? = some (.loop r) ∧ W.heap[w.heap.size]? = some (.deferred (some [])) ∧ I k W)
    (by omega)
    (by subst hW; exact hInv.ext (hInv.ext hb (Ext.alloc _ _)) (Ext.alloc _ _))
    (fun k W₁ W₂ ht ⟨h1, h2, h3⟩ => ⟨ht.keep h1 rfl (by omega), ht.keep h2 rfl (by omega), hI k W₁ W₂ (ht.mono (Nat.le_refl _) (by omega)) h3⟩)
    ?_ ⟨hL0, hD0, hI0⟩
  · refine CallsIn.mono (n := 0) hx ?_
    rintro e W' ⟨hf, ⟨⟨v, rfl⟩, h1, h2, h3⟩ | ⟨⟨c, rfl⟩, k, h1, h2, h3⟩⟩
    · refine ⟨r, h1, by rw [hrd.1]; decide, hrd.2, fun r' => ?_⟩
      exact hdone _ v _ (Nat.le_refl _) ((hI N).stab.put h3 h1 rfl (by omega) _) ((hFin _).put hf h1 rfl (by omega) _) ((World.putObj_heap_other (by omega)).trans h2)
    · exact hpan _ c k _ (Nat.le_refl _) h3 hf h2
  · rintro k args W1 hk ⟨h1, h2, h3⟩ he
    refine yield_rec hr h1 (hsz k args he) ?_
    refine wpIn_mono (hround k args W1 (w.heap.size + 1) hk (by omega) h3 he) ?_
    rintro ex a₁ W₁ hq
    cases ex with
    | normal =>
      obtain ⟨q1, q1b, q2, q3⟩ := hq
      have h1' := q1.same _ _ (by omega) h1 rfl
      have h2' := q1.same _ _ (by omega) h2 rfl
      refine ⟨h1', ?_⟩
      have hput : ∀ o : Obj, KeepsFrom W.heap.size W₁ (W₁.putObj (w.heap.size + 1) o) := fun o => ⟨(grownBy_putObj' W₁ _ o).size, fun k' o' hk' h0' ho' => (World.putObj_heap_other (by omega)).trans h0'⟩
      refine wpIn_mono (q3 (W₁.putObj (w.heap.size + 1) (.loop { r with state := .busy })) (fun J hJ hj => hJ.put hj h1' rfl (by omega) _) ((hI k).stab.put q2 h1' rfl (by omega) _)) ?_
      rintro ex a₂ W₂ ⟨hK, hKb, hex, hq⟩
      subst hex
      have h1'' := hK.same _ _ (by omega) (World.putObj_heap_same (Array.getElem?_eq_some_iff.1 h1').1) rfl
      have h2'' := hK.same _ _ (by omega) ((World.putObj_heap_other (by omega)).trans h2') rfl
      have hlt := (Array.getElem?_eq_some_iff.1 h1'').1
      have hput2 : ∀ o : Obj, KeepsFrom W.heap.size W₂ (W₂.putObj (w.heap.size + 1) o) := fun o => ⟨(grownBy_putObj' W₂ _ o).size, fun k' o' hk' h0' ho' => (World.putObj_heap_other (by omega)).trans h0'⟩
      have hkm : ∀ {A B : World}, KeepsFrom w.heap.size A B → KeepsFrom W.heap.size A B := fun h => ⟨h.size, fun k' o' hk' h0' ho' => h.same k' o' (by omega) h0' ho'⟩
      refine ⟨h1'', ?_⟩
      exact ⟨(((hkm q1).trans (hput _)).trans (hkm hK)).trans (hput2 _), below_put (Below.trans (below_put q1b (by omega) _) hKb) (by omega) _, rfl, World.putObj_heap_same hlt |>.trans (by rw [rec_ready hr]), (World.putObj_heap_other (by omega)).trans h2'', (hI (k + 1)).stab.put hq h1'' rfl (by omega) _⟩
    | _ => exact hq

/-- The end of a function that held one range over a function, by a panic. -/
theorem leave_panic {P : Program} {fn : Func} {tmps : Array Value} {D : Nat} {W : World} {R : Ending → World → Prop} {c : List PanicEntry} (hD : W.heap[D]? = some (.deferred (some [])))
    (h : R (.panicked c) (W.putObj D (.deferred none))) : bodyPostM Fence.wide 0 P fn R (.panic c) { tmps, defers := [{ target := .collected D, args := #[] }] } W :=
  ⟨by simp, .inl ⟨_, _, rfl, run_takeDeferred hD, h⟩⟩
end Go.Proofs.Ytngnplghjaojhaa
