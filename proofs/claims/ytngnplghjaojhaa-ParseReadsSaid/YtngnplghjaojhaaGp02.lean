/- A region that draws its order: operations that look at no memory, ones that only read (what they read stays when memory is made), ones that only make memory, and ones that write: one walk, in an order of one's own choice, serves every order. No program in sight. -/
import Derived.Test.YtngnplghjaojhaaGp01
namespace Go.Proofs.Ytngnplghjaojhaa
set_option maxRecDepth 100000
set_option maxHeartbeats 2000000
set_option linter.unusedSimpArgs false
open Go.RowKit Go.Sort
set_option linter.unusedVariables false

/-- What an operation is. -/
inductive Gro where
  | pure
  | read
  | grow
  | write
def Gro.writes : Gro → Bool
  | .write => true
  | _ => false

/-- What may become of the memory meanwhile. -/
class Rel (R : World → World → Prop) : Prop where
  refl : ∀ w, R w w
  trans : ∀ {a b c : World}, R a b → R b c → R a c
instance extRel : Rel Ext := ⟨Ext.refl, fun h k => h.trans k⟩
instance grownRel (g : Nat) : Rel (fun w w' => w.grownBy w' (some g)) := ⟨fun w => (grown_ext (Ext.refl w)).but _, fun h k => World.grownBy.trans h k⟩
section
variable {R : World → World → Prop} {P : Program} {md : Region.Mode} {ops : Array Oper} {Q : Exit → Act → World → Prop}

theorem oper_putY {Y : Act → Prop} {oi oj : Oper} {v : Value} (hap : oi.apart ops oj = true)
    (hsi : ∀ cs b, oi.op ≠ .select cs b) (hsj : ∀ cs b, oj.op ≠ .select cs b)
    (hQ : ∀ c a w, Q (.panic c) (a.put oi.dst v) w → Q (.panic c) a w) {K : Act → World → Prop} {a : Act} {w : World}
    (keep : ∀ ds u, Y ({ a with defers := ds }.put oj.dst u)) (h : oj.wp P (a.put oi.dst v) w K Q) :
    oj.wp P a w (fun a' w' => Y a' ∧ K (a'.put oi.dst v) w') Q := by
  obtain ⟨h1, h2, h3⟩ := Oper.apart_spec hap
  unfold Oper.wp at *
  rw [execOp_put oj hsj a oi.dst v h1] at h
  generalize (execOp a.eval oj).run P w = r at *
  cases r with
  | ok n w' =>
    cases n <;> simp only [Oper.upon] at h ⊢
    case value u => exact ⟨keep a.defers u, by rw [← Act.put_comm a v u h2]; exact h⟩
    case skip => exact ⟨keep a.defers _, by rw [← Act.put_comm a v undef h2]; exact h⟩
    case defer d =>
      refine ⟨keep _ _, ?_⟩
      rw [← Act.put_comm _ v undef h2, ← Act.put_defers]
      exact h
    case enter f args =>
      refine Calls.mono h fun e w'' he => ?_
      cases e with
      | returned u => exact ⟨keep a.defers u, by rw [← Act.put_comm a v u h2]; exact he⟩
      | panicked c => exact hQ _ _ _ he
      | outgrown => exact he
    case row row args => exact Rows.mono h fun u w'' he => ⟨keep a.defers u, by rw [← Act.put_comm a v u h2]; exact he⟩
  | halt x w' =>
    cases x <;> simp only [Oper.upon] at h ⊢
    case panic u => exact hQ _ _ _ h

/-- An operation is carried out where it is wanted. -/
def opG (P : Program) (ops : Array Oper) (Q : Exit → Act → World → Prop) (o : Oper) (K : Act → World → Prop) (a : Act) (w : World) : Prop :=
  if Region.wanted o (yielded ops a.tmps) = true then o.wp P a w K Q else K (a.put o.dst undef) w
theorem opG_mono {o : Oper} {a : Act} {w : World} {K K' : Act → World → Prop} (h : ∀ a w, K a w → K' a w) (hh : opG P ops Q o K a w) : opG P ops Q o K' a w := by
  unfold opG at *
  split
  · rename_i hw; rw [if_pos hw] at hh; exact Oper.wp_mono h hh
  · rename_i hw; rw [if_neg hw] at hh; exact h _ _ hh
theorem opG_putY {Y : Act → Prop} {oi oj : Oper} {v : Value} (hap : oi.apart ops oj = true)
    (hsi : ∀ cs b, oi.op ≠ .select cs b) (hsj : ∀ cs b, oj.op ≠ .select cs b)
    (hQ : ∀ c a w, Q (.panic c) (a.put oi.dst v) w → Q (.panic c) a w) {K : Act → World → Prop} {a : Act} {w : World}
    (keep : ∀ ds u, Y ({ a with defers := ds }.put oj.dst u)) (h : opG P ops Q oj K (a.put oi.dst v) w) :
    opG P ops Q oj (fun a' w' => Y a' ∧ K (a'.put oi.dst v) w') a w := by
  obtain ⟨h1, h2, h3⟩ := Oper.apart_spec hap
  unfold opG at *
  rw [wanted_put oj a oi.dst v h1] at h
  split
  · rename_i hw; rw [if_pos hw] at h; exact oper_putY hap hsi hsj hQ keep h
  · rename_i hw; rw [if_neg hw] at h; exact ⟨keep a.defers _, by rw [← Act.put_comm a v undef h2]; exact h⟩

/-- It yields so, here and wherever memory has been made since. -/
def groY (R : World → World → Prop) (P : Program) (ops : Array Oper) (k : Gro) (o : Oper) (v : Value) (a : Act) (w : World) : Prop := match k with
  | .pure => Yields P ops o v a
  | .read => ∀ w', R w w' → YieldsIn P ops (fun x => x = w') o v a
  | _ => False
theorem groY_same {k : Gro} {o : Oper} {v : Value} {a a' : Act} {w : World} (hy : groY R P ops k o v a w) (he : execOp a'.eval o = execOp a.eval o)
    (hw : Region.wanted o (yielded ops a'.tmps) = Region.wanted o (yielded ops a.tmps)) : groY R P ops k o v a' w := by
  cases k with
  | pure => exact Yields.of_same hy he hw
  | read => exact fun w' hx => YieldsIn.of_same (hy w' hx) he hw
  | grow => exact hy
  | write => exact hy
theorem groY_ext [hR : Rel R] {k : Gro} {o : Oper} {v : Value} {a : Act} {w w' : World} (hy : groY R P ops k o v a w) (hx : R w w') : groY R P ops k o v a w' := by
  cases k with
  | pure => exact hy
  | read => exact fun w'' hx' => hy w'' (hR.trans hx hx')
  | grow => exact hy
  | write => exact hy
theorem groY_op [hR : Rel R] {k : Gro} {o : Oper} {v : Value} {a : Act} {w : World} {K : Act → World → Prop} (hy : groY R P ops k o v a w) (h : K (a.put o.dst v) w) : opG P ops Q o K a w := by
  unfold opG
  cases k with
  | pure =>
    rcases hy with ⟨hw, hv⟩ | ⟨hw, rfl⟩
    · rw [if_pos hw]; simp only [Oper.wp, hv w, Oper.upon]; exact h
    · rw [if_neg (by rw [hw]; decide)]; exact h
  | read =>
    rcases hy w (hR.refl w) with ⟨hw, hv⟩ | ⟨hw, rfl⟩
    · rw [if_pos hw]; exact Oper.wp_of_quiet (C := fun x => x = w) (K := fun a' => K a' w) rfl (fun a' w' hw' h' => by subst hw'; exact h') ⟨v, hv, h⟩
    · rw [if_neg (by rw [hw]; decide)]; exact h
  | grow => exact hy.elim
  | write => exact hy.elim

def groU (R : World → World → Prop) (P : Program) (md : Region.Mode) (ops : Array Oper) (Q : Exit → Act → World → Prop) (ks : Nat → Gro) : Nat → Array Bool → Act → World → Prop
  | 0, listed, a, w => Region.ready md ops listed = [] ∧ Q .normal a w
  | f + 1, listed, a, w => (Region.ready md ops listed = [] → Q .normal a w) ∧ ∀ i ∈ Region.ready md ops listed, ∃ o, ops[i]? = some o ∧
      ((ks i = .write ∧ opG P ops Q o (groU R P md ops Q ks f (listed.setIfInBounds i true)) a w) ∨
       (ks i = .grow ∧ opG P ops Q o (fun a' w' => R w w' ∧ groU R P md ops Q ks f (listed.setIfInBounds i true) a' w') a w) ∨
      ∃ v, groY R P ops (ks i) o v a w ∧ groU R P md ops Q ks f (listed.setIfInBounds i true) (a.put o.dst v) w)

theorem wpOp_of_opG {i : Nat} {o : Oper} {K : Act → World → Prop} {a : Act} {w : World} (ho : ops[i]? = some o) (h : opG P ops Q o K a w) : wpOp P ops Q i K a w := by
  unfold wpOp
  simp only [ho]
  unfold opG at h
  split
  · rename_i hw; rw [if_pos hw] at h; exact .inl h
  · rename_i hw; rw [if_neg hw] at h; exact h
theorem opG_of_groU [hR : Rel R] {ks : Nat → Gro} {f : Nat} {listed : Array Bool} {a : Act} {w : World} {K : Act → World → Prop} {i : Nat} (hK : ∀ a w, groU R P md ops Q ks f (listed.setIfInBounds i true) a w → K a w)
    (h : ∃ o, ops[i]? = some o ∧
      ((ks i = .write ∧ opG P ops Q o (groU R P md ops Q ks f (listed.setIfInBounds i true)) a w) ∨
       (ks i = .grow ∧ opG P ops Q o (fun a' w' => R w w' ∧ groU R P md ops Q ks f (listed.setIfInBounds i true) a' w') a w) ∨
      ∃ v, groY R P ops (ks i) o v a w ∧ groU R P md ops Q ks f (listed.setIfInBounds i true) (a.put o.dst v) w)) : ∃ o, ops[i]? = some o ∧ opG P ops Q o K a w := by
  obtain ⟨o, ho, ⟨_, h⟩ | ⟨_, h⟩ | ⟨v, hy, h⟩⟩ := h
  · exact ⟨o, ho, opG_mono hK h⟩
  · exact ⟨o, ho, opG_mono (fun a w h => hK a w h.2) h⟩
  · exact ⟨o, ho, groY_op hy (hK _ _ h)⟩
theorem wpAny_of_groU [hR : Rel R] {ks : Nat → Gro} : ∀ (f : Nat) (listed : Array Bool) (a : Act) (w : World), groU R P md ops Q ks f listed a w → wpAny P md ops Q f listed a w
  | 0, _, _, _, h => h
  | f + 1, listed, a, w, h => ⟨h.1, fun i hi => by
      obtain ⟨o, ho, h1⟩ := opG_of_groU (K := wpAny P md ops Q f (listed.setIfInBounds i true)) (fun a w h => wpAny_of_groU f _ a w h) (h.2 i hi)
      exact wpOp_of_opG ho h1⟩
/-- An operation waits for another one, by way of others that are not yet listed. -/
def Region.chain (md : Region.Mode) (ops : Array Oper) : Nat → Array Bool → Nat → Nat → Bool
  | 0, _, j, i => Region.waitsFor md ops j i
  | f + 1, listed, j, i => Region.waitsFor md ops j i || (List.range ops.size).any (fun k => !listed.getD k true && (Region.waitsFor md ops j k && Region.chain md ops f listed k i))
theorem waits_not_ready {listed : Array Bool} {j k : Nat} (hk : listed.getD k true = false) (h : Region.waitsFor md ops j k = true) : j ∉ Region.ready md ops listed := fun hin => by
  obtain ⟨_, oj', hoj', hall'⟩ := mem_ready.1 hin
  obtain ⟨oj, hoj, e, hee, hb, hon⟩ := Region.waitsFor_spec h
  obtain rfl : oj = oj' := Option.some.inj (hoj.symm.trans hoj')
  have h1 := hall' e hee hb
  rw [hon, getD_both hk] at h1
  cases h1
theorem chain_not_ready {listed : Array Bool} {i : Nat} (hi : listed.getD i true = false) : ∀ (f : Nat) {j : Nat}, Region.chain md ops f listed j i = true → j ∉ Region.ready md ops listed
  | 0, _, h => waits_not_ready hi h
  | f + 1, j, h => by
    simp only [Region.chain, Bool.or_eq_true, List.any_eq_true, List.mem_range, Bool.and_eq_true, Bool.not_eq_true'] at h
    rcases h with h | ⟨k, _, h1, h2, _⟩
    · exact waits_not_ready hi h
    · exact waits_not_ready h1 h2
theorem chain_step {listed : Array Bool} {i x : Nat} (hi : listed.getD i true = false) (hx : x ∈ Region.ready md ops listed) : ∀ (f : Nat) {j : Nat}, Region.chain md ops f listed j i = true → Region.chain md ops f (listed.setIfInBounds x true) j i = true
  | 0, _, h => h
  | f + 1, j, h => by
    simp only [Region.chain, Bool.or_eq_true, List.any_eq_true, List.mem_range, Bool.and_eq_true, Bool.not_eq_true'] at h ⊢
    rcases h with h | ⟨k, h0, h1, h2, h3⟩
    · exact .inl h
    · refine .inr ⟨k, h0, ?_, h2, chain_step hi hx f h3⟩
      have hne : x ≠ k := fun e => by subst e; exact chain_not_ready hi f h3 hx
      rw [getD_set_ne true hne]; exact h1

theorem groU_first [hR : Rel R] {ks : Nat → Gro} {i : Nat} {oi : Oper} {v : Value} (hi : ops[i]? = some oi) (hsel : ∀ (j : Nat) (o : Oper) cs b, ops[j]? = some o → o.op ≠ .select cs b)
    (hQ : ∀ c a w, Q (.panic c) (a.put oi.dst v) w → Q (.panic c) a w) :
    ∀ (f : Nat) (listed : Array Bool) (a : Act) (w : World),
      (∀ j oj, ops[j]? = some oj → j ≠ i → listed.getD j true = false → (∀ e ∈ oj.after, Region.binds md e = true → e.on ≠ i) → oi.apart ops oj = true) →
      (ks i = .read → ∀ j, j < ops.size → listed.getD j true = false → ks j = .write → Region.chain md ops 8 listed j i = true) →
      i ∈ Region.ready md ops listed → groY R P ops (ks i) oi v a w →
      groU R P md ops Q ks f (listed.setIfInBounds i true) (a.put oi.dst v) w → groU R P md ops Q ks (f + 1) listed a w := by
  intro f
  induction f with
  | zero =>
    intro listed a w _ _ hr hy H
    refine ⟨fun h => (by rw [h] at hr; cases hr), fun j hj => ?_⟩
    by_cases hji : j = i
    · subst hji; exact ⟨oi, hi, .inr (.inr ⟨v, hy, H⟩)⟩
    · have := ready_mono hj hji
      rw [H.1] at this
      cases this
  | succ f ih =>
    intro listed a w hfree hwt hr hy H
    refine ⟨fun h => (by rw [h] at hr; cases hr), fun j hj => ?_⟩
    by_cases hji : j = i
    · subst hji; exact ⟨oi, hi, .inr (.inr ⟨v, hy, H⟩)⟩
    · obtain ⟨hjun, oj, hoj, hall⟩ := mem_ready.1 hj
      have hnot : ∀ e ∈ oj.after, Region.binds md e = true → e.on ≠ i := fun e he hb heq => by
        have h1 := hall e he hb
        have h0 := (mem_ready.1 hr).1
        rw [heq, getD_both h0] at h1
        cases h1
      have hap := hfree j oj hoj hji hjun hnot
      obtain ⟨q1, q2, q3⟩ := Oper.apart_spec hap
      have hsi := fun cs b => hsel i oi cs b hi
      have hsj := fun cs b => hsel j oj cs b hoj
      have hfree' : ∀ k ok, ops[k]? = some ok → k ≠ i → (listed.setIfInBounds j true).getD k true = false →
          (∀ e ∈ ok.after, Region.binds md e = true → e.on ≠ i) → oi.apart ops ok = true := fun k ok hk hki hun hno => by
        refine hfree k ok hk hki ?_ hno
        by_cases hjk : j = k
        · subst hjk; exact hjun
        · rw [getD_set_ne true hjk] at hun; exact hun
      have hun' : ∀ k, (listed.setIfInBounds j true).getD k true = false → listed.getD k true = false := fun k hun => by
        by_cases hjk : j = k
        · subst hjk; exact hjun
        · rw [getD_set_ne true hjk] at hun; exact hun
      have hwt' : ks i = .read → ∀ k, k < ops.size → (listed.setIfInBounds j true).getD k true = false → ks k = .write → Region.chain md ops 8 (listed.setIfInBounds j true) k i = true := fun he k hlt hun hk => chain_step (mem_ready.1 hr).1 hj 8 (hwt he k hlt (hun' k hun) hk)
      have hir : i ∈ Region.ready md ops (listed.setIfInBounds j true) := ready_mono hr (Ne.symm hji)
      have keep : ∀ ds u, groY R P ops (ks i) oi v ({ a with defers := ds }.put oj.dst u) w := fun ds u =>
        groY_same (groY_same hy (a' := { a with defers := ds }) rfl rfl) (execOp_put oi hsi _ oj.dst u q3) (wanted_put oi _ oj.dst u q3)
      obtain ⟨o, ho, hrest⟩ := H.2 j (ready_mono hj hji)
      obtain rfl : o = oj := Option.some.inj (ho.symm.trans hoj)
      refine ⟨o, ho, ?_⟩
      rcases hrest with ⟨hk, hw⟩ | ⟨hk, hw⟩ | ⟨u, hyj, hU⟩
      · cases hki : ks i with
        | write => rw [hki] at hy; exact hy.elim
        | grow => rw [hki] at hy; exact hy.elim
        | read => exact absurd hj (chain_not_ready (mem_ready.1 hr).1 8 (hwt hki j (Array.getElem?_eq_some_iff.1 hoj).1 hjun hk))
        | pure =>
          refine .inl ⟨hk, ?_⟩
          refine opG_mono (fun a' w' h3 => ih (listed.setIfInBounds j true) a' w' hfree' hwt' hir (by have := h3.1; rw [hki] at this ⊢; exact this) ?_) (opG_putY (Y := fun a' => groY R P ops (ks i) oi v a' w) hap hsi hsj hQ keep hw)
          rw [Array.setIfInBounds_comm _ _ hji]
          exact h3.2
      · refine .inr (.inl ⟨hk, ?_⟩)
        refine opG_mono (fun a' w' h3 => ⟨h3.2.1, ih (listed.setIfInBounds j true) a' w' hfree' hwt' hir (groY_ext h3.1 h3.2.1) ?_⟩) (opG_putY (Y := fun a' => groY R P ops (ks i) oi v a' w) hap hsi hsj hQ keep hw)
        rw [Array.setIfInBounds_comm _ _ hji]
        exact h3.2.2
      · refine .inr (.inr ⟨u, groY_same hyj (execOp_put o hsj a oi.dst v q1).symm (wanted_put o a oi.dst v q1).symm, ?_⟩)
        refine ih (listed.setIfInBounds j true) (a.put o.dst u) w hfree' hwt' hir (keep a.defers u) ?_
        rw [Array.setIfInBounds_comm _ _ hji, Act.put_comm a v u q2] at *
        exact hU
def groText (md : Region.Mode) (ops : Array Oper) (ks : Nat → Gro) : List Nat → Array Bool → Bool
  | [], listed => (Region.ready md ops listed).isEmpty
  | i :: r, listed => (Region.ready md ops listed).contains i && ((match ks i with
      | .write => (Region.ready md ops listed).all (fun j => j == i)
      | .grow => (Region.ready md ops listed).all (fun j => j == i)
      | .pure => Region.free md ops listed i
      | .read => Region.free md ops listed i && (List.range ops.size).all (fun j => listed.getD j true || !(ks j).writes || Region.chain md ops 8 listed j i)) && groText md ops ks r (listed.setIfInBounds i true))
/-- What is read stays. -/
def Stays (R : World → World → Prop) (P : Program) (o : Oper) (a : Act) (w : World) (v : Value) : Prop := ∀ w', R w w' → o.quietAt P a (fun x => x = w') w' v
/-- The walk. -/
def groL (R : World → World → Prop) (P : Program) (ops : Array Oper) (Q : Exit → Act → World → Prop) (ks : Nat → Gro) : List Nat → Act → World → Prop
  | [], a, w => Q .normal a w
  | i :: r, a, w => match ops[i]? with
    | none => False
    | some o => if Region.wanted o (yielded ops a.tmps) = true then (match ks i with
        | .write => o.wp P a w (groL R P ops Q ks r) Q
        | .grow => o.wp P a w (fun a' w' => R w w' ∧ groL R P ops Q ks r a' w') Q
        | .pure => ∃ v, (∀ w', (execOp a.eval o).run P w' = .ok (.value v) w') ∧ groL R P ops Q ks r (a.put o.dst v) w
        | .read => ∃ v, o.quietAt P a (fun x => x = w) w v ∧ Stays R P o a w v ∧ groL R P ops Q ks r (a.put o.dst v) w)
      else groL R P ops Q ks r (a.put o.dst undef) w
theorem groU_of_groL [hR : Rel R] {ks : Nat → Gro} (hsel : Region.noSelect ops = true) (hQ : ∀ c a w d v, Q (.panic c) (a.put (some d) v) w → Q (.panic c) a w) :
    ∀ (l : List Nat) (listed : Array Bool) (a : Act) (w : World), groText md ops ks l listed = true → groL R P ops Q ks l a w → groU R P md ops Q ks l.length listed a w
  | [], listed, a, w, hB, h => ⟨by simpa [groText] using hB, h⟩
  | i :: r, listed, a, w, hB, h => by
    have hQ' : ∀ (o : Oper) v c a w, Q (.panic c) (a.put o.dst v) w → Q (.panic c) a w := fun o v c a w => by
      cases o.dst with
      | none => exact id
      | some d => exact hQ c a w d v
    simp only [groText, Bool.and_eq_true] at hB
    obtain ⟨hr, hk, hB'⟩ := hB
    have hr' : i ∈ Region.ready md ops listed := by simpa using hr
    obtain ⟨hun, o, ho, _⟩ := mem_ready.1 hr'
    have ih := groU_of_groL (ks := ks) hsel hQ r (listed.setIfInBounds i true)
    simp only [groL, ho] at h
    have go : ∀ v, groY R P ops (ks i) o v a w → groL R P ops Q ks r (a.put o.dst v) w → groU R P md ops Q ks (r.length + 1) listed a w := fun v hy hl => by
      have hf : Region.free md ops listed i = true := by
        cases hki : ks i with
        | write => rw [hki] at hy; exact hy.elim
        | grow => rw [hki] at hy; exact hy.elim
        | pure => rw [hki] at hk; exact hk
        | read => rw [hki] at hk; simp only [Bool.and_eq_true] at hk; exact hk.1
      have hread : ks i = .read → ∀ j, j < ops.size → listed.getD j true = false → ks j = .write → Region.chain md ops 8 listed j i = true := fun he j hlt hun hkw => by
        rw [he] at hk
        simp only [Bool.and_eq_true, List.all_eq_true, List.mem_range, Bool.or_eq_true, Bool.not_eq_true'] at hk
        rcases hk.2 j hlt with (h1 | h1) | h1
        · rw [hun] at h1; cases h1
        · rw [hkw] at h1; cases h1
        · exact h1
      exact groU_first ho (Region.noSelect_spec hsel) (fun c a w => hQ' o v c a w) r.length listed a w (Region.free_spec ho hf) hread hr' hy (ih _ _ hB' hl)
    have only : (Region.ready md ops listed).all (fun j => j == i) = true → ∀ j ∈ Region.ready md ops listed, j = i := fun hk j hj => by
      have := List.all_eq_true.1 hk j hj
      simpa using this
    show groU R P md ops Q ks (r.length + 1) listed a w
    cases hki : ks i with
    | write =>
      rw [hki] at hk h
      refine ⟨fun h0 => (by rw [h0] at hr'; cases hr'), fun j hj => ?_⟩
      obtain rfl := only hk j hj
      refine ⟨o, ho, .inl ⟨hki, ?_⟩⟩
      unfold opG
      split
      · rename_i hw
        rw [if_pos hw] at h
        exact Oper.wp_mono (fun a' w' h' => ih a' w' hB' h') h
      · rename_i hw
        rw [if_neg hw] at h
        exact ih _ _ hB' h
    | grow =>
      rw [hki] at hk h
      refine ⟨fun h0 => (by rw [h0] at hr'; cases hr'), fun j hj => ?_⟩
      obtain rfl := only hk j hj
      refine ⟨o, ho, .inr (.inl ⟨hki, ?_⟩)⟩
      unfold opG
      split
      · rename_i hw
        rw [if_pos hw] at h
        exact Oper.wp_mono (fun a' w' h' => ⟨h'.1, ih a' w' hB' h'.2⟩) h
      · rename_i hw
        rw [if_neg hw] at h
        exact ⟨hR.refl _, ih _ _ hB' h⟩
    | pure =>
      rw [hki] at h
      by_cases hw : Region.wanted o (yielded ops a.tmps) = true
      · rw [if_pos hw] at h
        obtain ⟨v, hy, hl⟩ := h
        exact go v (by rw [hki]; exact .inl ⟨hw, hy⟩) hl
      · rw [if_neg hw] at h
        exact go undef (by rw [hki]; exact .inr ⟨by simpa using hw, rfl⟩) h
    | read =>
      rw [hki] at h
      by_cases hw : Region.wanted o (yielded ops a.tmps) = true
      · rw [if_pos hw] at h
        obtain ⟨v, hy, hst, hl⟩ := h
        exact go v (by rw [hki]; exact fun w' hx => .inl ⟨hw, fun w'' hw' => by subst hw'; exact hst _ hx⟩) hl
      · rw [if_neg hw] at h
        exact go undef (by rw [hki]; exact fun w' hx => .inr ⟨by simpa using hw, rfl⟩) h
/-- The law: an order of one's own choice. -/
theorem wp_region_gro0 [hR : Rel R] {id : Nat} {a : Act} {w : World} {l : List Oper} (ks : Nat → Gro) (ord : List Nat) (hm : P.follows .mixedOrders = true) (hsel : Region.noSelect l.toArray = true) (hn : ord.length = l.length)
    (hB : groText .any l.toArray ks ord (Array.replicate l.toArray.size false) = true) (hQ : ∀ c a w d v, Q (.panic c) (a.put (some d) v) w → Q (.panic c) a w)
    (h : groL R P l.toArray Q ks ord a w.drew) : (Code.region id l.toArray true).wp P Q a w := by
  refine wp_region_any hm ?_
  have h1 := wpAny_of_groU _ _ _ _ (groU_of_groL (md := .any) hsel hQ ord _ a _ hB h)
  rw [hn] at h1
  simpa using h1
theorem groL0_pure {ks : Nat → Gro} {i : Nat} {r : List Nat} {o : Oper} {a : Act} {w : World} (ho : ops[i]? = some o) (hk : ks i = .pure)
    (h : ∀ K : Act → Prop, (∀ a, groL R P ops Q ks r a w → K a) → if Region.wanted o (yielded ops a.tmps) = true then ∃ v, (∀ w', (execOp a.eval o).run P w' = .ok (.value v) w') ∧ K (a.put o.dst v) else K (a.put o.dst undef)) : groL R P ops Q ks (i :: r) a w := by
  simp only [groL, ho, hk]
  exact h _ (fun _ h => h)
theorem groL0_read {ks : Nat → Gro} {i : Nat} {r : List Nat} {o : Oper} {a : Act} {w : World} (ho : ops[i]? = some o) (hk : ks i = .read)
    (h : ∀ (K : Act → Prop) (S : Value → Prop), (∀ v, Stays R P o a w v → S v) → (∀ a, groL R P ops Q ks r a w → K a) → if Region.wanted o (yielded ops a.tmps) = true then ∃ v, o.quietAt P a (fun x => x = w) w v ∧ S v ∧ K (a.put o.dst v) else K (a.put o.dst undef)) : groL R P ops Q ks (i :: r) a w := by
  simp only [groL, ho, hk]
  exact h _ (Stays R P o a w) (fun _ h => h) (fun _ h => h)
theorem groL0_grow {ks : Nat → Gro} {i : Nat} {r : List Nat} {o : Oper} {a : Act} {w : World} (ho : ops[i]? = some o) (hk : ks i = .grow)
    (h : ∀ K : Act → World → Prop, (∀ a w', R w w' ∧ groL R P ops Q ks r a w' → K a w') → if Region.wanted o (yielded ops a.tmps) = true then o.wp P a w K Q else K (a.put o.dst undef) w) : groL R P ops Q ks (i :: r) a w := by
  simp only [groL, ho, hk]
  have h1 := h (fun a' w' => R w w' ∧ groL R P ops Q ks r a' w') (fun _ _ h => h)
  split
  · rename_i hw; rw [if_pos hw] at h1; exact h1
  · rename_i hw; rw [if_neg hw] at h1; exact h1.2
theorem groL0_write {ks : Nat → Gro} {i : Nat} {r : List Nat} {o : Oper} {a : Act} {w : World} (ho : ops[i]? = some o) (hk : ks i = .write)
    (h : ∀ K : Act → World → Prop, (∀ a w, groL R P ops Q ks r a w → K a w) → if Region.wanted o (yielded ops a.tmps) = true then o.wp P a w K Q else K (a.put o.dst undef) w) : groL R P ops Q ks (i :: r) a w := by
  simp only [groL, ho, hk]
  exact h _ (fun _ _ h => h)
/-- The walk, closed: nothing looks into it but the laws below. -/
structure GroW (P : Program) (ops : Array Oper) (Q : Exit → Act → World → Prop) (ks : Nat → Gro) (l : List Nat) (a : Act) (w : World) : Prop where
  out : groL Ext P ops Q ks l a w
theorem groL_nil {ks : Nat → Gro} {a : Act} {w : World} (h : Q .normal a w) : GroW P ops Q ks [] a w := ⟨h⟩
theorem groL_pure {ks : Nat → Gro} {i : Nat} {r : List Nat} {o : Oper} {a : Act} {w : World} (ho : ops[i]? = some o) (hk : ks i = .pure)
    (h : ∀ K : Act → Prop, (∀ a, GroW P ops Q ks r a w → K a) → if Region.wanted o (yielded ops a.tmps) = true then ∃ v, (∀ w', (execOp a.eval o).run P w' = .ok (.value v) w') ∧ K (a.put o.dst v) else K (a.put o.dst undef)) : GroW P ops Q ks (i :: r) a w :=
  ⟨groL0_pure ho hk fun K hK => h K fun a h => hK a h.out⟩
theorem groL_read {ks : Nat → Gro} {i : Nat} {r : List Nat} {o : Oper} {a : Act} {w : World} (ho : ops[i]? = some o) (hk : ks i = .read)
    (h : ∀ (K : Act → Prop) (S : Value → Prop), (∀ v, Stays Ext P o a w v → S v) → (∀ a, GroW P ops Q ks r a w → K a) → if Region.wanted o (yielded ops a.tmps) = true then ∃ v, o.quietAt P a (fun x => x = w) w v ∧ S v ∧ K (a.put o.dst v) else K (a.put o.dst undef)) : GroW P ops Q ks (i :: r) a w :=
  ⟨groL0_read ho hk fun K S hS hK => h K S hS fun a h => hK a h.out⟩
theorem groL_grow {ks : Nat → Gro} {i : Nat} {r : List Nat} {o : Oper} {a : Act} {w : World} (ho : ops[i]? = some o) (hk : ks i = .grow)
    (h : ∀ K : Act → World → Prop, (∀ a w', Ext w w' ∧ GroW P ops Q ks r a w' → K a w') → if Region.wanted o (yielded ops a.tmps) = true then o.wp P a w K Q else K (a.put o.dst undef) w) : GroW P ops Q ks (i :: r) a w :=
  ⟨groL0_grow ho hk fun K hK => h K fun a w' h => hK a w' ⟨h.1, h.2.out⟩⟩
theorem groL_write {ks : Nat → Gro} {i : Nat} {r : List Nat} {o : Oper} {a : Act} {w : World} (ho : ops[i]? = some o) (hk : ks i = .write)
    (h : ∀ K : Act → World → Prop, (∀ a w, GroW P ops Q ks r a w → K a w) → if Region.wanted o (yielded ops a.tmps) = true then o.wp P a w K Q else K (a.put o.dst undef) w) : GroW P ops Q ks (i :: r) a w :=
  ⟨groL0_write ho hk fun K hK => h K fun a w h => hK a w h.out⟩
/-- The law: an order of one's own choice. -/
theorem wp_region_gro {id : Nat} {a : Act} {w : World} {l : List Oper} (ks : Nat → Gro) (ord : List Nat) (hm : P.follows .mixedOrders = true) (hsel : Region.noSelect l.toArray = true) (hn : ord.length = l.length)
    (hB : groText .any l.toArray ks ord (Array.replicate l.toArray.size false) = true) (hQ : ∀ c a w d v, Q (.panic c) (a.put (some d) v) w → Q (.panic c) a w)
    (h : GroW P l.toArray Q ks ord a w.drew) : (Code.region id l.toArray true).wp P Q a w := wp_region_gro0 ks ord hm hsel hn hB hQ h.out
end
/-- The same walk, in which one block may be written meanwhile; what is read lies elsewhere. -/
structure GroB (g : Nat) (P : Program) (ops : Array Oper) (Q : Exit → Act → World → Prop) (ks : Nat → Gro) (l : List Nat) (a : Act) (w : World) : Prop where
  out : groL (fun w w' => w.grownBy w' (some g)) P ops Q ks l a w
theorem groB_nil {g : Nat} {P : Program} {ops : Array Oper} {Q : Exit → Act → World → Prop} {ks : Nat → Gro} {a : Act} {w : World} (h : Q .normal a w) : GroB g P ops Q ks [] a w := ⟨h⟩
theorem groB_pure {g : Nat} {P : Program} {ops : Array Oper} {Q : Exit → Act → World → Prop} {ks : Nat → Gro} {i : Nat} {r : List Nat} {o : Oper} {a : Act} {w : World} (ho : ops[i]? = some o) (hk : ks i = .pure)
    (h : ∀ K : Act → Prop, (∀ a, GroB g P ops Q ks r a w → K a) → if Region.wanted o (yielded ops a.tmps) = true then ∃ v, (∀ w', (execOp a.eval o).run P w' = .ok (.value v) w') ∧ K (a.put o.dst v) else K (a.put o.dst undef)) : GroB g P ops Q ks (i :: r) a w :=
  ⟨groL0_pure ho hk fun K hK => h K fun a h => hK a h.out⟩
theorem groB_read {g : Nat} {P : Program} {ops : Array Oper} {Q : Exit → Act → World → Prop} {ks : Nat → Gro} {i : Nat} {r : List Nat} {o : Oper} {a : Act} {w : World} (ho : ops[i]? = some o) (hk : ks i = .read)
    (h : ∀ (K : Act → Prop) (S : Value → Prop), (∀ v, Stays (fun w w' => w.grownBy w' (some g)) P o a w v → S v) → (∀ a, GroB g P ops Q ks r a w → K a) → if Region.wanted o (yielded ops a.tmps) = true then ∃ v, o.quietAt P a (fun x => x = w) w v ∧ S v ∧ K (a.put o.dst v) else K (a.put o.dst undef)) : GroB g P ops Q ks (i :: r) a w :=
  ⟨groL0_read ho hk fun K S hS hK => h K S hS fun a h => hK a h.out⟩
theorem groB_grow {g : Nat} {P : Program} {ops : Array Oper} {Q : Exit → Act → World → Prop} {ks : Nat → Gro} {i : Nat} {r : List Nat} {o : Oper} {a : Act} {w : World} (ho : ops[i]? = some o) (hk : ks i = .grow)
    (h : ∀ K : Act → World → Prop, (∀ a w', w.grownBy w' (some g) ∧ GroB g P ops Q ks r a w' → K a w') → if Region.wanted o (yielded ops a.tmps) = true then o.wp P a w K Q else K (a.put o.dst undef) w) : GroB g P ops Q ks (i :: r) a w :=
  ⟨groL0_grow ho hk fun K hK => h K fun a w' h => hK a w' ⟨h.1, h.2.out⟩⟩
theorem wp_region_grob (g : Nat) {P : Program} {Q : Exit → Act → World → Prop} {id : Nat} {a : Act} {w : World} {l : List Oper} (ks : Nat → Gro) (ord : List Nat) (hm : P.follows .mixedOrders = true) (hsel : Region.noSelect l.toArray = true) (hn : ord.length = l.length)
    (hB : groText .any l.toArray ks ord (Array.replicate l.toArray.size false) = true) (hQ : ∀ c a w d v, Q (.panic c) (a.put (some d) v) w → Q (.panic c) a w)
    (h : GroB g P l.toArray Q ks ord a w.drew) : (Code.region id l.toArray true).wp P Q a w := wp_region_gro0 ks ord hm hsel hn hB hQ h.out
/-- What lies elsewhere stays. -/
theorem grown_some {g : Nat} {w w' : World} (hx : w.grownBy w' (some g)) (p : Addr) (hne : p.block ≠ g) (h : (w.cell? p).isSome = true) : w'.cell? p = w.cell? p := by
  obtain ⟨v, hv⟩ := Option.isSome_iff_exists.1 h
  exact World.cell?_of_block (w := w) (hx.block p.block (World.block_lt_of_cell? w p hv) (fun e => hne (Option.some.inj e)))
/-- A cell that holds something holds it still when memory has been made. -/
theorem ext_some {w w' : World} (hx : Ext w w') (p : Addr) (h : (w.cell? p).isSome = true) : w'.cell? p = w.cell? p := by
  obtain ⟨v, hv⟩ := Option.isSome_iff_exists.1 h
  exact Below.cell hx (World.block_lt_of_cell? w p hv)
end Go.Proofs.Ytngnplghjaojhaa

/- A region that draws its order, by what holds when some of its operations have been carried out. No program in sight. -/
namespace Go.Proofs.Ytngnplghjaojhaa
set_option maxRecDepth 100000
set_option maxHeartbeats 2000000
set_option linter.unusedSimpArgs false
open Go.RowKit Go.Sort
set_option linter.unusedVariables false

section
variable {P : Program} {md : Region.Mode} {ops : Array Oper} {Q : Exit → Act → World → Prop}
/-- Operations wait for earlier ones only. -/
def acycB (md : Region.Mode) (ops : Array Oper) : Bool := (List.range ops.size).all fun i => match ops[i]? with
  | none => true
  | some o => o.after.all (fun e => !Region.binds md e || decide (e.on < i))
theorem acyc_ready {listed : Array Bool} (hB : acycB md ops = true) (hz : listed.size = ops.size) (hr : Region.ready md ops listed = []) : ∀ j, j < ops.size → listed.getD j true = true := by
  intro j
  induction j using Nat.strongRecOn with
  | _ j ih =>
    intro hj
    refine Classical.byContradiction fun hne => ?_
    have hf : listed.getD j true = false := by simpa using hne
    have hm : j ∈ Region.ready md ops listed := by
      refine mem_ready.2 ⟨hf, ops[j], Array.getElem?_eq_getElem hj, fun e he hb => ?_⟩
      have h1 := List.all_eq_true.1 hB j (List.mem_range.2 hj)
      simp only [Array.getElem?_eq_getElem hj] at h1
      have h2 := Array.all_eq_true'.1 h1 e he
      simp only [hb, Bool.not_true, Bool.false_or, decide_eq_true_eq] at h2
      have h3 := ih e.on h2 (by omega)
      have hlt : e.on < listed.size := by omega
      simp only [Array.getD, hlt, dif_pos] at h3 ⊢
      exact h3
    rw [hr] at hm
    cases hm
theorem wpAny_of_inv {R : Array Bool → Act → World → Prop} (hB : acycB md ops = true)
    (hs : ∀ listed a w i o, listed.size = ops.size → ops[i]? = some o → i ∈ Region.ready md ops listed → R listed a w → opG P ops Q o (R (listed.setIfInBounds i true)) a w)
    (he : ∀ listed a w, listed.size = ops.size → (∀ j, j < ops.size → listed.getD j true = true) → R listed a w → Q .normal a w) :
    ∀ (f : Nat) (listed : Array Bool) (a : Act) (w : World), listed.size = ops.size → listed.toList.count false = f → R listed a w → wpAny P md ops Q f listed a w
  | 0, listed, a, w, hz, hc, h => by
    have hr : Region.ready md ops listed = [] := by
      refine List.eq_nil_iff_forall_not_mem.2 fun i hi => ?_
      obtain ⟨hf, o, ho, _⟩ := mem_ready.1 hi
      have hlt : i < listed.size := by rw [hz]; exact (Array.getElem?_eq_some_iff.1 ho).1
      simp only [Array.getD, hlt, dif_pos] at hf
      have hm : false ∈ listed.toList := by
        have h1 := List.getElem_mem (l := listed.toList) (n := i) (by simpa using hlt)
        have h2 : listed.toList[i]'(by simpa using hlt) = false := by simpa using hf
        rwa [h2] at h1
      have := List.count_pos_iff.2 hm
      omega
    exact ⟨hr, he listed a w hz (acyc_ready hB hz hr) h⟩
  | f + 1, listed, a, w, hz, hc, h => by
    refine ⟨fun hr => he listed a w hz (acyc_ready hB hz hr) h, fun i hi => ?_⟩
    obtain ⟨hf, o, ho, hdep⟩ := mem_ready.1 hi
    have hlt : i < listed.size := by rw [hz]; exact (Array.getElem?_eq_some_iff.1 ho).1
    simp only [Array.getD, hlt, dif_pos] at hf
    refine wpOp_of_opG ho (opG_mono (fun a' w' h' => wpAny_of_inv hB hs he f _ a' w' (by simpa using hz) ?_ h') (hs listed a w i o hz ho hi h))
    have hl : i < listed.toList.length := by simpa using hlt
    have hg : listed.toList[i] = false := by simpa using hf
    rw [Array.toList_setIfInBounds, List.count_set hl, hg]
    show listed.toList.count false - 1 + 0 = f
    omega
/-- The slots that a region fills. -/
def puts (a : Act) : List Tmp → List Value → Act
  | s :: ss, v :: vs => puts (a.put (some s) v) ss vs
  | _, _ => a
def depB (md : Region.Mode) (ops : Array Oper) (dep : Nat → List Nat) : Bool := (List.range ops.size).all fun i => match ops[i]? with
  | none => true
  | some o => (dep i).all fun d => o.after.any (fun e => Region.binds md e && e.on == d)
def updB (S : Nat → Bool) (i : Nat) : Nat → Bool := fun j => if j = i then true else S j
theorem updB_at (S : Nat → Bool) (i : Nat) : updB S i i = true := if_pos rfl
theorem updB_ne (S : Nat → Bool) {i j : Nat} (h : j ≠ i) : updB S i j = S j := if_neg h
/-- What is owed at each operation. -/
def stepsI (P : Program) (Q : Exit → Act → World → Prop) (l : Array Oper) (a0 : Act) (slots : List Tmp) (dep : Nat → List Nat) (F : (Nat → Bool) → List Value → World → Prop) : List Oper → Nat → Prop
  | [], _ => True
  | o :: r, i => (∀ S us w', (∀ d ∈ dep i, S d = true) → S i = false → F S us w' → ∀ K : Act → World → Prop, (∀ us' w'', F (updB S i) us' w'' → K (puts a0 slots us') w'') →
      if Region.wanted o (yielded l (puts a0 slots us).tmps) = true then o.wp P (puts a0 slots us) w' K Q else K ((puts a0 slots us).put o.dst undef) w') ∧ stepsI P Q l a0 slots dep F r (i + 1)
theorem stepsI_at {l : Array Oper} {a0 : Act} {slots : List Tmp} {dep : Nat → List Nat} {F : (Nat → Bool) → List Value → World → Prop} : ∀ (r : List Oper) (k : Nat), stepsI P Q l a0 slots dep F r k → ∀ i o, r[i]? = some o →
    (∀ S us w', (∀ d ∈ dep (k + i), S d = true) → S (k + i) = false → F S us w' → ∀ K : Act → World → Prop, (∀ us' w'', F (updB S (k + i)) us' w'' → K (puts a0 slots us') w'') →
      if Region.wanted o (yielded l (puts a0 slots us).tmps) = true then o.wp P (puts a0 slots us) w' K Q else K ((puts a0 slots us).put o.dst undef) w')
  | [], _, _, i, o, h => by simp at h
  | x :: r, k, hs, 0, o, h => by
    simp only [List.getElem?_cons_zero, Option.some.injEq] at h
    subst h
    exact hs.1
  | x :: r, k, hs, i + 1, o, h => by
    rw [List.getElem?_cons_succ] at h
    have := stepsI_at r (k + 1) hs.2 i o h
    rw [show k + 1 + i = k + (i + 1) from by omega] at this
    exact this
theorem wp_region_inv {id : Nat} {a0 : Act} {w : World} {l : List Oper} (slots : List Tmp) (us0 : List Value) (dep : Nat → List Nat) (F : (Nat → Bool) → List Value → World → Prop)
    (hm : P.follows .mixedOrders = true) (hB : acycB .any l.toArray = true) (hD : depB .any l.toArray dep = true)
    (ha : puts a0 slots us0 = a0) (h0 : F (fun _ => false) us0 w.drew)
    (hst : stepsI P Q l.toArray a0 slots dep F l 0)
    (he : ∀ S us w', (∀ j, j < l.length → S j = true) → F S us w' → Q .normal (puts a0 slots us) w') : (Code.region id l.toArray true).wp P Q a0 w := by
  have hs : ∀ i o, l.toArray[i]? = some o → ∀ S us w', (∀ d ∈ dep i, S d = true) → S i = false → F S us w' → ∀ K : Act → World → Prop, (∀ us' w'', F (updB S i) us' w'' → K (puts a0 slots us') w'') →
      if Region.wanted o (yielded l.toArray (puts a0 slots us).tmps) = true then o.wp P (puts a0 slots us) w' K Q else K ((puts a0 slots us).put o.dst undef) w' := fun i o ho => by
    have := stepsI_at l 0 hst i o (by simpa using ho)
    rw [Nat.zero_add] at this
    exact this
  refine wp_region_any hm ?_
  refine wpAny_of_inv (md := .any) (R := fun listed a w' => ∃ us, a = puts a0 slots us ∧ F (fun j => listed.getD j false) us w') hB ?_ ?_ _ _ _ _ (by simp) (by simp) ⟨us0, ha.symm, ?_⟩
  · rintro listed a w' i o hz ho hi ⟨us, rfl, hF⟩
    obtain ⟨hf, o', ho', hdep⟩ := mem_ready.1 hi
    obtain rfl : o = o' := Option.some.inj (ho.symm.trans ho')
    have hlt : i < listed.size := by rw [hz]; exact (Array.getElem?_eq_some_iff.1 ho).1
    have hlt' : i < l.toArray.size := by omega
    have hfi : listed.getD i false = false := by
      simp only [Array.getD, hlt, dif_pos] at hf ⊢
      exact hf
    refine hs i o ho (fun j => listed.getD j false) us w' (fun d hd => ?_) hfi hF _ (fun us' w'' h' => ⟨us', rfl, ?_⟩)
    · have h1 := List.all_eq_true.1 hD i (List.mem_range.2 hlt')
      simp only [ho] at h1
      have h2 := List.all_eq_true.1 h1 d hd
      obtain ⟨e, he1, he2⟩ := Array.any_eq_true'.1 h2
      simp only [Bool.and_eq_true, beq_iff_eq] at he2
      have h3 := hdep e he1 he2.1
      rw [he2.2] at h3
      exact h3
    · have : (fun j => (listed.setIfInBounds i true).getD j false) = updB (fun j => listed.getD j false) i := by
        funext j
        by_cases e : j = i
        · subst e; rw [updB_at]; simp [Array.getD, hlt]
        · rw [updB_ne _ e, getD_set_ne false (Ne.symm e)]
      rw [this]
      exact h'
  · rintro listed a w' hz hall ⟨us, rfl, hF⟩
    refine he _ us w' (fun j hj => ?_) hF
    have h1 := hall j (by simpa using hj)
    have hlt : j < listed.size := by rw [hz]; simpa using hj
    simp only [Array.getD, hlt, dif_pos] at h1 ⊢
    exact h1
  · have : (fun j => (Array.replicate l.toArray.size false).getD j false) = fun _ => false := by
      funext j
      simp only [Array.getD]
      split
      · simp
      · rfl
    rw [this]
    exact h0
end
end Go.Proofs.Ytngnplghjaojhaa
