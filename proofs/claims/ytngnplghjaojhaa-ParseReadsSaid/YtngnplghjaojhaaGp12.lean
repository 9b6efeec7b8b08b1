/- What holds of all that is read: it goes on, and stays small. Plain. -/
import Derived.Test.YtngnplghjaojhaaGp11
namespace Go.Proofs.Ytngnplghjaojhaa
set_option maxRecDepth 100000
set_option maxHeartbeats 2000000
set_option linter.unusedSimpArgs false
set_option linter.unusedVariables false

def Bd (st : PS) : Prop := st.vars.length ≤ 32 ∧ edgesOf st.atoms ≤ 6
theorem takeP_ok {ts : List Tk} {k : Int} {p q : Nat} {s : ByteArray} (h : takeP ts k p = .ok (s, q)) : q = p + 1 := by
  unfold takeP at h
  split at h
  · cases h; rfl
  · cases h
theorem termP_ok {ts : List Tk} {vars vars' : List ByteArray} {p q : Nat} {t : Bool × ByteArray} (h : termP ts vars p = .ok (t, vars', q)) (hv : vars.length ≤ 32) : q = p + 1 ∧ vars'.length ≤ 32 := by
  refine ⟨?_, termP_len h hv⟩
  unfold termP at h
  split at h
  · cases h; rfl
  · split at h
    · split at h
      · cases h; rfl
      · split at h
        · cases h
        · cases h; rfl
    · cases h
theorem bind_ok {α β : Type} {x : Except Nat α} {f : α → Except Nat β} {b : β} (h : x.bind f = .ok b) : ∃ a, x = .ok a ∧ f a = .ok b := by
  cases x with
  | error e => cases h
  | ok a => exact ⟨a, rfl, h⟩
theorem midP_ok {ts : List Tk} {p q : Nat} {k : Int} {s v : ByteArray} (h : midP ts p = .ok (k, s, v, q)) : p ≤ q ∧ k ≠ 4 := by
  unfold midP at h
  split at h
  · obtain ⟨⟨_, q1⟩, h1, h2⟩ := bind_ok h
    have := takeP_ok h1
    cases h2
    exact ⟨by omega, by decide⟩
  · split at h
    · obtain ⟨⟨_, q1⟩, h1, h2⟩ := bind_ok h
      obtain ⟨⟨_, q2⟩, h3, h4⟩ := bind_ok h2
      obtain ⟨⟨_, q3⟩, h5, h6⟩ := bind_ok h4
      have := takeP_ok h1
      have := takeP_ok h3
      have := takeP_ok h5
      cases h6
      exact ⟨by omega, by decide⟩
    · cases h
      exact ⟨Nat.le_refl _, by decide⟩
theorem atomP_good {ts : List Tk} {st s : PS} (h : atomP ts st = .ok s) (hb : Bd st) : st.p < s.p ∧ Bd s ∧ s.atoms.length = st.atoms.length + 1 := by
  unfold atomP at h
  obtain ⟨⟨f, v1, p1⟩, h1, h2⟩ := bind_ok h
  obtain ⟨⟨k, n, v, p2⟩, h3, h4⟩ := bind_ok h2
  obtain ⟨⟨_, p3⟩, h5, h6⟩ := bind_ok h4
  obtain ⟨e1, l1⟩ := termP_ok h1 hb.1
  obtain ⟨e3, k3⟩ := midP_ok h3
  have e5 := takeP_ok h5
  dsimp only at h6
  split at h6
  · split at h6
    · cases h6
    · rename_i h66
      obtain ⟨⟨_, p4⟩, a1, h7⟩ := bind_ok h6
      obtain ⟨⟨_, p5⟩, a2, h8⟩ := bind_ok h7
      obtain ⟨⟨_, p6⟩, a3, h9⟩ := bind_ok h8
      obtain ⟨⟨t, v2, p7⟩, a4, h10⟩ := bind_ok h9
      obtain ⟨⟨_, p8⟩, a5, h11⟩ := bind_ok h10
      have b1 := takeP_ok a1
      have b2 := takeP_ok a2
      have b3 := takeP_ok a3
      obtain ⟨b4, l4⟩ := termP_ok a4 l1
      have b5 := takeP_ok a5
      cases h11
      have he := edges_yes st.atoms ⟨4, f.1, f.2, ‹ByteArray›, nilB, t.1, t.2⟩ rfl
      refine ⟨by dsimp only at *; omega, ⟨l4, ?_⟩, by simp⟩
      have hb2 := hb.2
      dsimp only
      rw [← edges_yes _ _ rfl]
      omega
  · cases h6
    refine ⟨by dsimp only at *; omega, ⟨l1, ?_⟩, by simp⟩
    dsimp only
    rw [← edges_no _ _ k3]
    exact hb.2
theorem itemsF_good {ts : List Tk} : ∀ (f d : Nat) (st s : PS), itemsF ts f d st = some (.ok s) → Bd st → st.atoms.length ≤ 39 → st.p < s.p ∧ Bd s ∧ s.atoms.length ≤ 40
  | 0, _, _, _, h, _, _ => by simp [itemsF] at h
  | f + 1, d, st, s, h, hb, ha => by
    have ih := itemsF_good (ts := ts) f
    have fin : ∀ s1 : PS, st.p < s1.p → Bd s1 → s1.atoms.length ≤ 40 → (if s1.atoms.length = 40 ∨ kindAt ts s1.p ≠ 6 then some (.ok s1) else itemsF ts f d ⟨s1.p + 1, s1.atoms, s1.vars⟩) = some (.ok s) → st.p < s.p ∧ Bd s ∧ s.atoms.length ≤ 40 := by
      intro s1 h1 h2 h3 h4
      split at h4
      · cases h4; exact ⟨h1, h2, h3⟩
      · rename_i hs
        obtain ⟨g1, g2, g3⟩ := ih d _ s h4 h2 (by dsimp only; omega)
        exact ⟨by dsimp only at g1; omega, g2, g3⟩
    unfold itemsF at h
    by_cases h4 : kindAt ts st.p = 4
    · by_cases h44 : kindAt ts (st.p + 1) = 4
      · by_cases hd : d = 4
        · simp [h4, h44, hd] at h
        · simp only [h4, h44, hd, if_true, if_false] at h
          cases hi : itemsF ts f (d + 1) ⟨st.p + 1, st.atoms, st.vars⟩ with
          | none => rw [hi] at h; simp at h
          | some x =>
            rw [hi] at h
            cases x with
            | error q => simp at h
            | ok s1 =>
              obtain ⟨g1, g2, g3⟩ := ih (d + 1) _ s1 hi hb ha
              dsimp only at g1
              cases hb2 : ((takeP ts 5 s1.p).bind fun (_, p) => (.ok ⟨p, s1.atoms, s1.vars⟩ : Except Nat PS)) with
              | error q => simp only [hb2] at h; cases h
              | ok s' =>
                simp only [hb2] at h
                obtain ⟨⟨_, q1⟩, c1, c2⟩ := bind_ok hb2
                have := takeP_ok c1
                cases c2
                exact fin ⟨q1, s1.atoms, s1.vars⟩ (by dsimp only; omega) g2 g3 h
      · simp only [h4, h44, if_true, if_false] at h
        cases hat : atomP ts ⟨st.p + 1, st.atoms, st.vars⟩ with
        | error q => simp only [hat] at h; cases h
        | ok s' =>
          simp only [hat] at h
          obtain ⟨g1, g2, g3⟩ := atomP_good hat hb
          dsimp only at g1 g3
          exact fin _ (by omega) g2 (by omega) h
    · simp [h4] at h
theorem ItemsR.good {ts : List Tk} {d : Nat} {st s : PS} (h : ItemsR ts d st (.ok s)) (hb : Bd st) (ha : st.atoms.length ≤ 39) : st.p < s.p ∧ Bd s ∧ s.atoms.length ≤ 40 := by
  obtain ⟨f, hf⟩ := h
  exact itemsF_good f d st s hf hb ha
theorem ItemR.good {ts : List Tk} {d : Nat} {st s : PS} {r : Except Nat PS} (h : ItemR ts d st r) (hr : r = .ok s) (hb : Bd st) (ha : st.atoms.length ≤ 39) : st.p < s.p ∧ Bd s ∧ s.atoms.length ≤ 40 := by
  cases h with
  | no h => cases hr
  | deep h h' hd => cases hr
  | bad h h' hd hi => cases hr
  | atom h h' =>
    obtain ⟨g1, g2, g3⟩ := atomP_good hr hb
    dsimp only at g1 g3
    exact ⟨by omega, g2, by omega⟩
  | @group h h' hd s1 hi =>
    obtain ⟨g1, g2, g3⟩ := hi.good hb ha
    dsimp only at g1
    obtain ⟨⟨_, q1⟩, c1, c2⟩ := bind_ok hr
    have := takeP_ok c1
    cases c2
    exact ⟨by dsimp only; omega, g2, g3⟩
end Go.Proofs.Ytngnplghjaojhaa
