/- Several structs are made by calls, each kept in a box of its own, in one statement: whatever order the calls, the boxes and the stores come in. No program in sight. -/
import Derived.Test.YtkmbnghghbfkdaaGreatGp20
import Derived.Test.YtkmbnghghbfkdaaGreatGp38
import Derived.Test.YtkmbnghghbfkdaaGreatGp18
namespace Go.Proofs.YtkmbnghghbfkdaaGreat
set_option maxRecDepth 100000
set_option maxHeartbeats 2000000
set_option linter.unusedSimpArgs false
open Go.RowKit Go.Sort
set_option linter.unusedVariables false

/-- What is so stays so where memory is made, and where the boxes are written. -/
structure FirmN (n : Nat) (T : Nat → TypeId) (O : Nat → World → Value → Prop) : Prop where
  ext : ∀ i, i < n → ∀ {W W' : World} {c : Value}, Ext W W' → O i W c → O i W' c
  row : ∀ i j, i < n → j < n → ∀ {W : World} {g : Nat} {ys : List Value} {c : Value} (xs : Array Value), RowAt W g (T j) ys → O i W c → O i (W.setRow g xs) c
/-- Operations: 2 i loads an argument, 2 i + 1 calls, 2 n + i makes the box, 3 n + i stores. -/
structure ManyF (n : Nat) (w0 : World) (V : Nat → Value) (O : Nat → World → Value → Prop) (T : Nat → TypeId) (z : Nat → List Value) (S : Nat → Bool) (us : List Value) (W : World) : Prop where
  len : us.length = 3 * n
  ext : Ext w0 W
  a : ∀ i, i < n → S (2 * i) = true → us[2 * i]? = some (V i)
  b : ∀ i, i < n → S (2 * i + 1) = true → ∃ c, us[2 * i + 1]? = some c ∧ O i W c
  d : ∀ i, i < n → S (2 * n + i) = true → ∃ g cs, us[2 * n + i]? = some (.pointer (some ⟨g, 0, none⟩)) ∧ w0.heap.size ≤ g ∧ RowAt W g (T i) cs ∧ (S (3 * n + i) = true → us[2 * i + 1]? = some (.agg cs.toArray)) ∧ (S (3 * n + i) = false → cs = z i)
  ne : ∀ i j, i < n → j < n → i ≠ j → S (2 * n + i) = true → S (2 * n + j) = true → us[2 * n + i]? ≠ us[2 * n + j]?
  ds : ∀ i, i < n → S (3 * n + i) = true → S (2 * i + 1) = true ∧ S (2 * n + i) = true
section
variable {n : Nat} {w0 : World} {V : Nat → Value} {O : Nat → World → Value → Prop} {T : Nat → TypeId} {z : Nat → List Value} {S : Nat → Bool} {us : List Value} {W : World}
theorem ManyF.start (hl : us.length = 3 * n) (hx : Ext w0 W) : ManyF n w0 V O T z (fun _ => false) us W := ⟨hl, hx, nofun, nofun, nofun, nofun, nofun⟩
theorem ManyF.load (h : ManyF n w0 V O T z S us W) {i : Nat} (hi : i < n) : ManyF n w0 V O T z (updB S (2 * i)) (us.set (2 * i) (V i)) W := by
  have hl := h.len
  have sn : ∀ k, k ≠ 2 * i → (us.set (2 * i) (V i))[k]? = us[k]? := fun k hk => List.getElem?_set_ne (Ne.symm hk)
  refine ⟨by rw [List.length_set]; exact hl, h.ext, fun j hj hS => ?_, fun j hj hS => ?_, fun j hj hS => ?_, fun j k hj hk hne h1 h2 => ?_, fun j hj hS => ?_⟩
  · by_cases e : j = i
    · subst e; rw [List.getElem?_set_self (by omega)]
    · rw [updB_ne S (by omega)] at hS
      rw [sn _ (by omega)]; exact h.a j hj hS
  · rw [updB_ne S (by omega)] at hS
    rw [sn _ (by omega)]; exact h.b j hj hS
  · rw [updB_ne S (by omega)] at hS
    rw [sn _ (by omega), sn _ (by omega), updB_ne S (by omega)]; exact h.d j hj hS
  · rw [updB_ne S (by omega)] at h1 h2
    rw [sn _ (by omega), sn _ (by omega)]; exact h.ne j k hj hk hne h1 h2
  · rw [updB_ne S (by omega)] at hS ⊢
    rw [updB_ne S (by omega)]
    exact h.ds j hj hS
theorem ManyF.call (h : ManyF n w0 V O T z S us W) (F : FirmN n T O) {i : Nat} (hi : i < n) (hn : S (2 * i + 1) = false) {W' : World} {u : Value} (hx : Ext W W') (ho : O i W' u) : ManyF n w0 V O T z (updB S (2 * i + 1)) (us.set (2 * i + 1) u) W' := by
  have hl := h.len
  have sn : ∀ k, k ≠ 2 * i + 1 → (us.set (2 * i + 1) u)[k]? = us[k]? := fun k hk => List.getElem?_set_ne (Ne.symm hk)
  refine ⟨by rw [List.length_set]; exact hl, h.ext.trans hx, fun j hj hS => ?_, fun j hj hS => ?_, fun j hj hS => ?_, fun j k hj hk hne h1 h2 => ?_, fun j hj hS => ?_⟩
  · rw [updB_ne S (by omega)] at hS
    rw [sn _ (by omega)]; exact h.a j hj hS
  · by_cases e : j = i
    · subst e; exact ⟨u, by rw [List.getElem?_set_self (by omega)], ho⟩
    · rw [updB_ne S (by omega)] at hS
      rw [sn _ (by omega)]
      obtain ⟨c, e1, e2⟩ := h.b j hj hS
      exact ⟨c, e1, F.ext j hj hx e2⟩
  · rw [updB_ne S (by omega)] at hS
    obtain ⟨g, cs, e1, e2, e3, e4, e5⟩ := h.d j hj hS
    refine ⟨g, cs, by rw [sn _ (by omega)]; exact e1, e2, e3.ext hx, fun hs => ?_, fun hs => ?_⟩
    · rw [updB_ne S (by omega)] at hs
      by_cases e : j = i
      · subst e; rw [(h.ds j hj hs).1] at hn; cases hn
      · rw [sn _ (by omega)]; exact e4 hs
    · rw [updB_ne S (by omega)] at hs
      exact e5 hs
  · rw [updB_ne S (by omega)] at h1 h2
    rw [sn _ (by omega), sn _ (by omega)]; exact h.ne j k hj hk hne h1 h2
  · rw [updB_ne S (by omega)] at hS
    rw [updB_ne S (show 2 * n + j ≠ 2 * i + 1 by omega)]
    refine ⟨?_, (h.ds j hj hS).2⟩
    by_cases e : j = i
    · subst e; exact updB_at S _
    · rw [updB_ne S (by omega)]; exact (h.ds j hj hS).1
theorem ManyF.new (h : ManyF n w0 V O T z S us W) (F : FirmN n T O) {i : Nat} (hi : i < n) (hn : S (2 * n + i) = false) :
    ManyF n w0 V O T z (updB S (2 * n + i)) (us.set (2 * n + i) (.pointer (some ⟨W.heap.size, 0, none⟩))) (W.alloc (.cells (z i).toArray (T i))) := by
  have hl := h.len
  have hx := Ext.alloc W (.cells (z i).toArray (T i))
  have sn : ∀ k, k ≠ 2 * n + i → (us.set (2 * n + i) (.pointer (some ⟨W.heap.size, 0, none⟩)))[k]? = us[k]? := fun k hk => List.getElem?_set_ne (Ne.symm hk)
  have ss : (us.set (2 * n + i) (.pointer (some ⟨W.heap.size, 0, none⟩)))[2 * n + i]? = some (.pointer (some ⟨W.heap.size, 0, none⟩)) := List.getElem?_set_self (by omega)
  refine ⟨by rw [List.length_set]; exact hl, h.ext.trans hx, fun j hj hS => ?_, fun j hj hS => ?_, fun j hj hS => ?_, fun j k hj hk hne h1 h2 => ?_, fun j hj hS => ?_⟩
  · rw [updB_ne S (by omega)] at hS
    rw [sn _ (by omega)]; exact h.a j hj hS
  · rw [updB_ne S (by omega)] at hS
    rw [sn _ (by omega)]
    obtain ⟨c, e1, e2⟩ := h.b j hj hS
    exact ⟨c, e1, F.ext j hj hx e2⟩
  · by_cases e : j = i
    · subst e
      refine ⟨W.heap.size, z j, ss, h.ext.size, RowAt.new _ _ _, fun hs => ?_, fun _ => rfl⟩
      rw [updB_ne S (by omega)] at hs
      rw [(h.ds j hj hs).2] at hn; cases hn
    · rw [updB_ne S (by omega)] at hS
      obtain ⟨g, cs, e1, e2, e3, e4, e5⟩ := h.d j hj hS
      refine ⟨g, cs, by rw [sn _ (by omega)]; exact e1, e2, e3.ext hx, fun hs => ?_, fun hs => ?_⟩
      · rw [updB_ne S (by omega)] at hs
        rw [sn _ (by omega)]; exact e4 hs
      · rw [updB_ne S (by omega)] at hs
        exact e5 hs
  · have key : ∀ j, j < n → j ≠ i → updB S (2 * n + i) (2 * n + j) = true → us[2 * n + j]? ≠ some (.pointer (some ⟨W.heap.size, 0, none⟩)) := fun j hj hji hS he => by
      rw [updB_ne S (by omega)] at hS
      obtain ⟨g, cs, e1, _, e3, _⟩ := h.d j hj hS
      rw [he] at e1
      cases e1
      exact absurd e3.lt (Nat.lt_irrefl _)
    by_cases e : j = i
    · subst e
      rw [ss, sn _ (by omega)]
      exact fun he => key k hk (Ne.symm hne) h2 he.symm
    · by_cases e' : k = i
      · subst e'
        rw [ss, sn _ (by omega)]
        exact key j hj e h1
      · rw [updB_ne S (by omega)] at h1 h2
        rw [sn _ (by omega), sn _ (by omega)]; exact h.ne j k hj hk hne h1 h2
  · rw [updB_ne S (by omega)] at hS
    refine ⟨by rw [updB_ne S (by omega)]; exact (h.ds j hj hS).1, ?_⟩
    by_cases e : j = i
    · subst e; exact updB_at S _
    · rw [updB_ne S (by omega)]; exact (h.ds j hj hS).2
theorem ManyF.store (h : ManyF n w0 V O T z S us W) (F : FirmN n T O) {i : Nat} (hi : i < n) (h1 : S (2 * i + 1) = true) (h4 : S (2 * n + i) = true) (hn : S (3 * n + i) = false) {g : Nat} (hx : us[2 * n + i]? = some (.pointer (some ⟨g, 0, none⟩))) {xs : List Value} (hc : us[2 * i + 1]? = some (.agg xs.toArray)) :
    ManyF n w0 V O T z (updB S (3 * n + i)) us (W.setRow g xs.toArray) := by
  obtain ⟨g', cs, e1, e2, e3, _, _⟩ := h.d i hi h4
  rw [hx] at e1
  cases e1
  refine ⟨h.len, below_setRow h.ext e2 _, fun j hj hS => ?_, fun j hj hS => ?_, fun j hj hS => ?_, fun j k hj hk hne q1 q2 => ?_, fun j hj hS => ?_⟩
  · rw [updB_ne S (by omega)] at hS; exact h.a j hj hS
  · rw [updB_ne S (by omega)] at hS
    obtain ⟨c, f1, f2⟩ := h.b j hj hS
    exact ⟨c, f1, F.row j i hj hi _ e3 f2⟩
  · rw [updB_ne S (by omega)] at hS
    by_cases e : j = i
    · subst e
      refine ⟨g, xs, hx, e2, e3.setRow xs, fun _ => hc, fun hs => ?_⟩
      rw [updB_at] at hs; cases hs
    · obtain ⟨g2, cs2, f1, f2, f3, f4, f5⟩ := h.d j hj hS
      have hg : g2 ≠ g := fun he => h.ne j i hj hi e hS h4 (by rw [f1, hx, he])
      refine ⟨g2, cs2, f1, f2, (setRow_other W g g2 _ hg).trans f3, fun hs => ?_, fun hs => ?_⟩
      · rw [updB_ne S (by omega)] at hs; exact f4 hs
      · rw [updB_ne S (by omega)] at hs; exact f5 hs
  · rw [updB_ne S (by omega)] at q1 q2; exact h.ne j k hj hk hne q1 q2
  · by_cases e : j = i
    · subst e
      rw [updB_ne S (by omega), updB_ne S (by omega)]
      exact ⟨h1, h4⟩
    · rw [updB_ne S (by omega)] at hS
      rw [updB_ne S (by omega), updB_ne S (by omega)]
      exact h.ds j hj hS
/-- A box's row before its store. -/
theorem ManyF.old (h : ManyF n w0 V O T z S us W) {i : Nat} (hi : i < n) (h4 : S (2 * n + i) = true) (hn : S (3 * n + i) = false) {u : Value} (hu : us[2 * n + i]? = some u) : ∃ g, u = .pointer (some ⟨g, 0, none⟩) ∧ RowAt W g (T i) (z i) := by
  obtain ⟨g, cs, e1, _, e3, _, e5⟩ := h.d i hi h4
  rw [hu] at e1
  obtain rfl := e5 hn
  exact ⟨g, Option.some.inj e1, e3⟩
theorem ManyF.val (h : ManyF n w0 V O T z S us W) {i : Nat} (hi : i < n) (hS : S (2 * i + 1) = true) {u : Value} (hu : us[2 * i + 1]? = some u) : O i W u := by
  obtain ⟨c, e1, e2⟩ := h.b i hi hS
  rw [hu] at e1
  cases e1
  exact e2
/-- At the end. -/
theorem ManyF.fin (h : ManyF n w0 V O T z S us W) {i : Nat} (hi : i < n) (hS : ∀ k, k < 4 * n → S k = true) {c x : Value} (hc : us[2 * i + 1]? = some c) (hx : us[2 * n + i]? = some x) : O i W c ∧ ∃ g cs, x = .pointer (some ⟨g, 0, none⟩) ∧ c = .agg cs.toArray ∧ w0.heap.size ≤ g ∧ RowAt W g (T i) cs := by
  refine ⟨h.val hi (hS _ (by omega)) hc, ?_⟩
  obtain ⟨g, cs, e1, e2, e3, e4, _⟩ := h.d i hi (hS _ (by omega))
  have e6 := e4 (hS _ (by omega))
  rw [hx] at e1
  rw [hc] at e6
  exact ⟨g, cs, Option.some.inj e1, Option.some.inj e6, e2, e3⟩
end
end Go.Proofs.YtkmbnghghbfkdaaGreat

/- A dictionary and a pattern of the law's own, each in a box. -/
namespace Go.Proofs.YtkmbnghghbfkdaaGreat
set_option maxRecDepth 100000
set_option maxHeartbeats 2000000
set_option linter.unusedSimpArgs false
open Go.RowKit Go.Shelf Go.Sort
attribute [local go_sem] Oper.semAt_some wide_fn wide_depth
set_option linter.unusedVariables false

theorem PatOwn.ext {B : Nat} {w w' : World} {v : Value} {P : Pat} (h : PatOwn B w v P) (hx : Ext w w') : PatOwn B w' v P := by
  obtain ⟨av, rv, hv, e, h1, h2, h3⟩ := h
  exact ⟨av, rv, hv, e, own_ext h1 hx, own_ext h2 hx, own_ext h3 hx⟩
theorem PatOwn.base {B B' : Nat} {w : World} {v : Value} {P : Pat} (h : PatOwn B w v P) (hb : B' ≤ B) : PatOwn B' w v P := by
  obtain ⟨av, rv, hv, e, h1, h2, h3⟩ := h
  exact ⟨av, rv, hv, e, own_base h1 hb, own_base h2 hb, own_base h3 hb⟩
theorem PatOwn.at_ {B : Nat} {W : World} {v : Value} {P : Pat} (h : PatOwn B W v P) : PatAt W v P := by
  obtain ⟨av, rv, hv, e, h1, h2, h3⟩ := h
  exact ⟨av, rv, hv, e, Sl.of_own h1, Sl.of_own h2, Sl.of_own h3⟩
theorem PatOwn.turn {B g : Nat} {W W' : World} {v : Value} {P : Pat} {t : TypeId} {xs : List Value} (h : PatOwn B W v P) (hr : RowAt W g t xs) (h1 : 9 ≠ t) (h2 : 88 ≠ t) (hg : W.grownBy W' (some g)) : PatOwn B W' v P := by
  obtain ⟨av, rv, hv, e, a1, a2, a3⟩ := h
  exact ⟨av, rv, hv, e, own_turn a1 hr h2 hg, own_turn a2 hr h1 hg, own_turn a3 hr h1 hg⟩
theorem PatOwn.shape {B : Nat} {W : World} {v : Value} {P : Pat} (h : PatOwn B W v P) : ∃ a1 c1 a2 c2 a3 c3, v = patV (.slice a1 P.atoms.length c1) (.slice a2 P.ret.length c2) (.slice a3 P.hint.length c3) P := by
  obtain ⟨av, rv, hv, rfl, h1, h2, h3⟩ := h
  obtain ⟨a1, c1, rfl⟩ := own_vw h1
  obtain ⟨a2, c2, rfl⟩ := own_vw h2
  obtain ⟨a3, c3, rfl⟩ := own_vw h3
  exact ⟨_, _, _, _, _, _, rfl⟩
theorem GolIn.base {B B' : Nat} {w : World} {v : Value} {G : Gol} (h : GolIn B w v G) (hb : B' ≤ B) : GolIn B' w v G := by
  obtain ⟨vv, av, rv, hv, e, h1, h2, h3, h4⟩ := h
  exact ⟨vv, av, rv, hv, e, own_base h1 hb, own_base h2 hb, own_base h3 hb, own_base h4 hb⟩
theorem GolIn.shape {B : Nat} {W : World} {v : Value} {G : Gol} (h : GolIn B W v G) : ∃ a1 c1 a2 c2 a3 c3 a4 c4, v = golV (.slice a1 G.vars.length c1) (.slice a2 G.atoms.length c2) (.slice a3 G.ret.length c3) (.slice a4 G.hint.length c4) G := by
  obtain ⟨vv, av, rv, hv, rfl, h1, h2, h3, h4⟩ := h
  obtain ⟨a1, c1, rfl⟩ := own_vw h1
  obtain ⟨a2, c2, rfl⟩ := own_vw h2
  obtain ⟨a3, c3, rfl⟩ := own_vw h3
  obtain ⟨a4, c4, rfl⟩ := own_vw h4
  exact ⟨_, _, _, _, _, _, _, _, rfl⟩
theorem DicOwn.heads {B : Nat} {W : World} {us : Nat → Value × Value} {D : Dic} (h : DicOwn B W us D) : ∃ A : Heads, DicOwn B W (hv A) D ∧ dv us = dv (hv A) := by
  obtain ⟨A, hA1, hA2⟩ := Go.Proofs.YtkmbnghghbfkdaaGreat.heads (vs := us) (fun i hi => by obtain ⟨a, c, b, d, e, _⟩ := (h i hi).pair; exact ⟨_, _, _, _, _, _, e⟩)
  exact ⟨A, fun i hi => by rw [← hA1 i hi]; exact h i hi, by unfold dv; rw [hA2]⟩
theorem cutP_near {P : Pat} (h : P.Near) : (cutP P).Fits :=
  ⟨fun a ha => by
    obtain ⟨h1, h2, h3, h4, _, _⟩ := h.1 a (List.mem_of_mem_take ha)
    unfold reachBytes at h1 h2 h3 h4
    exact ⟨by omega, by omega, by omega, by omega⟩, by show (P.atoms.take 42).length ≤ 100000; rw [List.length_take]; omega⟩
def rV2 (a b : Value) : Nat → Value
  | 0 => a
  | _ => b
def rO2 (B : Nat) (D : Dic) (P : Pat) : Nat → World → Value → Prop
  | 0 => fun W c => ∃ A : Heads, c = dv (hv A) ∧ DicOwn B W (hv A) D
  | _ => fun W c => PatOwn B W c P
def rT2 : Nat → TypeId
  | 0 => 28
  | _ => 35
def rZ2 : Nat → List Value
  | 0 => [.slice none 0 0, .slice none 0 0, .slice none 0 0, .slice none 0 0, .slice none 0 0, .slice none 0 0, .slice none 0 0, .slice none 0 0, .slice none 0 0, .slice none 0 0]
  | _ => [.slice none 0 0, .slice none 0 0, .bool false, .bool false, .bool false, .int .i64 0, .int .i64 0, .slice none 0 0]
def depR2 : Nat → List Nat
  | 1 => [0]
  | 3 => [2]
  | 6 => [1, 4]
  | 7 => [3, 5]
  | _ => []
theorem rO2_firm (B : Nat) (D : Dic) (P : Pat) : FirmN 2 rT2 (rO2 B D P) := by
  refine ⟨fun i hi W W' c hx h => ?_, fun i j hi hj W g ys c xs hr h => ?_⟩
  · match i, h with
    | 0, ⟨A, e, h⟩ => exact ⟨A, e, h.ext hx⟩
    | 1, h => exact PatOwn.ext h hx
  · have hg := setRow_grown W g xs
    match i, h with
    | 0, ⟨A, e, h⟩ => match j, hr with
      | 0, hr => exact ⟨A, e, h.turnT hr (by decide) (by decide) hg⟩
      | 1, hr => exact ⟨A, e, h.turnT hr (by decide) (by decide) hg⟩
    | 1, h => match j, hr with
      | 0, hr => exact PatOwn.turn h hr (by decide) (by decide) hg
      | 1, hr => exact PatOwn.turn h hr (by decide) (by decide) hg
theorem six6 {l : List Value} (h : l.length = 3 * 2) : ∃ u0 u1 u2 u3 u4 u5, l = [u0, u1, u2, u3, u4, u5] := by
  match l, h with
  | [u0, u1, u2, u3, u4, u5], _ => exact ⟨u0, u1, u2, u3, u4, u5, rfl⟩
theorem PatAt.parts {w : World} {a b c : Value} {P : Pat} (h : PatAt w (patV a b c P) P) : Ats w a P.atoms ∧ Strs w b P.ret ∧ Strs w c P.hint := by
  obtain ⟨av, rv, hv, e, h1, h2, h3⟩ := h
  unfold patV patL at e
  simp only [Value.agg.injEq, Array.mk.injEq, List.cons.injEq] at e
  obtain ⟨rfl, rfl, _, _, _, _, _, rfl, _⟩ := e
  exact ⟨h1, h2, h3⟩
theorem goalN (A : Heads) (D : Dic) (P : Pat) (a b c : Value) (w : World) (hV : DicV w (hv A) D) (hS : DicS D) (hP : PatAt w (patV a b c P) P) (hf : P.Fits) :
    Calls Tryz.prog 13 #[.agg (dcells (hv A)).toArray, .agg (patL a b c P).toArray] w fun e w' => ∃ G n c q1 d1 q2 d2 q3 d3 q4 d4, e = .returned (.tuple #[.agg (golC (.slice q1 G.vars.length d1) (.slice q2 G.atoms.length d2) (.slice q3 G.ret.length d3) (.slice q4 G.hint.length d4) G).toArray, .int .i64 n, .int .i64 c]) ∧
      OfR D P G n c ∧ GolIn w.heap.size w' (golV (.slice q1 G.vars.length d1) (.slice q2 G.atoms.length d2) (.slice q3 G.ret.length d3) (.slice q4 G.hint.length d4) G) G ∧ Ext w w' := by
  obtain ⟨h1, h2, h3⟩ := hP.parts
  refine (goal_any A D P a b c w hV hS h1 h2 h3 hf).mono ?_
  rintro e w' ⟨gv, G, n, c, he, ho, hg, hx⟩
  obtain ⟨a1, c1, a2, c2, a3, c3, a4, c4, rfl⟩ := hg.shape
  exact ⟨G, n, c, _, _, _, _, _, _, _, _, he, ho, hg, hx⟩
theorem backN (A : Heads) (D : Dic) (G : Gol) (gs : List Value) (w : World) (hV : DicV w (hv A) D) (hS : DicS D) (hG : GolAt w (.agg gs.toArray) G) (hf : G.Fits) :
    Calls Tryz.prog 21 #[.agg (dcells (hv A)).toArray, .agg gs.toArray] w fun e w' => ∃ P c q1 d1 q2 d2 q3 d3, e = .returned (.tuple #[.agg (patL (.slice q1 P.atoms.length d1) (.slice q2 P.ret.length d2) (.slice q3 P.hint.length d3) P).toArray, .int .i64 c]) ∧
      BackR D G P c ∧ PatOwn w.heap.size w' (patV (.slice q1 P.atoms.length d1) (.slice q2 P.ret.length d2) (.slice q3 P.hint.length d3) P) P ∧ Ext w w' := by
  refine (back_any A D G _ w hV hS hG hf).mono ?_
  rintro e w' ⟨pv, P, c, he, ho, hg, hx⟩
  obtain ⟨a1, c1, a2, c2, a3, c3, rfl⟩ := hg.shape
  exact ⟨P, c, _, _, _, _, _, _, he, ho, hg, hx⟩
theorem checkN (A : Heads) (D : Dic) (G : Gol) (gs : List Value) (w : World) (hV : DicV w (hv A) D) (hS : DicS D) (hG : GolAt w (.agg gs.toArray) G) (hf : G.Fits) :
    Calls Tryz.prog 20 #[.agg (dcells (hv A)).toArray, .agg gs.toArray] w (CkGQ w D G) := checkG_any A D G _ w hV hS hG hf
theorem termS_from {T : List ByteArray} {t : Bool × ByteArray} {s : ByteArray} (h : s ∈ termS T t) : s ∈ T ∨ s = t.2 := by
  unfold termS at h
  split at h
  · exact .inl h
  · rcases List.mem_append.1 h with h | h
    · exact .inl h
    · exact .inr (List.mem_singleton.1 h)
theorem varsS_of {s : ByteArray} (l : List Atm) (T : List ByteArray) (h : s ∈ l.foldl (fun T a => termS (termS T (a.fk, a.fn)) (a.tk, a.tn)) T) : s ∈ T ∨ ∃ a ∈ l, s = a.fn ∨ s = a.tn := by
  induction l generalizing T with
  | nil => exact .inl h
  | cons a l ih =>
    rcases ih _ h with h | ⟨b, hb, h⟩
    · rcases termS_from h with h | h
      · rcases termS_from h with h | h
        · exact .inl h
        · exact .inr ⟨a, List.mem_cons_self .., .inl h⟩
      · exact .inr ⟨a, List.mem_cons_self .., .inr h⟩
    · exact .inr ⟨b, List.mem_cons_of_mem _ hb, h⟩
theorem golOf_fits {D : Dic} {P : Pat} {G : Gol} (hok : P.okB = true) (hf : P.Fits) (hg : goalF D P = some G) : G.Fits ∧ G.atoms.length = P.atoms.length ∧ P.atoms.length ≤ 40 := by
  obtain ⟨hb, rfl⟩ := goalF_some hg
  obtain ⟨⟨_, k1⟩, k2, k3, k4, _, _⟩ := okB_parts hok
  have hlen : (bndsF D (varsS P.atoms) P.atoms).1.length = P.atoms.length := by
    have := preF_len (bndF D (varsS P.atoms)) P.atoms
    unfold bndsF at hb ⊢
    exact this.2 hb
  have r1 := chosenB_len k3
  have r2 := chosenB_len k4
  refine ⟨⟨⟨?_, ?_, ?_, ?_⟩, fun s hs => ?_⟩, hlen, k1⟩
  · show (bndsF D (varsS P.atoms) P.atoms).1.length ≤ _
    omega
  · show (List.map _ (if P.ret = [] then varsS P.atoms else P.ret)).length ≤ _
    rw [List.length_map]
    split <;> omega
  · show (List.map _ P.hint).length ≤ _
    rw [List.length_map]; omega
  · show (varsS P.atoms).length ≤ _
    omega
  · rcases varsS_of P.atoms [] hs with h | ⟨a, ha, h⟩
    · cases h
    · have := hf.atoms a ha
      rcases h with rfl | rfl
      · exact this.fn
      · exact this.tn
theorem putN (A : Heads) (D : Dic) (kind : Int) (s : ByteArray) (w : World) (hV : DicV w (hv A) D) (hok : DicOK D) (hsz : ∀ i, i < 5 → (D i).2.length ≤ 4096) (hs : s.size ≤ 9223372036854775807) :
    Calls Tryz.prog 18 #[.agg (dcells (hv A)).toArray, .int .i64 kind, .string s] w fun e w' => ∃ (A' : Heads) (n c : Int), e = .returned (.tuple #[.agg (dcells (hv A')).toArray, .int .i64 n, .int .i64 c]) ∧ Ext w w' ∧
      (c ≠ 0 ∨ c = 0 ∧ ∃ D', DicOwn w.heap.size w' (hv A') D' ∧ Sup D D' ∧ DicOK D' ∧ ∀ i, i < 5 → (D' i).2.length ≤ 4096) := by
  refine (dPut_all (hv A) D kind s w hV (hok.sizes hsz) hs true ⟨fun _ => hok, fun _ => rfl⟩).mono ?_
  rintro e w' ⟨hx, h⟩
  rw [if_pos rfl] at h
  cases hp : putD D kind s with
  | error c =>
    rw [hp] at h
    refine ⟨fun _ => (none, 0, 0, none, 0, 0), 0, c, h, hx, .inl ?_⟩
    rcases putD_err hp with rfl | rfl <;> decide
  | ok r =>
    obtain ⟨D', n⟩ := r
    rw [hp] at h
    obtain ⟨us, he, ho⟩ := h
    obtain ⟨A', hA, hAe⟩ := ho.heads
    obtain ⟨k, m, h1⟩ := putD_is hok hsz hp
    exact ⟨A', n, 0, by rw [he, hAe]; rfl, hx, .inr ⟨rfl, D', hA, h1.sup, h1.ok, h1.sz⟩⟩
section
variable {P : Program} {Q : Exit → Act → World → Prop} {ops : Array Oper} {o : Oper} {a : Act} {w : World} {X : List Nat} {ks : Nat → Gro} {i : Nat} {r : List Nat}
/-- A row is loaded where it is wanted. -/
theorem groX_loadW (ho : ops[i]? = some o) (hk : ks i = .read) (hwt : Region.wanted o (yielded ops a.tmps) = true) (ty : TypeId) (x : Operand) (hop : o.op = .load ty x) (b off : Nat) (hx : a.eval x = .pointer (some ⟨b, off, none⟩)) (cs : List Value) (d : TypeDesc) (hc : w.rangeAt b off cs) (hb : b ∉ X)
    (hu : P.underlying ty = some d) (hd : d.isRow = true) (hi : (P.info? ty).map (·.size) = some cs.length)
    (h : GroX X P ops Q ks r (a.put o.dst (.agg cs.toArray)) w) : GroX X P ops Q ks (i :: r) a w := by
  refine groX_read ho hk fun K S hS hK => ?_
  rw [if_pos hwt]
  have hq : ∀ w', w'.rangeAt b off cs → o.quietAt P a (fun x => x = w') w' (.agg cs.toArray) := fun w' hc' => by
    unfold Oper.quietAt execOp
    simp only [hop, hx, Instr.loadAt, Instr.sureAddr, Sem.run_bind, Sem.run_pure, Result.andThen_ok, run_loadVar_mid w' b off ty cs d hc' hu hd hi]
    simp [Oper.quietUpon]
  exact ⟨_, hq w hc, hS _ (fun w' hg => hq w' (hg.range hc hb)), hK _ h⟩
end
theorem backP_fits {P : Pat} (h : P.Fits) : (backP P).Fits := ⟨h.atoms, h.few⟩
end Go.Proofs.YtkmbnghghbfkdaaGreat
