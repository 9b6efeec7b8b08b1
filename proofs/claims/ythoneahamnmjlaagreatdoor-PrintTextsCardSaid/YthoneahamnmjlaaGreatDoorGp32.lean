/- Patterns with other names. Plain. -/
import Derived.Test.YthoneahamnmjlaaGreatDoorGp29
import Derived.Test.YthoneahamnmjlaaGreatDoorGp31
import Derived.Test.YthoneahamnmjlaaGreatDoorGp26
import Derived.Test.YthoneahamnmjlaaGreatDoorGp00
namespace Go.Proofs.YthoneahamnmjlaaGreatDoor
set_option maxRecDepth 100000
set_option maxHeartbeats 2000000
set_option linter.unusedSimpArgs false
open Go.Lib
set_option linter.unusedVariables false

theorem termS_sub (T : List ByteArray) (t : Bool × ByteArray) : ∀ x ∈ T, x ∈ termS T t := by
  intro x hx; unfold termS; split
  · exact hx
  · exact List.mem_append_left _ hx
theorem termS_mem (T : List ByteArray) (n : ByteArray) (h : n ≠ nilB) : n ∈ termS T (false, n) := by
  unfold termS
  split
  · rename_i hc
    rcases hc with hc | hc | hc
    · cases hc
    · exact absurd hc h
    · exact hasB_iff.1 hc
  · simp
def stepS (T : List ByteArray) (a : Atm) : List ByteArray := termS (termS T (a.fk, a.fn)) (a.tk, a.tn)
theorem stepS_sub (T : List ByteArray) (a : Atm) : ∀ x ∈ T, x ∈ stepS T a := fun x hx => termS_sub _ _ x (termS_sub _ _ x hx)
theorem foldS_sub (l : List Atm) : ∀ T : List ByteArray, ∀ x ∈ T, x ∈ l.foldl stepS T := by
  induction l with
  | nil => intro T x hx; exact hx
  | cons a l ih => intro T x hx; exact ih _ x (stepS_sub T a x hx)
theorem varsS_fold (l : List Atm) : varsS l = l.foldl stepS [] := rfl
theorem mem_vars {l : List Atm} {a : Atm} (h : a ∈ l) : (a.fk = false → a.fn ≠ nilB → a.fn ∈ varsS l) ∧ (a.tk = false → a.tn ≠ nilB → a.tn ∈ varsS l) := by
  rw [varsS_fold]
  have key : ∀ (l : List Atm) (T : List ByteArray), a ∈ l → (a.fk = false → a.fn ≠ nilB → a.fn ∈ l.foldl stepS T) ∧ (a.tk = false → a.tn ≠ nilB → a.tn ∈ l.foldl stepS T) := by
    intro l
    induction l with
    | nil => intro T h; simp at h
    | cons b l ih =>
      intro T h
      rcases List.mem_cons.1 h with rfl | h
      · rw [List.foldl_cons]
        refine ⟨fun hk hn => foldS_sub l _ _ ?_, fun hk hn => foldS_sub l _ _ ?_⟩
        · unfold stepS; rw [hk]; exact termS_sub _ _ _ (termS_mem _ _ hn)
        · unfold stepS; rw [hk]; exact termS_mem _ _ hn
      · exact ih _ h
  exact key l [] h
theorem termS_nodup {T : List ByteArray} (h : T.Nodup) (t : Bool × ByteArray) : (termS T t).Nodup := by
  unfold termS
  split
  · exact h
  · rename_i hc
    rw [List.nodup_append]
    refine ⟨h, by simp, ?_⟩
    intro x hx y hy e
    rw [List.mem_singleton] at hy
    subst hy; subst e
    exact hc (.inr (.inr (hasB_iff.2 hx)))
theorem varsS_nodup (l : List Atm) : (varsS l).Nodup := by
  rw [varsS_fold]
  have key : ∀ (l : List Atm) (T : List ByteArray), T.Nodup → (l.foldl stepS T).Nodup := by
    intro l
    induction l with
    | nil => intro T h; exact h
    | cons a l ih => intro T h; exact ih _ (termS_nodup (termS_nodup h _) _)
  exact key l [] (by simp)
/-- Different names for different variables, none of them none. -/
structure Good_ (f : ByteArray → ByteArray) (S : List ByteArray) : Prop where
  inj : ∀ x ∈ S, ∀ y ∈ S, f x = f y → x = y
  ne : ∀ x ∈ S, f x ≠ nilB
theorem termS_turn {f : ByteArray → ByteArray} {S T : List ByteArray} (hf : Good_ f S) (k : Bool) (n : ByteArray) (h : ∀ x ∈ termS T (k, n), x ∈ S) : termS (T.map f) (k, turnT f k n) = (termS T (k, n)).map f := by
  by_cases hk : k = true
  · subst hk
    unfold termS turnT
    rw [if_pos (.inl rfl), if_pos (.inl rfl)]
  · have hk : k = false := by simpa using hk
    subst hk
    by_cases hn : n = nilB
    · subst hn
      unfold turnT
      rw [if_neg (fun h => h.2 rfl)]
      unfold termS
      rw [if_pos (.inr (.inl rfl)), if_pos (.inr (.inl rfl))]
    · have hS := h n (termS_mem T n hn)
      have hT : ∀ x ∈ T, x ∈ S := fun x hx => h x (termS_sub _ _ x hx)
      have ht : turnT f false n = f n := by unfold turnT; rw [if_pos ⟨rfl, hn⟩]
      rw [ht]
      have hm : hasB (f n) (T.map f) = hasB n T := by
        rw [Bool.eq_iff_iff, hasB_iff, hasB_iff]
        constructor
        · intro h
          obtain ⟨y, hy, e⟩ := List.mem_map.1 h
          exact hf.inj y (hT y hy) n hS e ▸ hy
        · intro h; exact List.mem_map.2 ⟨n, h, rfl⟩
      unfold termS
      show (if false = true ∨ f n = nilB ∨ hasB (f n) (T.map f) = true then T.map f else T.map f ++ [f n]) = (if false = true ∨ n = nilB ∨ hasB n T = true then T else T ++ [n]).map f
      rw [hm]
      by_cases hb : hasB n T = true
      · rw [if_pos (.inr (.inr hb)), if_pos (.inr (.inr hb))]
      · have h1 : ¬ (false = true ∨ f n = nilB ∨ hasB n T = true) := by
          rintro (h | h | h)
          · cases h
          · exact hf.ne n hS h
          · exact hb h
        have h2 : ¬ (false = true ∨ n = nilB ∨ hasB n T = true) := by
          rintro (h | h | h)
          · cases h
          · exact hn h
          · exact hb h
        rw [if_neg h1, if_neg h2]
        simp
theorem foldS_turn {f : ByteArray → ByteArray} {S : List ByteArray} (hf : Good_ f S) (l : List Atm) : ∀ T : List ByteArray, (∀ x ∈ l.foldl stepS T, x ∈ S) → (l.map (turnA f)).foldl stepS (T.map f) = (l.foldl stepS T).map f := by
  induction l with
  | nil => intro T _; rfl
  | cons a l ih =>
    intro T h
    rw [List.map_cons, List.foldl_cons, List.foldl_cons]
    have h2 : ∀ x ∈ stepS T a, x ∈ S := fun x hx => h x (foldS_sub l _ x hx)
    have e : stepS (T.map f) (turnA f a) = (stepS T a).map f := by
      unfold stepS turnA
      dsimp only
      rw [termS_turn hf a.fk a.fn (fun x hx => h2 x (termS_sub _ _ x hx)), termS_turn hf a.tk a.tn h2]
    rw [e]
    exact ih _ h
theorem varsS_turn {f : ByteArray → ByteArray} {l : List Atm} (hf : Good_ f (varsS l)) : varsS (l.map (turnA f)) = (varsS l).map f := by
  have := foldS_turn hf l [] (fun x hx => hx)
  rwa [List.map_nil] at this

theorem nameAt_cons (x : ByteArray) (xs : List ByteArray) (n : ByteArray) (ns : List ByteArray) (s : ByteArray) : nameAt (x :: xs) (n :: ns) s = if x = s then n else nameAt xs ns s := rfl
theorem nameAt_mem : ∀ (vars names : List ByteArray), names.length = vars.length → ∀ x ∈ vars, nameAt vars names x ∈ names
  | [], _, _, x, h => by simp at h
  | y :: ys, [], h, _, _ => by simp at h
  | y :: ys, n :: ns, h, x, hx => by
    rw [nameAt_cons]
    split
    · simp
    · rename_i hne
      rcases List.mem_cons.1 hx with rfl | hx
      · exact absurd rfl hne
      · exact List.mem_cons_of_mem _ (nameAt_mem ys ns (by simpa using h) x hx)
theorem nameAt_map : ∀ (vars names : List ByteArray), vars.Nodup → names.length = vars.length → vars.map (nameAt vars names) = names
  | [], [], _, _ => rfl
  | [], _ :: _, _, h => by simp at h
  | _ :: _, [], _, h => by simp at h
  | y :: ys, n :: ns, hn, hl => by
    have hn' := List.nodup_cons.1 hn
    rw [List.map_cons, nameAt_cons, if_pos rfl]
    congr 1
    have ih := nameAt_map ys ns hn'.2 (by simpa using hl)
    refine Eq.trans (List.map_congr_left fun z hz => ?_) ih
    have hne : y ≠ z := fun e => by subst e; exact hn'.1 hz
    rw [nameAt_cons, if_neg hne]
theorem nameAt_inj : ∀ (vars names : List ByteArray), names.Nodup → names.length = vars.length → ∀ x ∈ vars, ∀ y ∈ vars, nameAt vars names x = nameAt vars names y → x = y
  | [], _, _, _, x, h, _, _, _ => by simp at h
  | _ :: _, [], _, h, _, _, _, _, _ => by simp at h
  | z :: zs, n :: ns, hn, hl, x, hx, y, hy, e => by
    have hn' := List.nodup_cons.1 hn
    have hl' : ns.length = zs.length := by simpa using hl
    rw [nameAt_cons, nameAt_cons] at e
    by_cases h1 : z = x
    · by_cases h2 : z = y
      · rw [← h1, ← h2]
      · rw [if_pos h1, if_neg h2] at e
        have hy' : y ∈ zs := by
          rcases List.mem_cons.1 hy with h | h
          · exact absurd h.symm h2
          · exact h
        exact absurd (e ▸ nameAt_mem zs ns hl' y hy') hn'.1
    · have hx' : x ∈ zs := by
        rcases List.mem_cons.1 hx with h | h
        · exact absurd h.symm h1
        · exact h
      by_cases h2 : z = y
      · rw [if_neg h1, if_pos h2] at e
        exact absurd (e ▸ nameAt_mem zs ns hl' x hx') hn'.1
      · have hy' : y ∈ zs := by
          rcases List.mem_cons.1 hy with h | h
          · exact absurd h.symm h2
          · exact h
        rw [if_neg h1, if_neg h2] at e
        exact nameAt_inj zs ns hn'.2 hl' x hx' y hy' e
theorem nameAt_comp : ∀ (vars names pl : List ByteArray), names.Nodup → names.length = vars.length → pl.length = vars.length → ∀ x ∈ vars, nameAt names pl (nameAt vars names x) = nameAt vars pl x
  | [], _, _, _, _, _, x, h => by simp at h
  | _ :: _, [], _, _, h, _, _, _ => by simp at h
  | _ :: _, _ :: _, [], _, _, h, _, _ => by simp at h
  | y :: ys, n :: ns, q :: qs, hn, hl, hp, x, hx => by
    have hn' := List.nodup_cons.1 hn
    have hl' : ns.length = ys.length := by simpa using hl
    by_cases h1 : y = x
    · have a1 : nameAt (y :: ys) (n :: ns) x = n := by rw [nameAt_cons, if_pos h1]
      have a2 : nameAt (y :: ys) (q :: qs) x = q := by rw [nameAt_cons, if_pos h1]
      rw [a1, a2, nameAt_cons, if_pos rfl]
    · have hx' : x ∈ ys := by
        rcases List.mem_cons.1 hx with h | h
        · exact absurd h.symm h1
        · exact h
      have a1 : nameAt (y :: ys) (n :: ns) x = nameAt ys ns x := by rw [nameAt_cons, if_neg h1]
      have a2 : nameAt (y :: ys) (q :: qs) x = nameAt ys qs x := by rw [nameAt_cons, if_neg h1]
      have a3 : n ≠ nameAt ys ns x := fun e => hn'.1 (e ▸ nameAt_mem ys ns hl' x hx')
      rw [a1, a2, nameAt_cons, if_neg a3]
      exact nameAt_comp ys ns qs hn'.2 hl' (by simpa using hp) x hx'
/-- Names that may stand for variables. -/
structure NamesR (vars names : List ByteArray) : Prop where
  word : ∀ s ∈ names, wordB s = true
  nodup : names.Nodup
  len : names.length = vars.length
theorem namesB_iff {vars names : List ByteArray} : namesB vars.length names = true ↔ NamesR vars names := by
  unfold namesB
  rw [Bool.and_eq_true, Bool.and_eq_true, decide_eq_true_eq, decide_eq_true_eq, List.all_eq_true]
  exact ⟨fun ⟨a, b, c⟩ => ⟨a, b, c⟩, fun ⟨a, b, c⟩ => ⟨a, b, c⟩⟩
theorem NamesR.good {vars names : List ByteArray} (h : NamesR vars names) : Good_ (nameAt vars names) vars :=
  ⟨nameAt_inj vars names h.nodup h.len, fun x hx => word_nil (h.word _ (nameAt_mem vars names h.len x hx))⟩
theorem turnT_congr {f g : ByteArray → ByteArray} {k : Bool} {n : ByteArray} (h : k = false → n ≠ nilB → f n = g n) : turnT f k n = turnT g k n := by
  unfold turnT
  split
  · rename_i hc; exact h hc.1 hc.2
  · rfl
theorem turnP_congr {f g : ByteArray → ByteArray} {P : Pat} (hP : P.okB = true) (h : ∀ x ∈ varsS P.atoms, f x = g x) : turnP f P = turnP g P := by
  obtain ⟨_, _, _, _, h5, h6, _⟩ := okB_facts hP
  unfold turnP
  have h1 : P.atoms.map (turnA f) = P.atoms.map (turnA g) := List.map_congr_left fun a ha => by
    unfold turnA
    rw [turnT_congr (fun hk hn => h _ ((mem_vars ha).1 hk hn)), turnT_congr (fun hk hn => h _ ((mem_vars ha).2 hk hn))]
  have h2 : P.ret.map f = P.ret.map g := List.map_congr_left fun s hs => h s (((chosenB_iff _ _).1 h5).1 s hs)
  have h3 : P.hint.map f = P.hint.map g := List.map_congr_left fun s hs => h s (((chosenB_iff _ _).1 h6).1 s hs)
  rw [h1, h2, h3]
theorem turnP_comp {f g : ByteArray → ByteArray} {P : Pat} (hf : ∀ x ∈ varsS P.atoms, f x ≠ nilB) : turnP g (turnP f P) = turnP (g ∘ f) P := by
  unfold turnP
  simp only [List.map_map]
  have : P.atoms.map (turnA g ∘ turnA f) = P.atoms.map (turnA (g ∘ f)) := List.map_congr_left fun a ha => by
    have key : ∀ (k : Bool) (n : ByteArray), (k = false → n ≠ nilB → n ∈ varsS P.atoms) → turnT g k (turnT f k n) = turnT (g ∘ f) k n := by
      intro k n hm
      unfold turnT
      by_cases hc : k = false ∧ n ≠ nilB
      · rw [if_pos hc, if_pos ⟨hc.1, hf _ (hm hc.1 hc.2)⟩, if_pos hc]; rfl
      · rw [if_neg hc, if_neg hc, if_neg hc]
    unfold turnA
    simp only [Function.comp]
    rw [key _ _ (mem_vars ha).1, key _ _ (mem_vars ha).2]
  rw [this]
theorem edges_turn (f : ByteArray → ByteArray) (l : List Atm) : edgesOf (l.map (turnA f)) = edgesOf l := by
  unfold edgesOf
  rw [List.filter_map, List.length_map]
  rfl
theorem ren_vars {P : Pat} {names : List ByteArray} (h : NamesR (varsS P.atoms) names) : varsS (renP P names).atoms = names := by
  show varsS (P.atoms.map _) = _
  rw [varsS_turn h.good, nameAt_map _ _ (varsS_nodup _) h.len]
theorem nodup_map {f : ByteArray → ByteArray} : ∀ {l : List ByteArray}, l.Nodup → (∀ x ∈ l, ∀ y ∈ l, f x = f y → x = y) → (l.map f).Nodup
  | [], _, _ => by simp
  | x :: l, h, hi => by
    have h' := List.nodup_cons.1 h
    rw [List.map_cons, List.nodup_cons]
    refine ⟨fun hm => ?_, nodup_map h'.2 (fun a ha b hb => hi a (List.mem_cons_of_mem _ ha) b (List.mem_cons_of_mem _ hb))⟩
    obtain ⟨y, hy, e⟩ := List.mem_map.1 hm
    exact h'.1 (hi y (List.mem_cons_of_mem _ hy) x (by simp) e ▸ hy)
theorem ren_chosen {vars names l : List ByteArray} (h : NamesR vars names) (hc : chosenB vars l = true) : chosenB names (l.map (nameAt vars names)) = true := by
  obtain ⟨h1, h2⟩ := (chosenB_iff _ _).1 hc
  refine (chosenB_iff _ _).2 ⟨fun s hs => ?_, nodup_map h2 (fun x hx y hy e => h.good.inj x (h1 x hx) y (h1 y hy) e)⟩
  obtain ⟨y, hy, rfl⟩ := List.mem_map.1 hs
  exact nameAt_mem _ _ h.len y (h1 y hy)
theorem ren_atom {P : Pat} {names : List ByteArray} (h : NamesR (varsS P.atoms) names) {a : Atm} (ha : a ∈ P.atoms) (hb : atomB a = true) : atomB (turnA (nameAt (varsS P.atoms) names) a) = true := by
  have hw : ∀ (k : Bool) (n : ByteArray), (k = false → n ≠ nilB → n ∈ varsS P.atoms) → wordB n = true → wordB (turnT (nameAt (varsS P.atoms) names) k n) = true := by
    intro k n hm hn
    unfold turnT
    split
    · rename_i hc; exact h.word _ (nameAt_mem _ _ h.len n (hm hc.1 hc.2))
    · exact hn
  have hz : turnT (nameAt (varsS P.atoms) names) false nilB = nilB := by unfold turnT; rw [if_neg (fun h => h.2 rfl)]
  obtain ⟨hf, hc⟩ := atom_facts hb
  have hf' := hw _ _ (mem_vars ha).1 hf
  obtain ⟨kind, fk, fn, name, value, tk, tn⟩ := a
  have m2 := (mem_vars ha).2
  dsimp only at *
  unfold turnA atomB
  dsimp only
  rcases hc with ⟨rfl, rfl, rfl, rfl, rfl⟩ | ⟨rfl, rfl, rfl, rfl, hw1⟩ | ⟨rfl, rfl, rfl, hw1, hv⟩ | ⟨rfl, rfl, hw1, hw2⟩
  · rw [hz, hf']; rfl
  · rw [hz, hf', hw1]; rfl
  · rw [hz, hf', hw1, hv]; rfl
  · rw [hf', hw1, hw _ _ m2 hw2]; rfl
theorem ren_okB {P : Pat} (hP : P.okB = true) {names : List ByteArray} (h : NamesR (varsS P.atoms) names) : (renP P names).okB = true := by
  obtain ⟨h1, h2, h3, h4, h5, h6, h7, h8, h9, h10⟩ := okB_facts hP
  have hv := ren_vars h
  have hr := ren_chosen h h5
  have hh := ren_chosen h h6
  have ha : (P.atoms.map (turnA (nameAt (varsS P.atoms) names))).all atomB = true := by
    rw [List.all_eq_true]
    intro x hx
    obtain ⟨a, ha, rfl⟩ := List.mem_map.1 hx
    exact ren_atom h ha (List.all_eq_true.1 h10 a ha)
  have hl := h.len
  unfold Pat.okB sizesP namedP
  rw [hv]
  unfold renP turnP
  dsimp only
  rw [hr, hh, h8, h9, ha, List.length_map, List.length_map, edges_turn]
  simp only [Bool.and_eq_true, Bool.or_eq_true, decide_eq_true_eq]
  refine ⟨⟨h1, h2, h3, by omega⟩, ⟨trivial, trivial, ?_⟩, trivial, trivial, trivial⟩
  rcases h7 with h7 | h7
  · exact .inl h7
  · exact .inr (by omega)
theorem ren_ren {P : Pat} (hP : P.okB = true) {names pl : List ByteArray} (h : NamesR (varsS P.atoms) names) (hl : pl.length = (varsS P.atoms).length) : renP (renP P names) pl = renP P pl := by
  unfold renP
  rw [show varsS (turnP (nameAt (varsS P.atoms) names) P).atoms = names from ren_vars h, turnP_comp (h.good.ne)]
  exact turnP_congr hP (fun x hx => nameAt_comp _ _ _ h.nodup h.len hl x hx)
theorem decDigits_inj {a b : Nat} (ha : a < 2147483648) (hb : b < 2147483648) (h : decDigits a = decDigits b) : a = b := by
  have h1 := numL_dec a ha []
  have h2 := numL_dec b hb []
  rw [h] at h1
  rw [h1] at h2
  have h3 : (some (a : Int)) = some (b : Int) := h2
  have := Option.some.inj h3
  omega
theorem word_plain (i : Nat) (h : i < 2147483648) : wordB (txt (118 :: decDigits i)) = true := by
  rw [← wordB_all, bts_txt]
  have hs : spanL letterC (118 :: decDigits i) = (118 :: decDigits i).length := by
    have := spanL_append letterC (118 :: decDigits i) [] (fun c hc => by
      rcases List.mem_cons.1 hc with rfl | hc
      · decide
      · have := dec_digit _ c hc
        unfold letterC
        exact decide_eq_true (by omega))
    rw [List.append_nil] at this
    rw [this]; rfl
  have hl := nDigits_le20 i (by omega)
  rw [← decDigits_length] at hl
  exact allB_iff.2 ⟨hs, by simp, by simp; omega⟩
theorem plain_names {vars : List ByteArray} (h : vars.length ≤ 32) : NamesR vars (plainN vars.length) := by
  refine ⟨?_, ?_, plainN_len _⟩
  · intro s hs
    obtain ⟨i, hi, rfl⟩ := List.mem_map.1 hs
    exact word_plain i (by have := List.mem_range.1 hi; omega)
  · unfold plainN
    have key : ∀ (l : List Nat), l.Nodup → (∀ i ∈ l, i < 2147483648) → (l.map fun i => txt (118 :: decDigits i)).Nodup := by
      intro l
      induction l with
      | nil => intro _ _; simp
      | cons a l ih =>
        intro hn hl
        have hn' := List.nodup_cons.1 hn
        rw [List.map_cons, List.nodup_cons]
        refine ⟨fun hm => ?_, ih hn'.2 (fun i hi => hl i (List.mem_cons_of_mem _ hi))⟩
        obtain ⟨b, hb, e⟩ := List.mem_map.1 hm
        have e2 := txt_inj e
        simp only [List.cons.injEq, true_and] at e2
        have := decDigits_inj (hl b (List.mem_cons_of_mem _ hb)) (hl a (by simp)) e2
        exact hn'.1 (this ▸ hb)
    exact key _ List.nodup_range (fun i hi => by have := List.mem_range.1 hi; omega)
theorem plain_okB {P : Pat} (hP : P.okB = true) : (plainP P).okB = true := ren_okB hP (plain_names (okB_facts hP).2.2.2.1)
theorem plain_ren {P : Pat} (hP : P.okB = true) {names : List ByteArray} (h : NamesR (varsS P.atoms) names) : plainP (renP P names) = plainP P := by
  unfold plainP
  rw [ren_vars h, h.len]
  exact ren_ren hP h (plainN_len _)
theorem plain_plain {P : Pat} (hP : P.okB = true) : plainP (plainP P) = plainP P := plain_ren hP (plain_names (okB_facts hP).2.2.2.1)
end Go.Proofs.YthoneahamnmjlaaGreatDoor

/- A pattern's plain one: the walk. -/
namespace Go.Proofs.YthoneahamnmjlaaGreatDoor
set_option maxRecDepth 100000
set_option maxHeartbeats 2000000
set_option linter.unusedSimpArgs false
open Go.RowKit Go.Shelf Go.Sort
attribute [local go_sem] Oper.semAt_some wide_fn wide_depth
set_option linter.unusedVariables false

theorem wpList_built {P : Program} {Q : Exit → Act → World → Prop} {ops : Array Oper} {rest : List Oper} {o : Oper} {a : Act} {w : World} (hg : o.guard = none) (t : TypeId) (parts : Array (Nat × Operand)) (ho : o.op = .build t parts) (cs : Array Value)
    (hf : P.built t (parts.map fun (i, x) => (i, a.eval x)).toList = some cs)
    (h : wpList P ops Q rest (a.put o.dst (.agg cs)) w) : wpList P ops Q (o :: rest) a w :=
  wpList_build hg t parts ho (by rw [hf]; rfl) (by rw [hf]; exact h)
theorem noPat_in (B : Nat) (w : World) : PatIn B w pnoV noPat := ⟨_, _, _, rfl, World.ownsRow_nil _ _ _ _, World.ownsRow_nil _ _ _ _, World.ownsRow_nil _ _ _ _⟩
theorem okB_few4 {P : Pat} (h : P.okB = true) : P.atoms.length ≤ 100000 ∧ P.ret.length ≤ 100000 ∧ P.hint.length ≤ 100000 ∧ (varsS P.atoms).length ≤ 32 := by
  obtain ⟨h1, h2, h3, h4, h5, h6, _⟩ := okB_facts h
  have := chosenB_len h5
  have := chosenB_len h6
  omega
/-- What stands while a map of names is filled. -/
structure NamI (w : World) (y0 y1 M : Nat) (px : List Value) (kv : List (Value × Value)) (u : Value) (V : List ByteArray) (W : World) : Prop where
  ext : Ext w W
  row : RowAt W y0 25 px
  res : RowAt W y1 25 [.slice none 0 0, .slice none 0 0, .bool false, .bool false, .bool false, .int .i64 0, .int .i64 0, .slice none 0 0]
  map : MapAt .string W M kv
  lo : w.heap.size ≤ M
  vars : Strs W u V
theorem NamI.more {w : World} {y0 y1 M : Nat} {px : List Value} {kv : List (Value × Value)} {u : Value} {V : List ByteArray} {W W' : World} (h : NamI w y0 y1 M px kv u V W) (hx : Ext W W') : NamI w y0 y1 M px kv u V W' :=
  ⟨h.ext.trans hx, h.row.ext hx, h.res.ext hx, h.map.ext hx, h.lo, Strs.ext h.vars hx⟩
theorem NamI.put {w : World} {y0 y1 M : Nat} {px : List Value} {kv kv' : List (Value × Value)} {u : Value} {V : List ByteArray} {W W' : World} (h : NamI w y0 y1 M px kv u V W) (hm : MapAt .string W' M kv') (hg : W.grownBy W' (some M)) : NamI w y0 y1 M px kv' u V W' := by
  obtain ⟨es, c, hb, _⟩ := h.map
  have hne : ∀ {y : Nat} {t : TypeId} {xs : List Value}, RowAt W y t xs → (some M : Option Nat) ≠ some y := fun hr e => by
    cases e
    rw [show W.heap[M]? = _ from hr] at hb; cases hb
  refine ⟨h.ext.grown hg h.ext.size (fun r hr => by cases hr; exact h.lo), h.row.kept hg (hne h.row), h.res.kept hg (hne h.res), hm, h.lo, ?_⟩
  exact Stab.sl 0 _ _ _ W W' (some M) h.vars hg (fun r hr => by cases hr; exact ⟨Nat.zero_le _, _, hb, rfl⟩)
theorem kvN_len (V N : List ByteArray) (h : N.length = V.length) : (kvN V N).length = V.length := by simp [kvN, h]
theorem kvN_take {V N : List ByteArray} (h : N.length = V.length) {k : Nat} (hk : k < V.length) : (kvN V N).take (k + 1) = (kvN V N).take k ++ [(Value.string V[k], Value.agg #[Value.string (N[k]'(by omega))])] := by
  rw [List.take_succ_eq_append_getElem (by rw [kvN_len V N h]; exact hk)]
  congr 1
  simp [kvN]
theorem kvN_new {V N : List ByteArray} (hn : V.Nodup) {k : Nat} (hk : k < V.length) : ∀ p ∈ (kvN V N).take k, p.1 ≠ .string V[k] := by
  intro p hp e
  unfold kvN at hp
  rw [← List.map_take] at hp
  obtain ⟨x, hx, rfl⟩ := List.mem_map.1 hp
  have e' : x.1 = V[k] := by simpa using e
  rw [List.zip, List.take_zipWith] at hx
  have hm := (List.of_mem_zip (show (x.1, x.2) ∈ List.zip (V.take k) (N.take k) from hx)).1
  rw [e'] at hm
  obtain ⟨j, hj, he⟩ := List.getElem_of_mem hm
  rw [List.length_take] at hj
  rw [List.getElem_take] at he
  have := (List.getElem_inj hn).1 he
  omega
set_option maxRecDepth 100000 in
set_option maxHeartbeats 2000000 in
theorem Plain_any (v : Value) (P : Pat) (w : World) (h : PatAt w v P) (hf : P.Fits) (hW : Pows w) :
    Calls Tryz.prog 10 #[v] w fun e w' => ∃ u, e = .returned (.tuple #[u, .int .i64 (plainE P).2]) ∧ PatIn w.heap.size w' u (plainE P).1 ∧ Ext w w' := by
  have hck := fun w' (hx : Ext w w') => checkP_any v P w' (h.ext hx) hf
  have hvs := fun w' (hx : Ext w w') => varsP_any v P w' (h.ext hx) hf
  have htn := fun (w' : World) (M : Nat) (hx : Ext w w') (hm : MapAt .string w' M (kvN (varsS P.atoms) (plainN (varsS P.atoms).length))) (hl : P.atoms.length ≤ 100000 ∧ P.ret.length ≤ 100000 ∧ P.hint.length ≤ 100000) => turned_any v P (varsS P.atoms) (plainN (varsS P.atoms).length) M w' (h.ext hx) hm (plainN_len _) hl.1 hl.2.1 hl.2.2
  obtain ⟨av, rv, hv, rfl, ha, hr, hh⟩ := h
  have HW := Lib.hid hW
  clear ha hr hh hW
  cases hk : P.okB with
  | false =>
    have hF : plainE P = (noPat, 261) := by unfold plainE; rw [if_neg (by rw [hk]; decide)]
    unfold checkE at hck
    rw [if_neg (by rw [hk]; decide)] at hck
    have HC := Lib.hid hck
    rw [hF]
    unfold patV patL at *
    clear hk hck hF hvs htn
    -- a function with two boxes at its head: colander/print.Plain its name, [av, rv, .bool P.count, .bool P.distinct, .bool P.limited, .int .i64 P.limit, .int .i64 P.offset, hv] [.slice none 0 0, .slice none 0 0, .bool false, .bool false, .bool false, .int .i64 0, .int .i64 0, .slice none 0 0] their cells (lists), api.Pattern api.Pattern their types' names
    have hbx := boxes2 w ([av, rv, .bool P.count, .bool P.distinct, .bool P.limited, .int .i64 P.limit, .int .i64 P.offset, hv]) 25 ([.slice none 0 0, .slice none 0 0, .bool false, .bool false, .bool false, .int .i64 0, .int .i64 0, .slice none 0 0]) 25
    have HBX := Lib.hid hbx
    clear hbx
    go_enter Tryz.func10, Tryz.ntmps10
    go_upto_region 1 with fail
    generalize (w.alloc (.cells ([av, rv, .bool P.count, .bool P.distinct, .bool P.limited, .int .i64 P.limit, .int .i64 P.offset, hv]).toArray 25)).alloc (.cells ([.slice none 0 0, .slice none 0 0, .bool false, .bool false, .bool false, .int .i64 0, .int .i64 0, .slice none 0 0]).toArray 25) = w1 at *
    obtain ⟨y0, hy0⟩ : ∃ x, w.heap.size = x := ⟨_, rfl⟩
    obtain ⟨y1, hy1⟩ : ∃ x, y0 + 1 = x := ⟨_, rfl⟩
    rw [hy0, hy1] at HBX
    simp only [hy0, hy1]
    have HN := Lib.hid (show w.heap.size = y0 ∧ y0 + 1 = y1 from ⟨hy0, hy1⟩)
    have HX := Lib.hid HBX.out.1
    have H0 := Lib.hid HBX.out.2.1
    have H1 := Lib.hid HBX.out.2.2
    clear hy0 hy1 HBX
    obtain ⟨d0, d1, d2, d3, d4, d5, d6, d7⟩ := row8_facts H0.out
    go_wp2_with fail
    refine (HC.out _ HX.out).mono ?_
    rintro e w2 ⟨rfl, hx2⟩
    have HX2 := Lib.hid (HX.out.trans hx2)
    have K1 := Lib.hid (H1.out.ext hx2)
    clear d0 d1 d2 d3 d4 d5 d6 d7 hx2 HX H0 H1 HC
    go_upto_region 3 with fail
    apply wp_region_lit
    refine wpList_built rfl _ _ rfl #[.slice none 0 0, .slice none 0 0, .bool false, .bool false, .bool false, .int .i64 0, .int .i64 0, .slice none 0 0] (by kernel_rfl) ?_
    refine wpList_plain rfl fun K1 hK1 => ?_
    go_simp
    refine hK1 _ _ ?_
    clear hK1 K1
    -- as STEND2, with one more result in a slot
    refine plain_store rfl _ _ _ rfl y1 ([.slice none 0 0, .slice none 0 0, .bool false, .bool false, .bool false, .int .i64 0, .int .i64 0, .slice none 0 0]) rfl rfl (K1.out) (by kernel_rfl) rfl ((by simp [Value.oneCell'])) ?_
    have HRR := Lib.hid ((K1.out).setRow ([.slice none 0 0, .slice none 0 0, .bool false, .bool false, .bool false, .int .i64 0, .int .i64 0, .slice none 0 0]))
    have HXX := Lib.hid (show Ext w ((w2).setRow y1 ([.slice none 0 0, .slice none 0 0, .bool false, .bool false, .bool false, .int .i64 0, .int .i64 0, .slice none 0 0]).toArray) from below_setRow (HX2.out) ((by have := HN.out; omega)) _)
    go_simp
    generalize (w2).setRow y1 ([.slice none 0 0, .slice none 0 0, .bool false, .bool false, .bool false, .int .i64 0, .int .i64 0, .slice none 0 0]).toArray = wend at *
    refine wpList_plain rfl fun K1 hK1 => ?_
    go_simp
    refine hK1 _ _ ?_
    clear hK1 K1
    apply wpList_nil
    go_wp2_with fail
    exact bodyPost_ret (results_row1 rfl rfl HRR.out Tryz.underlying25 rfl (by kernel_rfl)) rfl (⟨_, rfl, noPat_in _ _, HXX.out⟩)
  | true =>
    have hF : plainE P = (plainP P, 0) := by unfold plainE; rw [if_pos hk]
    unfold checkE at hck
    rw [if_pos hk] at hck
    have hve : varsE P = varsS P.atoms := by unfold varsE; rw [if_pos hk]
    rw [hve] at hvs
    obtain ⟨l1, l2, l3, l4⟩ := okB_few4 hk
    have HC := Lib.hid hck
    have HVS := Lib.hid hvs
    have HTN := Lib.hid (fun w' M hx hm => htn w' M hx hm ⟨l1, l2, l3⟩)
    have HND := Lib.hid (varsS_nodup P.atoms)
    rw [hF]
    have hpl : plainP P = turnP (nameAt (varsS P.atoms) (plainN (varsS P.atoms).length)) P := rfl
    rw [hpl]
    dsimp only at HTN ⊢
    generalize turnP (nameAt (varsS P.atoms) (plainN (varsS P.atoms).length)) P = Q at *
    generalize varsS P.atoms = V at *
    unfold patV patL at *
    clear hk hck hF hvs htn hve hpl l1 l2 l3
    -- a function with two boxes at its head: colander/print.Plain its name, [av, rv, .bool P.count, .bool P.distinct, .bool P.limited, .int .i64 P.limit, .int .i64 P.offset, hv] [.slice none 0 0, .slice none 0 0, .bool false, .bool false, .bool false, .int .i64 0, .int .i64 0, .slice none 0 0] their cells (lists), api.Pattern api.Pattern their types' names
    have hbx := boxes2 w ([av, rv, .bool P.count, .bool P.distinct, .bool P.limited, .int .i64 P.limit, .int .i64 P.offset, hv]) 25 ([.slice none 0 0, .slice none 0 0, .bool false, .bool false, .bool false, .int .i64 0, .int .i64 0, .slice none 0 0]) 25
    have HBX := Lib.hid hbx
    clear hbx
    go_enter Tryz.func10, Tryz.ntmps10
    go_upto_region 1 with fail
    generalize (w.alloc (.cells ([av, rv, .bool P.count, .bool P.distinct, .bool P.limited, .int .i64 P.limit, .int .i64 P.offset, hv]).toArray 25)).alloc (.cells ([.slice none 0 0, .slice none 0 0, .bool false, .bool false, .bool false, .int .i64 0, .int .i64 0, .slice none 0 0]).toArray 25) = w1 at *
    obtain ⟨y0, hy0⟩ : ∃ x, w.heap.size = x := ⟨_, rfl⟩
    obtain ⟨y1, hy1⟩ : ∃ x, y0 + 1 = x := ⟨_, rfl⟩
    rw [hy0, hy1] at HBX
    simp only [hy0, hy1]
    have HN := Lib.hid (show w.heap.size = y0 ∧ y0 + 1 = y1 from ⟨hy0, hy1⟩)
    have HX := Lib.hid HBX.out.1
    have H0 := Lib.hid HBX.out.2.1
    have H1 := Lib.hid HBX.out.2.2
    clear hy0 hy1 HBX
    obtain ⟨d0, d1, d2, d3, d4, d5, d6, d7⟩ := row8_facts H0.out
    go_wp2_with fail
    refine (HC.out _ HX.out).mono ?_
    rintro e w2 ⟨rfl, hx2⟩
    have HX2 := Lib.hid (HX.out.trans hx2)
    have K0 := Lib.hid (H0.out.ext hx2)
    have K1 := Lib.hid (H1.out.ext hx2)
    clear d0 d1 d2 d3 d4 d5 d6 d7 hx2 HX H0 H1 HC
    have hmm := @run_makeMap Tryz.prog
    go_upto_region 5 with fail
    clear hmm
    have hxa := Ext.alloc w2 (.map #[] 0)
    have HM0 := Lib.hid (MapAt.new .string w2)
    have HX3 := Lib.hid (HX2.out.trans hxa)
    have J0 := Lib.hid (K0.out.ext hxa)
    have J1 := Lib.hid (K1.out.ext hxa)
    have HLO := Lib.hid HX2.out.size
    clear hxa HX2 K0 K1
    generalize w2.alloc (.map #[] 0) = w3 at *
    obtain ⟨M, hM⟩ : ∃ M, w2.heap.size = M := ⟨_, rfl⟩
    rw [hM] at HM0 HLO
    simp only [hM]
    clear hM
    obtain ⟨d0, d1, d2, d3, d4, d5, d6, d7⟩ := row8_facts J0.out
    go_wp2_with fail
    refine (HVS.out w3 HX3.out).mono ?_
    rintro e w4 ⟨u, rfl, ho, hx4⟩
    have NI := Lib.hid (show NamI w y0 y1 M [av, rv, .bool P.count, .bool P.distinct, .bool P.limited, .int .i64 P.limit, .int .i64 P.offset, hv] ((kvN V (plainN V.length)).take 0) u V w4 from ⟨HX3.out.trans hx4, J0.out.ext hx4, J1.out.ext hx4, HM0.out.ext hx4, HLO.out, Sl.of_own ho |> fun h => by unfold Strs; exact h⟩)
    obtain ⟨ua, uc, rfl⟩ := own_vw ho
    clear d0 d1 d2 d3 d4 d5 d6 d7 ho hx4 HX3 J0 J1 HM0 HVS HLO
    go_wp2_with fail
    have HNL := Lib.hid (plainN_len V.length)
    go_loopg [18] V.length (fun g i wr => ∃ k : Nat, k ≤ V.length ∧ g = V.length - k ∧ i = .int .i64 k ∧ NamI w y0 y1 M [av, rv, .bool P.count, .bool P.distinct, .bool P.limited, .int .i64 P.limit, .int .i64 P.offset, hv] ((kvN V (plainN V.length)).take k) (.slice ua V.length uc) V wr)
    case atStart => exact ⟨0, Nat.zero_le _, rfl, rfl, NI.out⟩
    case round =>
      obtain ⟨k, hk, hg, rfl, hni⟩ := hrel
      have Hg := Lib.hid hg
      have HI := Lib.hid hni
      clear hg hni NI
      by_cases hlt : k < V.length
      · obtain ⟨b, o, rfl, c0⟩ := Strs.at_ HI.out.vars hlt
        have hkl : k ≤ 32 := by omega
        have HIT := Lib.hid (itoa_any (k : Int) (by omega) (by omega) wr (HW.out.ext HI.out.ext))
        have hz : ¬ (9223372036854775807 < 1 + (txt (Lib.itoa (k : Int))).size) := by rw [txt_size]; have := Lib.itoa_length_le (k : Int) (by omega) (by omega); omega
        have HKT := Lib.hid (kvN_take (HNL.out) hlt)
        have HKN := Lib.hid (kvN_new (N := plainN V.length) HND.out hlt)
        have hpk : (plainN V.length)[k]'(by rw [plainN_len]; exact hlt) = (⟨#[118]⟩ : ByteArray) ++ txt (Lib.itoa (k : Int)) := by
          unfold plainN
          rw [List.getElem_map, List.getElem_range, Lib.itoa_nonneg]
          exact bts_inj (by rw [bts_append, bts_txt, bts_txt]; rfl)
        obtain ⟨nk, hnk⟩ : ∃ s, (⟨#[118]⟩ : ByteArray) ++ txt (Lib.itoa (k : Int)) = s := ⟨_, rfl⟩
        rw [hnk] at hpk
        have hkt := HKT.out
        rw [hpk] at hkt
        clear HKT hpk
        have HKT := Lib.hid hkt
        clear hkt
        generalize V[k] = vk at *
        go_wp2_with fail
        refine HIT.out.mono ?_
        rintro e w5 ⟨rfl, hx5⟩
        have HI5 := Lib.hid (HI.out.more hx5)
        clear c0 HIT HI hx5
        go_wp2_with (refine wpList_put_new (b := M) (k := .string vk) (v := .agg #[.string nk]) _ rfl _ _ _ _ rfl Tryz.underlying55 Tryz.underlying9 rfl rfl rfl HI5.out.map (isKey_str vk) HKN.out ?_; intro w6 hM6 hg6 hs6; have HI6 := Lib.hid (HI5.out.put hM6 hg6); clear hM6 hg6 hs6)
        go_roundg (V.length - (k + 1))
        case measure => have := Hg.out; omega
        case rel => exact ⟨k + 1, by omega, rfl, by go_num, by rw [HKT.out]; exact HI6.out⟩
      · have he : k = V.length := by omega
        have hni := HI.out
        rw [List.take_of_length_le (by rw [kvN_len _ _ HNL.out]; omega)] at hni
        have HI2 := Lib.hid hni
        clear HI hni
        go_upto_region 10 with fail
        apply wp_region_lit
        -- a load of a whole row: y0 block, HI2.out.row fact RowAt, api.Pattern the type's name
        refine plain_load rfl _ _ rfl y0 rfl _ _ (HI2.out.row) Tryz.underlying25 rfl (by kernel_rfl) ?_
        go_simp
        refine wpList_plain rfl fun K1 hK1 => ?_
        go_simp
        refine hK1 _ _ ?_
        clear hK1 K1
        -- a call in a plain region: refine (HTN.out wr M HI2.out.ext HI2.out.map).mono ?_; rintro e w7 ⟨u7, rfl, hpi, hx7⟩ the contract taken, and its results named
        refine wpList_plain rfl fun K1 hK1 => ?_
        go_simp
        refine (HTN.out wr M HI2.out.ext HI2.out.map).mono ?_; rintro e w7 ⟨u7, rfl, hpi, hx7⟩
        go_simp
        refine hK1 _ _ ?_
        clear hK1 K1
        have HI7 := Lib.hid (HI2.out.more hx7)
        obtain ⟨pa, pr, ph, rfl, o1, o2, o3⟩ := hpi
        have hlo7 := HI2.out.ext.size
        have HP1 := Lib.hid (fun arr => own_turn (own_base o1 hlo7) HI7.out.res (by decide) (setRow_grown w7 y1 arr))
        have HP2 := Lib.hid (fun arr => own_turn (own_base o2 hlo7) HI7.out.res (by decide) (setRow_grown w7 y1 arr))
        have HP3 := Lib.hid (fun arr => own_turn (own_base o3 hlo7) HI7.out.res (by decide) (setRow_grown w7 y1 arr))
        obtain ⟨z1, z2, rfl⟩ := own_vw o1
        obtain ⟨z3, z4, rfl⟩ := own_vw o2
        obtain ⟨z5, z6, rfl⟩ := own_vw o3
        clear o1 o2 o3 hx7 HI2
        unfold patV
        -- as STEND1, with facts HP1 to HP3 on owned rows that go over the store (HQ1 to HQ3)
        refine plain_store rfl _ _ _ rfl y1 ((patL (.slice z1 Q.atoms.length z2) (.slice z3 Q.ret.length z4) (.slice z5 Q.hint.length z6) Q)) rfl rfl (HI7.out.res) (by kernel_rfl) rfl ((by simp [patL, Value.oneCell'])) ?_
        have HRR := Lib.hid ((HI7.out.res).setRow ((patL (.slice z1 Q.atoms.length z2) (.slice z3 Q.ret.length z4) (.slice z5 Q.hint.length z6) Q)))
        have HXX := Lib.hid (show Ext w ((w7).setRow y1 ((patL (.slice z1 Q.atoms.length z2) (.slice z3 Q.ret.length z4) (.slice z5 Q.hint.length z6) Q)).toArray) from below_setRow (HI7.out.ext) ((by have := HN.out; omega)) _)
        have HQ1 := Lib.hid (HP1.out ((patL (.slice z1 Q.atoms.length z2) (.slice z3 Q.ret.length z4) (.slice z5 Q.hint.length z6) Q)).toArray)
        have HQ2 := Lib.hid (HP2.out ((patL (.slice z1 Q.atoms.length z2) (.slice z3 Q.ret.length z4) (.slice z5 Q.hint.length z6) Q)).toArray)
        have HQ3 := Lib.hid (HP3.out ((patL (.slice z1 Q.atoms.length z2) (.slice z3 Q.ret.length z4) (.slice z5 Q.hint.length z6) Q)).toArray)
        clear HP1 HP2 HP3
        go_simp
        generalize (w7).setRow y1 ((patL (.slice z1 Q.atoms.length z2) (.slice z3 Q.ret.length z4) (.slice z5 Q.hint.length z6) Q)).toArray = wend at *
        refine wpList_plain rfl fun K1 hK1 => ?_
        go_simp
        refine hK1 _ _ ?_
        clear hK1 K1
        apply wpList_nil
        go_wp2_with fail
        exact bodyPost_ret (results_row1 rfl rfl HRR.out Tryz.underlying25 rfl (by kernel_rfl)) rfl (⟨_, rfl, ⟨_, _, _, rfl, HQ1.out, HQ2.out, HQ3.out⟩, HXX.out⟩)
end Go.Proofs.YthoneahamnmjlaaGreatDoor
