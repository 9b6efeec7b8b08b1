/- What a dictionary tells, right or not. -/
import Derived.Test.YtogoejlbdbapoaaDicLw
import Derived.Test.YtogoejlbdbapoaaDicV
import Derived.Test.YtogoejlbdbapoaaOpen
import Derived.Test.YtogoejlbdbapoaaKit
import Derived.Deep.Fields
import Derived.ChangeSame
import Derived.OpenShut
import Derived.Test.YtogoejlbdbapoaaOpenD
namespace Go.Proofs.Ytogoejlbdbapoaa
set_option maxRecDepth 100000
set_option maxHeartbeats 2000000
set_option linter.unusedSimpArgs false
open Go.RowKit Go.Shelf Go.Sort
attribute [local go_sem] Oper.semAt_some wide_fn wide_depth
set_option linter.unusedVariables false

/-- The names that the law sees: a dictionary's, or none. -/
def seenN (r : Bool) (D : Dic) : Nms := if r then ofD D else fun _ => []
def allN (N : Nms) (kind : Int) : List ByteArray := if 0 ≤ kind ∧ kind < 5 then N kind.toNat else []
def wantN (r : Bool) (N : Nms) (kind q : Int) : Value := if r then (if 0 ≤ kind ∧ kind < 5 then textF (N kind.toNat) q else .tuple #[.string ⟨#[]⟩, .int .i64 2]) else .tuple #[.string ⟨#[]⟩, .int .i64 160]
theorem tellId (r : Bool) (vs : Nat → Value × Value) (D : Dic) (w : World) (hV : DicV w vs D) (hS : DicS D) (hr : r = true ↔ DicOK D) (kind : Int) (s : ByteArray) (hs : s.size ≤ 9223372036854775807) :
    Calls Try.prog 33 #[dv vs, .int .i64 kind, .string s] w fun e w' => e = idRes (idN (seenN r D) kind s) ∧ Ext w w' := by
  cases r with
  | true => exact id_yes vs D w hV hS (hr.1 rfl) kind s hs
  | false =>
    refine (id_no vs D w hV hS (fun h => by have := hr.2 h; cases this) kind s).mono ?_
    rintro e w' ⟨rfl, hx⟩
    refine ⟨?_, hx⟩
    have h : idN (seenN false D) kind s = -1 := by
      unfold idN seenN
      split
      · exact findF_no.2 (by simp)
      · rfl
    rw [h]; rfl
theorem tellName (r : Bool) (vs : Nat → Value × Value) (D : Dic) (w : World) (hV : DicV w vs D) (hS : DicS D) (hr : r = true ↔ DicOK D) (kind q : Int) :
    Calls Try.prog 35 #[dv vs, .int .i64 kind, .int .i64 q] w fun e w' => e = .returned (wantN r (seenN r D) kind q) ∧ Ext w w' := by
  cases r with
  | true => exact name_yes vs D w hV hS (hr.1 rfl) kind q
  | false => exact name_no vs D w hV hS (fun h => by have := hr.2 h; cases this) kind q
theorem tellNames (r : Bool) (vs : Nat → Value × Value) (D : Dic) (w : World) (hV : DicV w vs D) (hS : DicS D) (hr : r = true ↔ DicOK D) (kind : Int) :
    Calls Try.prog 31 #[dv vs, .int .i64 kind] w fun e w' => ∃ u, e = .returned u ∧ w'.ownsRow w.heap.size 9 1 u (allN (seenN r D) kind).length ((allN (seenN r D) kind).map Value.string) ∧ Ext w w' := by
  cases r with
  | true => exact names_yes vs D w hV hS (hr.1 rfl) kind
  | false =>
    have h : allN (seenN false D) kind = [] := by unfold allN seenN; split <;> rfl
    rw [h]
    exact names_no vs D w hV hS (fun h => by have := hr.2 h; cases this) kind
theorem wantN_no {N : Nms} {kind q : Int} : wantN false N kind q = .tuple #[.string ⟨#[]⟩, .int .i64 160] := rfl
theorem wantN_neg {N : Nms} {kind q : Int} (h : ¬ (0 ≤ kind ∧ kind < 5)) : wantN true N kind q = .tuple #[.string ⟨#[]⟩, .int .i64 2] := by
  unfold wantN
  rw [if_pos rfl, if_neg h]
theorem wantN_in {N : Nms} {k : Nat} {all : List ByteArray} (hk : k < 5) (he : allN N (k : Int) = all) {p : Nat} (hp : p < all.length) : wantN true N (k : Int) (p : Int) = .tuple #[.string (all.getD p ⟨#[]⟩), .int .i64 0] := by
  unfold allN at he
  rw [if_pos (by omega)] at he
  unfold wantN textF
  rw [if_pos rfl, if_pos (by omega), he, if_pos (by omega)]
  rfl
theorem wantN_off {N : Nms} {k : Nat} {all : List ByteArray} (hk : k < 5) (he : allN N (k : Int) = all) {q : Int} (hq : ¬ (0 ≤ q ∧ q < (all.length : Int))) : wantN true N (k : Int) q = .tuple #[.string ⟨#[]⟩, .int .i64 4] := by
  unfold allN at he
  rw [if_pos (by omega)] at he
  unfold wantN textF
  rw [if_pos rfl, if_pos (by omega), he, if_neg hq]
def groT46 : Nat → Gro
  | 0 => .read
  | 1 => .read
  | 2 => .grow
  | 3 => .grow
  | _ => .pure
end Go.Proofs.Ytogoejlbdbapoaa

/- What a put comes to: plain. -/
namespace Go.Proofs.Ytogoejlbdbapoaa
set_option maxRecDepth 100000
set_option maxHeartbeats 2000000
set_option linter.unusedSimpArgs false
open Go.RowKit
set_option linter.unusedVariables false

theorem putF_findD {T : List ByteArray} {S : List Int} {s : ByteArray} {T' : List ByteArray} {S' : List Int} {n : Int} (h : TabOK T S) (hp : putF T S s = some (T', S', n)) :
    ∃ k : Nat, n = k ∧ (∃ hk : k < T'.length, T'[k] = s) ∧ findF T' s = k ∧ (T' = T ∨ findF T s < 0 ∧ T' = T ++ [s]) := by
  have hok := (putF_ok h hp).1
  unfold putF at hp
  split at hp
  · rename_i hf
    cases hp
    obtain ⟨k, hk⟩ := Int.eq_ofNat_of_zero_le hf
    obtain ⟨h1, h2, h3⟩ := findF_yes.1 hk
    exact ⟨k, hk, ⟨h1, h2⟩, hk, .inl rfl⟩
  · rename_i hf
    split at hp
    · cases hp
    · cases hp
      have hl : T.length < (T ++ [s]).length := by simp
      have hg : (T ++ [s])[T.length] = s := by simp
      refine ⟨T.length, rfl, ⟨hl, hg⟩, ?_, .inr ⟨by omega, rfl⟩⟩
      have := findF_distinct hok.distinct hl
      rwa [hg] at this
structure Put1 (D D' : Dic) (kind n : Int) (s : ByteArray) (k m : Nat) : Prop where
  hkind : kind = k
  lt : k < 5
  id : n = m
  ok : DicOK D'
  sz : ∀ i, i < 5 → (D' i).2.length ≤ 4096
  may : mayB kind (bts s) = true
  rest : ∀ i, i ≠ k → D' i = D i
  ext : ∃ l, (D' k).1 = (D k).1 ++ l
  at_ : ∃ h : m < (D' k).1.length, (D' k).1[m] = s
  find : findF (D' k).1 s = m
  again : putD D' kind s = .ok (upd D' k (D' k), n)
theorem putD_is {D D' : Dic} {kind n : Int} {s : ByteArray} (hD : DicOK D) (hS : ∀ i, i < 5 → (D i).2.length ≤ 4096) (h : putD D kind s = .ok (D', n)) : ∃ k m, Put1 D D' kind n s k m := by
  unfold putD at h
  split at h
  · rename_i hm
    obtain ⟨hk0, hk5⟩ := mayB_kind hm
    obtain ⟨k, rfl⟩ := Int.eq_ofNat_of_zero_le hk0
    have hk : k < 5 := by omega
    rw [show ((k : Int)).toNat = k from rfl] at h
    split at h
    · cases h
    · rename_i T' S' n' hp
      cases h
      unfold dputF at hp
      split at hp
      · cases hp
      · rename_i hfull
        obtain ⟨hok, hmem, hsz, _, _⟩ := putF_ok (hD k hk).1 hp
        obtain ⟨m, hn, ⟨hlt, hat⟩, hfind, hcase⟩ := putF_findD (hD k hk).1 hp
        have hat' : ∃ hx : m < (upd D k (T', S') k).1.length, (upd D k (T', S') k).1[m] = s := by rw [upd_at]; exact ⟨hlt, hat⟩
        have hSk := hS k hk
        have h128 := (hD k hk).2.1
        have hlen : T'.length ≤ 128 := by
          rcases hcase with rfl | ⟨h1, rfl⟩
          · exact h128
          · simp
            omega
        have hmay : ∀ x ∈ T', mayB k (bts x) = true := fun x hx => by
          rcases hmem x hx with h1 | h1
          · exact badB_all (hD k hk).2.2 x h1
          · rw [h1]; exact hm
        refine ⟨k, m, rfl, hk, hn, hD.upd ⟨hok, hlen, mayB_bad hmay⟩, fun i hi => ?_, hm, fun i hi => upd_ne _ _ hi, ?_, hat', ?_, ?_⟩
        · by_cases e : i = k
          · subst e; rw [upd_at]; show S'.length ≤ 4096; omega
          · rw [upd_ne _ _ e]; exact hS i hi
        · rw [upd_at]
          rcases hcase with rfl | ⟨_, rfl⟩
          · exact ⟨[], by simp⟩
          · exact ⟨[s], rfl⟩
        · rw [upd_at]; exact hfind
        · unfold putD
          rw [if_pos hm, show ((k : Int)).toNat = k from rfl, upd_at]
          have hd : dputF T' S' s = some (T', S', n) := by
            unfold dputF
            rw [if_neg (by omega), putF_old hok hlt hat, hn]
          show (match dputF T' S' s with | none => _ | some (T, S, n) => _) = _
          rw [hd]
  · cases h
theorem putD_err {D : Dic} {kind c : Int} {s : ByteArray} (h : putD D kind s = .error c) : c = 2 ∨ c = 6 := by
  unfold putD at h
  split at h
  · split at h
    · cases h; exact .inr rfl
    · cases h
  · cases h; exact .inl rfl
theorem Put1.name {D D' : Dic} {kind n : Int} {s : ByteArray} {k m : Nat} (h : Put1 D D' kind n s k m) : nameF D' kind n = .tuple #[.string s, .int .i64 0] := by
  obtain ⟨h1, h2⟩ := h.at_
  have hl := h.lt
  unfold nameF textF
  rw [h.hkind, if_pos (by omega), show ((k : Int)).toNat = k from rfl, h.id, if_pos (by omega), show ((m : Int)).toNat = m from rfl, show (D' k).1.getD m ⟨#[]⟩ = s from by rw [← h2]; simp [List.getD, h1]]
theorem Put1.idf {D D' : Dic} {kind n : Int} {s : ByteArray} {k m : Nat} (h : Put1 D D' kind n s k m) : idF D' kind s = n := by
  have hl := h.lt
  unfold idF
  rw [h.hkind, if_pos (by omega), show ((k : Int)).toNat = k from rfl, h.find, h.id]
theorem Put1.same {D D' : Dic} {kind n : Int} {s : ByteArray} {k m : Nat} (h : Put1 D D' kind n s k m) : sameN (ofD (upd D' k (D' k))) (ofD D') = true := sameN_iff.2 fun i hi => by
  by_cases e : i = k
  · subst e; unfold ofD; rw [upd_at]
  · unfold ofD; rw [upd_ne _ _ e]
/-- The document's put. -/
theorem putD_ref {D : Dic} (hD : DicOK D) (kind : Int) (s : ByteArray) : match putD D kind s with
    | .error c => refPutD (ofD D) kind s = .error c
    | .ok (D', n) => ∃ N', refPutD (ofD D) kind s = .ok (N', n) ∧ ∀ i, i < 5 → (D' i).1 = N' i := by
  unfold putD refPutD
  by_cases hm : mayB kind (bts s) = true
  · rw [if_pos hm, if_pos hm]
    obtain ⟨hk0, hk5⟩ := mayB_kind hm
    obtain ⟨k, rfl⟩ := Int.eq_ofNat_of_zero_le hk0
    have hk : k < 5 := by omega
    rw [show ((k : Int)).toNat = k from rfl]
    have h128 := (hD k hk).2.1
    unfold dputF ofD
    by_cases hf : 0 ≤ findF (D k).1 s
    · rw [if_neg (by omega), if_pos hf]
      unfold putF
      rw [if_pos hf]
      refine ⟨_, rfl, fun i hi => ?_⟩
      by_cases e : i = k
      · subst e; rw [upd_at]
      · rw [upd_ne _ _ e]
    · by_cases hl : 128 ≤ (D k).1.length
      · rw [if_pos ⟨by omega, hl⟩, if_neg hf, if_pos (by omega)]
      · rw [if_neg (by omega), if_neg hf, if_neg (by omega)]
        unfold putF
        rw [if_neg hf, if_neg (by omega)]
        refine ⟨_, rfl, fun i hi => ?_⟩
        by_cases e : i = k
        · subst e; rw [upd_at, upd_at]
        · rw [upd_ne _ _ e, upd_ne _ _ e]
  · rw [if_neg hm, if_neg hm]
/-- What all the names of a kind are found by. -/
theorem keepId (r : Bool) {E : Dic} (hr : r = true → DicOK E) {k m : Nat} (hk : k < 5) (hm : m < (allN (seenN r E) (k : Int)).length) : idN (seenN r E) (k : Int) ((allN (seenN r E) (k : Int))[m]) = m := by
  cases r with
  | false =>
    have h : allN (seenN false E) (k : Int) = [] := by unfold allN seenN; split <;> rfl
    rw [h] at hm
    simp at hm
  | true =>
    have h : allN (seenN true E) (k : Int) = (E k).1 := by unfold allN seenN; rw [if_pos (by omega)]; rfl
    have h2 : ∀ s, idN (seenN true E) (k : Int) s = findF (E k).1 s := fun s => by unfold idN seenN; rw [if_pos (by omega)]; rfl
    rw [h2]
    simp only [h] at hm ⊢
    exact findF_distinct (hr rfl k hk).1.distinct hm
theorem keepLen (r : Bool) {E : Dic} (hr : r = true → DicOK E) {k : Nat} (hk : k < 5) : (allN (seenN r E) (k : Int)).length ≤ 128 := by
  cases r with
  | false =>
    have h : allN (seenN false E) (k : Int) = [] := by unfold allN seenN; split <;> rfl
    rw [h]; simp
  | true =>
    have h : allN (seenN true E) (k : Int) = (E k).1 := by unfold allN seenN; rw [if_pos (by omega)]; rfl
    rw [h]
    exact (hr rfl k hk).2.1
theorem seenSize (r : Bool) {E : Dic} (hS : DicS E) {k : Nat} (hk : k < 5) : ∀ s ∈ allN (seenN r E) (k : Int), s.size ≤ 9223372036854775807 := by
  cases r with
  | false =>
    have h : allN (seenN false E) (k : Int) = [] := by unfold allN seenN; split <;> rfl
    rw [h]; simp
  | true =>
    have h : allN (seenN true E) (k : Int) = (E k).1 := by unfold allN seenN; rw [if_pos (by omega)]; rfl
    rw [h]
    exact (hS k hk).2.2
/-- Each of a kind's names tells its place. -/
theorem keepIds (r : Bool) (vs : Nat → Value × Value) (E : Dic) (w : World) (hV : DicV w vs E) (hS : DicS E) (hr : r = true ↔ DicOK E) {k : Nat} (hk : k < 5) (m : Nat) (hm : m < (allN (seenN r E) (k : Int)).length) :
    Calls Try.prog 33 #[dv vs, .int .i64 k, .string ((allN (seenN r E) (k : Int))[m])] w fun e w' => e = .returned (.tuple #[.int .i64 m, .bool true]) ∧ Ext w w' := by
  refine (tellId r vs E w hV hS hr k _ (seenSize r hS hk _ (List.getElem_mem hm))).mono ?_
  rintro e w' ⟨rfl, hx⟩
  refine ⟨?_, hx⟩
  rw [keepId r hr.1 hk hm]
  unfold idRes
  rw [Int.max_eq_left (by omega), decide_eq_true (by omega)]
end Go.Proofs.Ytogoejlbdbapoaa

/- A dictionary in memory of its own is written over: what lies ahead of it, and behind, stays. -/
namespace Go.Proofs.Ytogoejlbdbapoaa
set_option maxRecDepth 100000
set_option maxHeartbeats 2000000
set_option linter.unusedSimpArgs false
open Go.RowKit Go.Shelf Go.Sort
attribute [local go_sem] Oper.semAt_some wide_fn wide_depth
set_option linter.unusedVariables false

/-- Only blocks from B on to M have changed, and new ones. -/
structure Mid (B M : Nat) (w w' : World) : Prop where
  os : w'.os = w.os
  tape : w'.tape = w.tape
  output : w'.output = w.output
  size : w.heap.size ≤ w'.heap.size
  block : ∀ g, g < w.heap.size → (g < B ∨ M ≤ g) → w'.heap[g]? = w.heap[g]?
theorem Mid.refl (B M : Nat) (w : World) : Mid B M w w := ⟨rfl, rfl, rfl, Nat.le_refl _, fun _ _ _ => rfl⟩
theorem Mid.grow {B M : Nat} {w w' w'' : World} (h : Mid B M w w') (hx : Ext w' w'') : Mid B M w w'' :=
  ⟨hx.os.trans h.os, hx.tape.trans h.tape, hx.output.trans h.output, Nat.le_trans h.size hx.size, fun g hg hb => (hx.block g (Nat.lt_of_lt_of_le hg h.size)).trans (h.block g hg hb)⟩
theorem Mid.from_ {B M : Nat} {w w' w'' : World} (hx : Ext w w') (h : Mid B M w' w'') : Mid B M w w'' :=
  ⟨h.os.trans hx.os, h.tape.trans hx.tape, h.output.trans hx.output, Nat.le_trans hx.size h.size, fun g hg hb => (h.block g (Nat.lt_of_lt_of_le hg hx.size) hb).trans (hx.block g hg)⟩
theorem Mid.set {B M : Nat} {w w' : World} (h : Mid B M w w') {g : Nat} (hB : B ≤ g) (hM : g < M) (i : Nat) (v : Value) : Mid B M w (w'.setCell ⟨g, i, none⟩ v) :=
  ⟨h.os, h.tape, h.output, by simp [World.setCell]; exact h.size, fun k hk hb => (Below.heap_setCell _ _ _ k (by show k ≠ g; omega)).trans (h.block k hk hb)⟩
theorem Mid.ext {B M : Nat} {w0 w w' : World} (hx : Ext w0 w) (h : Mid B M w w') (hB : w0.heap.size ≤ B) : Ext w0 w' :=
  ⟨h.os.trans hx.os, h.tape.trans hx.tape, h.output.trans hx.output, Nat.le_trans hx.size h.size, fun g hg => (h.block g (Nat.lt_of_lt_of_le hg hx.size) (.inl (by omega))).trans (hx.block g hg)⟩
theorem RowAt.mid {B M : Nat} {w w' : World} {g : Nat} {t : TypeId} {xs : List Value} (h : RowAt w g t xs) (hm : Mid B M w w') (hg : g < B ∨ M ≤ g) : RowAt w' g t xs := (hm.block g h.lt hg).trans h
theorem own_mid {B M : Nat} {w w' : World} {base : Nat} {e : TypeId} {size n : Nat} {v : Value} {xs : List Value} (h : w.ownsRow base e size v n xs) (hm : Mid B M w w') (hM : M ≤ base) : w'.ownsRow base e size v n xs := by
  refine ⟨h.1, ?_⟩
  rcases h.2 with hn | ⟨g, cap, cur, rfl, hbg, hgg, rest⟩
  · exact .inl hn
  · refine .inr ⟨g, cap, cur, rfl, hbg, ?_, rest⟩
    rw [hm.block g (Array.getElem?_eq_some_iff.1 hgg).1 (.inr (by omega))]
    exact hgg
set_option maxRecDepth 100000 in
set_option maxHeartbeats 2000000 in
theorem spoil_mid (B : Nat) (us : Nat → Value × Value) (D : Dic) (w0 w : World) (hU : DicOwn B w0 us D) (hx0 : Ext w0 w) :
    Calls Try.prog 24 #[dv us] w fun e w' => e = .returned (.tuple #[]) ∧ Mid B w0.heap.size w w' := by
  have hd0 : RowAt (w.alloc (.cells (dcells us).toArray 28)) w.heap.size 28 (dcells us) := RowAt.new w _ (dcells us)
  have hx1 : Ext w (w.alloc (.cells (dcells us).toArray 28)) := Ext.alloc _ _
  have hdc : ∀ vs : Nat → Value × Value, (dcells vs).toArray = #[(vs 0).1, (vs 0).2, (vs 1).1, (vs 1).2, (vs 2).1, (vs 2).2, (vs 3).1, (vs 3).2, (vs 4).1, (vs 4).2] := fun _ => rfl
  have HIX := Lib.hid (ix_any us)
  unfold dv
  simp only [hdc] at hd0 hx1 ⊢
  have HD0 := Lib.hid hd0
  have HX1 := Lib.hid hx1
  have HX0 := Lib.hid hx0
  have h01 := hx0.size
  have HU := Lib.hid hU
  clear hd0 hx1 hdc hU hx0
  go_enter Try.func24, Try.ntmps24
  go_upto_region 1 with fail
  replace HD0 := HD0.out
  replace HX1 := HX1.out
  generalize w.alloc (.cells #[(us 0).1, (us 0).2, (us 1).1, (us 1).2, (us 2).1, (us 2).2, (us 3).1, (us 3).2, (us 4).1, (us 4).2] 28) = w1 at *
  obtain ⟨c0, c1, c2, c3, c4, c5, c6, c7, c8, c9⟩ := HD0.facts10
  go_wp2_with fail
  have hw1 := HD0.lt
  clear c0 c1 c2 c3 c4 c5 c6 c7 c8 c9 HD0
  go_loopg [8] 5 (fun g i wr => ∃ (k : Nat), k ≤ 5 ∧ g = 5 - k ∧ i = .int .i64 k ∧ Mid B w0.heap.size w1 wr ∧ Shp w0 wr ∧ w.heap.size < wr.heap.size)
  case atStart => exact ⟨0, Nat.zero_le _, rfl, rfl, Mid.refl _ _ _, ((Shp.refl w0).ext HX0.out).ext HX1, hw1⟩
  case round =>
    obtain ⟨k, hk, hg, rfl, hbr, hsr, hzr⟩ := hrel
    have Hg := Lib.hid hg
    clear hg
    by_cases hlt : k < 5
    · obtain ⟨a, c, b, d, hv, hoT, hoS⟩ := (HU.out k hlt).pair
      have hix := HIX.out k hlt
      rw [hv] at hix
      dsimp only at hix
      have hbx : RowAt (wr.alloc (.cells #[.slice a (D k).1.length c, .slice b (D k).2.length d] 25)) wr.heap.size 25 [.slice a (D k).1.length c, .slice b (D k).2.length d] := RowAt.new _ _ _
      have HBX := Lib.hid hbx
      have HB := Lib.hid (Mid.grow hbr (Ext.alloc wr (.cells #[.slice a (D k).1.length c, .slice b (D k).2.length d] 25)))
      have HS := Lib.hid (hsr.ext (Ext.alloc wr (.cells #[.slice a (D k).1.length c, .slice b (D k).2.length d] 25)))
      have HOT := Lib.hid (fun h : 0 < (D k).1.length => owned_row hoT h)
      have HOS := Lib.hid (fun h : 0 < (D k).2.length => owned_row hoS h)
      have hn1 : (D k).1.length ≤ 9223372036854775807 := by obtain ⟨_, _, e, h1, h2⟩ := Sl.shape (Sl.of_own hoT); simp only [Value.slice.injEq] at e; omega
      have hn2 : (D k).2.length ≤ 9223372036854775807 := by obtain ⟨_, _, e, h1, h2⟩ := Sl.shape (Sl.of_own hoS); simp only [Value.slice.injEq] at e; omega
      clear hv hbx hoT hoS HIX hbr hsr
      go_upto_region 4 with fail
      replace HBX := HBX.out
      replace HB := HB.out
      replace HS := HS.out
      generalize hwq : wr.alloc (.cells #[.slice a (D k).1.length c, .slice b (D k).2.length d] 25) = wq at *
      clear hwq
      generalize hbxe : wr.heap.size = bx at *
      generalize (D k).1.length = n at *
      generalize (D k).2.length = m at *
      have hgq := HBX.lt
      obtain ⟨p1, p2, _, _⟩ := HBX.facts2
      go_wp2_with fail
      clear p1 p2
      go_loopg [14] n (fun g i wi => ∃ (j : Nat), j ≤ n ∧ g = n - j ∧ i = .int .i64 j ∧ Mid B w0.heap.size w1 wi ∧ Shp w0 wi ∧ RowAt wi bx 25 [.slice a n c, .slice b m d])
      case atStart => exact ⟨0, Nat.zero_le _, rfl, rfl, HB, HS, HBX⟩
      case round =>
        obtain ⟨j, hj, hg2, rfl, hbi, hsi, hri⟩ := hrel
        have Hg2 := Lib.hid hg2
        clear hg2
        by_cases hlj : j < n
        · obtain ⟨g, ys, rfl, hgB, hrow, hny⟩ := HOT.out (by omega)
          have hgl := hrow.lt
          obtain ⟨ys', hr1, hr2⟩ := hsi g _ ys hrow
          have hcell := hr1.cell (i := j) (v := ys'[j]'(by omega)) (List.getElem?_eq_getElem _)
          have hfro := hr1.frozen j
          obtain ⟨p1, p2, _, _⟩ := hri.facts2
          have HF := Lib.hid (⟨hbi.set hgB hgl j spoiltS, hsi.set g j spoiltS, RowAt.set_ne hri (show g ≠ bx by omega)⟩ : Mid B w0.heap.size w1 (wr.setCell ⟨g, j, none⟩ spoiltS) ∧ Shp w0 (wr.setCell ⟨g, j, none⟩ spoiltS) ∧ RowAt (wr.setCell ⟨g, j, none⟩ spoiltS) bx 25 [.slice (some ⟨g, 0, none⟩) n c, .slice b m d])
          clear hrow hr1 hri hsi hbi
          go_wp2_with fail
          go_roundg (n - (j + 1))
          case measure => have := Hg2.out; omega
          case rel => exact ⟨j + 1, by omega, rfl, by go_num, HF.out⟩
        · obtain ⟨p1, p2, _, _⟩ := hri.facts2
          have HB2 := Lib.hid hbi
          have HS2 := Lib.hid hsi
          have HR2 := Lib.hid hri
          clear hri hsi hbi HB HS HBX
          go_wp2_with fail
          go_loopg [25] m (fun g i wi => ∃ (j : Nat), j ≤ m ∧ g = m - j ∧ i = .int .i64 j ∧ Mid B w0.heap.size w1 wi ∧ Shp w0 wi ∧ RowAt wi bx 25 [.slice a n c, .slice b m d])
          case atStart => exact ⟨0, Nat.zero_le _, rfl, rfl, HB2.out, HS2.out, HR2.out⟩
          case round =>
            obtain ⟨j, hj, hg2, rfl, hbi, hsi, hri⟩ := hrel
            have Hg2 := Lib.hid hg2
            clear hg2 p1 p2
            by_cases hlj : j < m
            · obtain ⟨g, ys, rfl, hgB, hrow, hny⟩ := HOS.out (by omega)
              have hgl := hrow.lt
              obtain ⟨ys', hr1, hr2⟩ := hsi g _ ys hrow
              have hcell := hr1.cell (i := j) (v := ys'[j]'(by omega)) (List.getElem?_eq_getElem _)
              have hfro := hr1.frozen j
              obtain ⟨p1, p2, _, _⟩ := hri.facts2
              have HF := Lib.hid (⟨hbi.set hgB hgl j (.int .i64 (-1)), hsi.set g j (.int .i64 (-1)), RowAt.set_ne hri (show g ≠ bx by omega)⟩ : Mid B w0.heap.size w1 (wr.setCell ⟨g, j, none⟩ (.int .i64 (-1))) ∧ Shp w0 (wr.setCell ⟨g, j, none⟩ (.int .i64 (-1))) ∧ RowAt (wr.setCell ⟨g, j, none⟩ (.int .i64 (-1))) bx 25 [.slice a n c, .slice (some ⟨g, 0, none⟩) m d])
              clear hrow hr1 hri hsi hbi
              go_wp2_with fail
              go_roundg (m - (j + 1))
              case measure => have := Hg2.out; omega
              case rel => exact ⟨j + 1, by omega, rfl, by go_num, HF.out⟩
            · have hz := hri.lt
              go_wp2_with fail
              go_roundg (5 - (k + 1))
              case measure => have := Hg.out; omega
              case rel => exact ⟨k + 1, by omega, rfl, by go_num, hbi, hsi, by omega⟩
    · go_wp2_with fail
      go_end0
      exact ⟨rfl, Mid.from_ HX1 hbr⟩
end Go.Proofs.Ytogoejlbdbapoaa

/- Rows of structs in memory. -/
namespace Go.Proofs.Ytogoejlbdbapoaa
set_option maxRecDepth 100000
set_option maxHeartbeats 2000000
set_option linter.unusedVariables false
set_option linter.unusedSimpArgs false
open Go.RowKit Go.ChangeShapes Go.WideShapes Go.Deep

theorem flatMap_at {α : Type} (f : α → List Value) (m : Nat) (hf : ∀ x, (f x).length = m) (l : List α) (k i : Nat) (hk : k < l.length) (hi : i < m) : (l.flatMap f)[k * m + i]? = (f l[k])[i]? := by
  induction l generalizing k with
  | nil => simp at hk
  | cons x l ih =>
    rw [List.flatMap_cons]
    cases k with
    | zero => rw [List.getElem?_append_left (by rw [hf]; omega)]; simp
    | succ k =>
      rw [List.getElem?_append_right (by rw [hf, Nat.add_mul]; omega), hf, show (k + 1) * m + i - m = k * m + i from by rw [Nat.add_mul]; omega]
      rw [ih k (by simpa using hk)]
      simp
theorem flatMap_len {α : Type} (f : α → List Value) (m : Nat) (hf : ∀ x, (f x).length = m) (l : List α) : (l.flatMap f).length = l.length * m := by
  induction l with
  | nil => simp
  | cons x l ih => rw [List.flatMap_cons, List.length_append, hf, ih, List.length_cons, Nat.add_mul]; omega

section
variable {H : Type} {enc : TypeId × Value → H} {P : Program} {w : World} {base : Nat} {spare : Nat → Bool} {held : Bool}
theorem open_slice_fields {t e : TypeId} {fs : Array Field} {fuel : Nat} {cs : List Value} {x : DataW H × List MemPlace} (ht : P.underlying t = some (.slice e)) (he : P.underlying e = some (.struct fs))
    (hone : oneCellFields P fs = true) (hC : P.cellsOf e = fs.size) (h : DataW.trod enc P w base spare held fuel t cs = some x) :
    (cs = [.slice none 0 0]) ∨
    ∃ (a : Addr) (len cap m : Nat), cs = [.slice (some a) len cap] ∧ len ≤ cap ∧ cap ≤ maxLen ∧ m = (if spare a.block then cap else len) ∧
      ∀ i, i < m → ∃ (n : Nat), ∀ (j : Nat) (f : Field), fs[j]? = some f → ∃ (v : Value) (y : DataW H × List MemPlace), w.cell? (a.add (i * fs.size + j)) = some v ∧ DataW.trod enc P w base spare held n f.type [v] = some y := by
  rcases open_slice ht h with h0 | ⟨a, len, cap, m, n, D, Pl, hcs, hb, hl, hm, hmm, hx, hi⟩
  · exact .inl h0.1
  · refine .inr ⟨a, len, cap, m, hcs, hl, hm, hmm, fun i him => ?_⟩
    obtain ⟨cs', hc, ht'⟩ := hi i him
    rw [hC] at hc
    obtain ⟨ys, n', hn', hy, hlen, hyl, hf⟩ := DataW.trod_struct he ht'
    obtain ⟨_, hcl, hat⟩ := World.cells?_some hc
    refine ⟨n', fun j f hj => ?_⟩
    obtain ⟨ho, hk⟩ := hone_of hone j f hj
    have hjl : j < fs.size := (Array.getElem?_eq_some_iff.1 hj).1
    have hcell := hat j hjl
    have hv : cs'[j]? = some (cs'[j]'(by omega)) := List.getElem?_eq_getElem (by omega)
    have h1 := hf j f hj
    rw [ho, hk] at h1
    have hone' : (cs'.drop j).take 1 = [cs'[j]'(by omega)] := by
      rw [List.drop_eq_getElem_cons (by omega)]
      rfl
    rw [hone'] at h1
    have hys : ys[j]? = some (ys[j]'(by omega)) := List.getElem?_eq_getElem (by omega)
    refine ⟨_, _, ?_, h1.trans hys⟩
    rw [← Go.Deep.add_add, hcell, hv]
end
/-- What each of n is, as a row. -/
theorem choose_row {α : Type} (n : Nat) (Q : Nat → α → Prop) (h : ∀ i, i < n → ∃ x, Q i x) : ∃ xs : List α, xs.length = n ∧ ∀ i (hi : i < xs.length), Q i xs[i] := by
  induction n with
  | zero => exact ⟨[], rfl, fun i hi => by simp at hi⟩
  | succ n ih =>
    obtain ⟨xs, h1, h2⟩ := ih (fun i hi => h i (by omega))
    obtain ⟨x, hx⟩ := h n (by omega)
    refine ⟨xs ++ [x], by simp [h1], fun i hi => ?_⟩
    by_cases hin : i < xs.length
    · rw [List.getElem_append_left hin]; exact h2 i hin
    · have : i = n := by simp at hi; omega
      subst this
      rw [List.getElem_append_right (by omega)]; simpa [h1] using hx
/-- A view of structs of m one-cell fields, from what each field reads as. -/
theorem sl_of_rows {α : Type} {w : World} {x : Addr} {len cap m : Nat} (f : α → List Value) (hf : ∀ y, (f y).length = m) (hm0 : 0 < m) (hl : len ≤ cap) (hc : cap ≤ maxLen) (xs : List α) (hx : xs.length = len)
    (h : ∀ i (hi : i < xs.length) j v, (f xs[i])[j]? = some v → w.cell? (x.add (i * m + j)) = some v) : Sl w (.slice (some x) len cap) len (xs.flatMap f) := by
  refine ⟨_, cap, rfl, hl, hc, fun hp => ?_⟩
  have hlen := flatMap_len f m hf xs
  have hx0 : 0 < xs.length := by
    rcases Nat.eq_zero_or_pos xs.length with h0 | h0
    · rw [hlen, h0] at hp; simp at hp
    · exact h0
  obtain ⟨b, o, spot⟩ := x
  have hs : spot = none := by
    have h00 : (f xs[0])[0]? = some ((f xs[0])[0]'(by rw [hf]; exact hm0)) := List.getElem?_eq_getElem _
    have := h 0 hx0 0 _ h00
    simpa [Addr.add] using World.cell?_spot this
  subst hs
  refine ⟨b, o, rfl, fun i u hu => ?_⟩
  have hi : i < xs.length * m := by rw [← hlen]; exact (List.getElem?_eq_some_iff.1 hu).1
  have hk : i / m < xs.length := Nat.div_lt_of_lt_mul (by rw [Nat.mul_comm]; exact hi)
  have hr : i % m < m := Nat.mod_lt _ hm0
  have hdm : i = i / m * m + i % m := by rw [Nat.mul_comm]; exact (Nat.div_add_mod i m).symm
  have hat := flatMap_at f m hf xs (i / m) (i % m) hk hr
  rw [← hdm] at hat
  have := h _ hk (i % m) u (by rw [← hat]; exact hu)
  rw [addr_add, ← hdm] at this
  exact this
end Go.Proofs.Ytogoejlbdbapoaa

/- Rows of words: a kind and a name. -/
namespace Go.Proofs.Ytogoejlbdbapoaa
set_option maxRecDepth 100000
set_option maxHeartbeats 2000000
set_option linter.unusedVariables false
set_option linter.unusedSimpArgs false
open Go.RowKit Go.ChangeShapes Go.WideShapes Go.Deep

def wdCells (t : Int × ByteArray) : List Value := [.int .i64 t.1, .string t.2]
def Wds (w : World) (v : Value) (l : List (Int × ByteArray)) : Prop := Sl w v l.length (l.flatMap wdCells)
theorem Wds.ext {w w' : World} {v : Value} {l : List (Int × ByteArray)} (h : Wds w v l) (hx : Ext w w') : Wds w' v l := Sl.ext h hx
theorem Wds.at_ {w : World} {a : Option Addr} {n c : Nat} {l : List (Int × ByteArray)} (h : Wds w (.slice a n c) l) {k : Nat} (hk : k < l.length) : ∃ b o, a = some ⟨b, o, none⟩ ∧
    w.cell? ⟨b, o + k * 2, none⟩ = some (.int .i64 l[k].1) ∧ w.cell? ⟨b, o + k * 2 + 1, none⟩ = some (.string l[k].2) := by
  obtain ⟨a', c', e, _, _, hc⟩ := id h
  simp only [Value.slice.injEq] at e
  obtain ⟨rfl, _, rfl⟩ := e
  have hlen := flatMap_len wdCells 2 (fun _ => rfl) l
  obtain ⟨b, o, rfl, hcell⟩ := hc (by omega)
  have h0 := flatMap_at wdCells 2 (fun _ => rfl) l k 0 hk (by omega)
  have h1 := flatMap_at wdCells 2 (fun _ => rfl) l k 1 hk (by omega)
  exact ⟨b, o, rfl, hcell _ _ h0, by rw [Nat.add_assoc]; exact hcell _ _ h1⟩
theorem open_words {H : Type} {enc : TypeId × Value → H} {w : World} {M : Reach} {base base' : Nat} {spare : Nat → Bool} {held : Bool} {v : Value} {d : DataW H} {p : List MemPlace}
    (ho : Value.okWide Try.prog w M base' 42 v) (h : DataW.Trod enc Try.prog w base spare held 42 v d p) :
    ∃ l, Wds w v l ∧ ∀ t ∈ l, t.2.size ≤ 9223372036854775807 ∧ -9223372036854775808 ≤ t.1 ∧ t.1 ≤ 9223372036854775807 := by
  obtain ⟨a, len, cap, rfl⟩ := okWide_slice Try.underlying42 ho
  obtain ⟨fuel, hf⟩ := h
  rcases open_slice_fields Try.underlying42 Try.underlying44 (by kernel_rfl) (by kernel_rfl) hf with hcs | ⟨x, l, c, m, hcs, hl, hm, hz, hcell⟩
  · simp [Value.cells] at hcs
    obtain ⟨rfl, rfl, rfl⟩ := hcs
    exact ⟨[], Sl.nil w, fun t ht => by simp at ht⟩
  · simp [Value.cells] at hcs
    obtain ⟨rfl, rfl, rfl⟩ := hcs
    have hlm : len ≤ m := by split at hz <;> omega
    obtain ⟨xs, hx1, hx2⟩ := choose_row len (fun i (t : Int × ByteArray) => (∀ j v, (wdCells t)[j]? = some v → w.cell? (x.add (i * 2 + j)) = some v) ∧ t.2.size ≤ 9223372036854775807 ∧ -9223372036854775808 ≤ t.1 ∧ t.1 ≤ 9223372036854775807) (fun i hi => by
      obtain ⟨n, hfs⟩ := hcell i (by omega)
      obtain ⟨v0, y0, h0, t0⟩ := hfs 0 _ rfl
      obtain ⟨v1, y1, h1, t1⟩ := hfs 1 _ rfl
      obtain ⟨q0, e0, _, w0⟩ := DataW.trod_int Try.underlying3 t0
      obtain ⟨q1, e1, _, w1⟩ := DataW.trod_string Try.underlying9 t1
      simp at e0 e1
      subst e0 e1
      have b0 := bd_i64 w0
      unfold maxLen at w1
      refine ⟨⟨q0, q1⟩, fun j v hj => ?_, w1, b0.1, b0.2⟩
      match j, hj with
      | 0, hj => cases hj; exact h0
      | 1, hj => cases hj; exact h1)
    refine ⟨xs, ?_, fun t ht => ?_⟩
    · have := sl_of_rows (w := w) (x := x) wdCells (m := 2) (fun _ => rfl) (by omega) hl hm xs hx1 (fun i hi j v hj => (hx2 i hi).1 j v hj)
      unfold Wds; rw [hx1]; exact this
    · obtain ⟨i, hi, rfl⟩ := List.getElem_of_mem ht
      exact (hx2 i hi).2
end Go.Proofs.Ytogoejlbdbapoaa

/- What becomes of a dictionary: the contracts in the law's words. -/
namespace Go.Proofs.Ytogoejlbdbapoaa
set_option maxRecDepth 100000
set_option maxHeartbeats 2000000
set_option linter.unusedSimpArgs false
open Go.RowKit Go.Shelf Go.Sort
attribute [local go_sem] Oper.semAt_some wide_fn wide_depth
set_option linter.unusedVariables false

theorem noH : ∃ F : Heads, hv F = noV := ⟨fun _ => (none, 0, 0, none, 0, 0), rfl⟩
theorem putU_err {D : Dic} {kind c : Int} {s : ByteArray} (h : putD D kind s = .error c) (vs : Nat → Value × Value) (w : World) (hV : DicV w vs D) (hS : DicS D) (hs : s.size ≤ 9223372036854775807) (hok : DicOK D) :
    Calls Try.prog 21 #[dv vs, .int .i64 kind, .string s] w fun e w' => ∃ F : Heads, e = .returned (.tuple #[dv (hv F), .int .i64 0, .int .i64 c]) ∧ DicOwn w.heap.size w' (hv F) noD ∧ hv F = noV ∧ Ext w w' :=
  (dPut_err h vs w hV hS hs hok).mono fun e w' ⟨he, hx⟩ => by
    obtain ⟨F, hF⟩ := noH
    exact ⟨F, by rw [he, hF], by rw [hF]; exact noV_own _ _, hF, hx⟩
theorem putU_no {D : Dic} (vs : Nat → Value × Value) (kind : Int) (s : ByteArray) (w : World) (hV : DicV w vs D) (hS : DicS D) (hs : s.size ≤ 9223372036854775807) (hno : ¬ DicOK D) :
    Calls Try.prog 21 #[dv vs, .int .i64 kind, .string s] w fun e w' => ∃ F : Heads, e = .returned (.tuple #[dv (hv F), .int .i64 0, .int .i64 160]) ∧ DicOwn w.heap.size w' (hv F) noD ∧ hv F = noV ∧ Ext w w' :=
  (dPut_no vs kind s w hV hS hs hno).mono fun e w' ⟨he, hx⟩ => by
    obtain ⟨F, hF⟩ := noH
    exact ⟨F, by rw [he, hF], by rw [hF]; exact noV_own _ _, hF, hx⟩
theorem noneU {F : Heads} (hF : hv F = noV) (w : World) : Calls Try.prog 23 #[dv (hv F)] w fun e w' => e = .returned (.bool true) ∧ Ext w w' := by
  rw [hF]; exact none_any w
theorem refPut_err {N : Nms} {kind c : Int} {s : ByteArray} (h : refPutD N kind s = .error c) (ns : Nat → Value) (w : World) (hN : NamV w ns N) (hl : ∀ i, i < 5 → (N i).length ≤ 1000) (hs : s.size ≤ 9223372036854775807) :
    Calls Try.prog 22 #[nv ns, .int .i64 kind, .string s] w fun e w' => e = .returned (.tuple #[nv noN, .int .i64 0, .int .i64 c]) ∧ Ext w w' :=
  (refPutD_any ns N kind s w hN hl hs).mono fun e w' ⟨hx, hm⟩ => by rw [h] at hm; exact ⟨hm, hx⟩
theorem refPut_ok {N N' : Nms} {kind n : Int} {s : ByteArray} (h : refPutD N kind s = .ok (N', n)) (ns : Nat → Value) (w : World) (hN : NamV w ns N) (hl : ∀ i, i < 5 → (N i).length ≤ 1000) (hs : s.size ≤ 9223372036854775807) :
    Calls Try.prog 22 #[nv ns, .int .i64 kind, .string s] w fun e w' => ∃ A : Nat → Option Addr × Nat, e = .returned (.tuple #[nv (nsA A N'), .int .i64 n, .int .i64 0]) ∧ NamV w' (nsA A N') N' ∧ Ext w w' :=
  (refPutD_any ns N kind s w hN hl hs).mono fun e w' ⟨hx, hm⟩ => by
    rw [h] at hm
    obtain ⟨us, he, hu⟩ := hm
    obtain ⟨A, h1, h2⟩ := nheads hu
    exact ⟨A, by rw [he, show nv us = nv (nsA A N') from by unfold nv; rw [h2]; rfl], fun i hi => by have h := hu i hi; rw [h1 i hi] at h; exact h, hx⟩
/-- The dictionary at hand. -/
structure PtI (w : World) (y : Nat) (C : Heads) (E : Dic) (W : World) : Prop where
  ext : Ext w W
  cur : RowAt W y 28 (dcells (hv C))
  view : DicV W (hv C) E
  s : DicS E
  cut : ∀ i, i < 5 → (E i).1.length ≤ 129 ∧ (E i).2.length ≤ 512
theorem PtI.grow {w : World} {y : Nat} {C : Heads} {E : Dic} {W W' : World} (h : PtI w y C E W) (hx : Ext W W') : PtI w y C E W' := ⟨h.ext.trans hx, h.cur.ext hx, h.view.ext hx, h.s, h.cut⟩
theorem cutD_cut (D : Dic) : ∀ i, i < 5 → (cutD D i).1.length ≤ 129 ∧ (cutD D i).2.length ≤ 512 := fun i _ => ⟨by unfold cutD; simp; omega, by unfold cutD; simp; omega⟩
theorem cut_same {E : Dic} (h : ∀ i, i < 5 → (E i).1.length ≤ 129 ∧ (E i).2.length ≤ 512) : SameD E (cutD E) := fun i hi => by
  unfold cutD
  rw [List.take_of_length_le (h i hi).1, List.take_of_length_le (h i hi).2]
theorem PtI.next {w : World} {y : Nat} {C G : Heads} {E E' : Dic} {W : World} {b : Nat} (h : PtI w y C E W) (hy : w.heap.size ≤ y) (hb : y < b) (ho : DicOwn b W (hv G) (cutD E')) (hs : DicS E') : PtI w y G (cutD E') (setL W y 0 (dcells (hv G))) :=
  ⟨below_setL hy (dcells (hv G)) 0 h.ext, row_set10 (vs := hv C) (hv G) h.cur, DicOwn.view (B := b) fun i hi => (ho i hi).setL hb _ _, cutD_s fun i hi => (hs i hi).2.2, cutD_cut E'⟩
theorem DicV.same {w : World} {vs : Nat → Value × Value} {D E : Dic} (h : DicV w vs D) (hs : SameD E D) : DicV w vs E := fun i hi => by rw [hs i hi]; exact h i hi
theorem noD_s : DicS noD := fun i hi => ⟨by simp [noD], by simp [noD], fun s hs => by simp [noD] at hs⟩
theorem DicOwn.mid {B M b : Nat} {w w' : World} {vs : Nat → Value × Value} {D : Dic} (h : DicOwn b w vs D) (hm : Mid B M w w') (hM : M ≤ b) : DicOwn b w' vs D := fun i hi => by
  obtain ⟨a, n, c, b', m, d, e, h1, h2⟩ := h i hi
  exact ⟨a, n, c, b', m, d, e, own_mid h1 hm hM, own_mid h2 hm hM⟩
/-- Names lie elsewhere than a box of slices. -/
theorem strs_apart {w : World} {g : Nat} {t : TypeId} {v : Value} {l : List ByteArray} (hr : RowAt w g t (ncells noN)) (h : Strs w v l) (xs : List Value) (i : Nat) : Strs (setL w g i xs) v l := by
  obtain ⟨a, cap, rfl, h1, h2, h3⟩ := h
  refine ⟨a, cap, rfl, h1, h2, fun hp => ?_⟩
  obtain ⟨b, o, rfl, hc⟩ := h3 hp
  have hb : b ≠ g := by
    rintro rfl
    have h0 := hc 0 _ (List.getElem?_eq_getElem hp)
    simp only [World.cell?, show w.heap[b]? = _ from hr] at h0
    have hm := List.mem_of_getElem? (l := ncells noN) (i := o + 0) (a := (l.map Value.string)[0]) (by simpa using h0)
    simp [ncells, noN] at hm
  exact ⟨b, o, rfl, fun i' u hu => by
    have hcu := hc i' u hu
    exact (grown_some (grown_setL xs i w) ⟨b, o + i', none⟩ hb (by rw [hcu]; rfl)).trans hcu⟩
theorem namV_apart {w : World} {g : Nat} {t : TypeId} {ns : Nat → Value} {N : Nms} (hr : RowAt w g t (ncells noN)) (h : NamV w ns N) (xs : List Value) (i : Nat) : NamV (setL w g i xs) ns N := fun k hk => strs_apart hr (h k hk) xs i
end Go.Proofs.Ytogoejlbdbapoaa
