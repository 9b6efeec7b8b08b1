/- All, New. -/
import Derived.Test.YtogoejlbdbapoaaTabX3
import Derived.Deep.RegionLaw
namespace Go.Proofs.Ytogoejlbdbapoaa
set_option maxRecDepth 100000
set_option maxHeartbeats 2000000
set_option linter.unusedSimpArgs false
open Go.RowKit Go.Shelf Go.Sort
set_option linter.unusedVariables false

theorem new_any (w : World) : Calls Try.prog 47 #[] w fun e w' => ∃ v, e = .returned v ∧ TabOwn w.heap.size w' v [] (List.replicate 8 0) ∧ Ext w w' := by
  have hmI : ∀ w, (Instr.makeSlice 23 (.int .i64 8) (.int .i64 8)).run Try.prog w = .ok (.slice (some ⟨w.heap.size, 0, none⟩) 8 8) (w.alloc (.cells (List.replicate 8 (.int .i64 0)).toArray 3)) := fun w => make_I 8 (by omega) w
  go_enter Try.func47, Try.ntmps47
  go_wp2
  have hrow : RowAt ((w.alloc (.cells #[.slice none 0 0, .slice (some ⟨w.heap.size + 1, 0, none⟩) 8 8] 25)).alloc (.cells #[.int .i64 0, .int .i64 0, .int .i64 0, .int .i64 0, .int .i64 0, .int .i64 0, .int .i64 0, .int .i64 0] 3)) (w.heap.size + 1) 3 ((List.replicate 8 0).map (Value.int .i64)) := row_at (by simp)
  exact bodyPost_ret (v := .agg #[.slice none 0 0, .slice (some ⟨w.heap.size + 1, 0, none⟩) 8 8]) (by simp [results, Try.results47, go_sem]) rfl ⟨_, rfl, ⟨_, _, _, _, _, _, rfl, World.ownsRow_nil _ _ _ _, hrow.own (Nat.le_succ _) (by unfold maxLen; decide)⟩, (Ext.alloc _ _).trans (Ext.alloc _ _)⟩

theorem putF_ok {T : List ByteArray} {S : List Int} {s : ByteArray} {T' : List ByteArray} {S' : List Int} {n : Int} (h : TabOK T S) (hp : putF T S s = some (T', S', n)) : TabOK T' S' ∧ (∀ x ∈ T', x ∈ T ∨ x = s) ∧ S'.length ≤ max S.length 4096 ∧ 0 ≤ n ∧ n < T'.length := by
  unfold putF at hp
  split at hp
  · cases hp
    have := findF_range T s
    exact ⟨h, fun x hx => .inl hx, by omega, by omega, by omega⟩
  · rename_i hf
    split at hp
    · cases hp
    · rename_i hn
      cases hp
      have hmost := h.most
      have hs : s ∉ T := findF_no.1 (by have := findF_range T s; omega)
      refine ⟨h.more hs (by omega), fun x hx => ?_, ?_, by omega, by simp; omega⟩
      · rcases List.mem_append.1 hx with h | h
        · exact .inl h
        · exact .inr (by simpa using h)
      · rw [laidN_len]
        unfold moreN
        split <;> omega
/-- One text after another. -/
def allF : List ByteArray → List ByteArray → List Int → List Int → Option (List ByteArray × List Int × List Int)
  | [], T, S, ns => some (T, S, ns)
  | s :: l, T, S, ns => match putF T S s with
    | none => none
    | some (T', S', n) => allF l T' S' (ns ++ [n])
theorem Strs.below {B : Nat} {w w' : World} {v : Value} {ss : List ByteArray} (h : Strs w v ss) (hb : Below B w w') (hB : w.heap.size ≤ B) : Strs w' v ss := Sl.below h hb hB
theorem step_append_sl {P : Program} {w : World} {ops : Array Oper} {o : Oper} {a : Act} {K : Act → World → Prop} {Q : Exit → Act → World → Prop} {E : Prop} (hgd : o.guard = none) (s x : Operand) (t : TypeId)
    (ho : o.op = .call { callee := .builtin .append, args := #[s, x], argTypes := #[t, t] })
    {base : Nat} {e : TypeId} {z : Value} {size bytes : Nat} (T : ElT P t e z size bytes) {v : Value} {n : Nat} {xs : List Value} (hs : a.eval s = v) (hown : w.ownsRow base e size v n xs)
    {u : Value} {m : Nat} {news : List Value} (hx : a.eval x = u) (hu : Sl w u m news) (hl : news.length = m * size)
    (h1 : ∀ x ∈ news, x.oneCell' = true) (hb : (n + m) * bytes ≤ 140737488355328) (h63 : n + m ≤ maxLen) (hbase : base ≤ w.heap.size)
    (h : ∀ v' w', w'.ownsRow base e size v' (n + m) (xs ++ news) → Below base w w' → w.grownBy w' v.ownBlock → AppAt v v' w → K (a.put o.dst v') w') :
    if Region.wanted o (yielded ops a.tmps) = true then Oper.wp P o a w K Q else E := by
  rw [if_pos (by simp [Region.wanted, hgd])]
  exact wp_append_sl w s x t ho T hs hown hx hu hl h1 hb h63 hbase h
theorem row_not_own {w : World} {g base size n : Nat} {t e : TypeId} {xs ys : List Value} {v : Value} (h : RowAt w g t xs) (hne : t ≠ e) (ho : w.ownsRow base e size v n ys) : v.ownBlock ≠ some g := by
  intro hv
  rcases ho.2 with ⟨rfl, _⟩ | ⟨k, cap, cur, rfl, _, hk, _⟩
  · cases hv
  · cases hv
    rw [show w.heap[k]? = _ from h] at hk
    simp only [Option.some.injEq, Obj.cells.injEq] at hk
    exact hne hk.2.1
theorem own_kept_old {w w' : World} {B size n : Nat} {e : TypeId} {v : Value} {xs : List Value} {row : Option Nat} (h : w.ownsRow B e size v n xs) (hg : w.grownBy w' row) (hne : ∀ g, row = some g → g < B) : w'.ownsRow B e size v n xs := by
  refine ⟨h.1, ?_⟩
  rcases h.2 with hn | ⟨k, cap, cur, rfl, hbg, hgg, rest⟩
  · exact .inl hn
  · exact .inr ⟨k, cap, cur, rfl, hbg, (hg.block k (Array.getElem?_eq_some_iff.1 hgg).1 (fun e => by have := hne k e.symm; omega)).trans hgg, rest⟩
theorem own_set_ne {w : World} {B size n : Nat} {e : TypeId} {v : Value} {xs : List Value} (h : w.ownsRow B e size v n xs) {g : Nat} (hg : v.ownBlock ≠ some g) (i : Nat) (u : Value) : (w.setCell ⟨g, i, none⟩ u).ownsRow B e size v n xs := by
  refine ⟨h.1, ?_⟩
  rcases h.2 with hn | ⟨k, cap, cur, rfl, hbg, hgg, rest⟩
  · exact .inl hn
  · exact .inr ⟨k, cap, cur, rfl, hbg, ((grown_set w g i u).block k (Array.getElem?_eq_some_iff.1 hgg).1 (fun e => hg (by cases e; rfl))).trans hgg, rest⟩
theorem TabOwn.set2 {B : Nat} {w : World} {v : Value} {T : List ByteArray} {S : List Int} (h : TabOwn B w v T S) {g : Nat} {t : TypeId} {xs : List Value} (hr : RowAt w g t xs) (h1 : t ≠ 9) (h2 : t ≠ 3) (x y : Value) :
    TabOwn B ((w.setCell ⟨g, 0, none⟩ x).setCell ⟨g, 1, none⟩ y) v T S := by
  obtain ⟨a, n, c, b, m, d, rfl, h3, h4⟩ := h
  have n3 := row_not_own hr h1 h3
  have n4 := row_not_own hr h2 h4
  exact ⟨a, n, c, b, m, d, rfl, own_set_ne (own_set_ne h3 n3 0 x) n3 1 y, own_set_ne (own_set_ne h4 n4 0 x) n4 1 y⟩
def AllPost (w0 : World) (r : Option (List ByteArray × List Int × List Int)) (e : Ending) (w' : World) : Prop := Ext w0 w' ∧
  match r with
  | some (T, S, ns) => ∃ v u, e = .returned (.tuple #[v, u, .int .i64 0]) ∧ TabOwn w0.heap.size w' v T S ∧ w'.ownsRow w0.heap.size 3 1 u ns.length (ns.map (Value.int .i64))
  | none => e = .returned (.tuple #[nilTab, .slice none 0 0, .int .i64 6])

end Go.Proofs.Ytogoejlbdbapoaa

/- Rows held against one another; small, cut, same. -/
namespace Go.Proofs.Ytogoejlbdbapoaa
set_option maxRecDepth 100000
set_option maxHeartbeats 2000000
set_option linter.unusedSimpArgs false
open Go.RowKit Go.Shelf Go.Sort
set_option linter.unusedVariables false

set_option maxHeartbeats 400000 in
theorem equalS (v u : Value) (l m : List ByteArray) (w : World) (hv : Strs w  v l) (hu : Strs w  u m) :
    Calls Try.prog 32 #[v, u] w fun e w' => e = .returned (.bool (decide (l = m))) ∧ ∃ n, w' = w.drewN n := by
  obtain ⟨a, cap, rfl, hcap, hmax⟩ := Sl.shape hv
  obtain ⟨a', cap', rfl, hcap', hmax'⟩ := Sl.shape hu
  by_cases hlen : l.length = m.length
  · have hne : ((l.length : Int) != (m.length : Int)) = false := by simp [hlen]
    have Hlen := Lib.hid hlen
    clear hlen
    go_enter Try.func32, Try.ntmps32
    go_wp2
    go_loopg [13] l.length (fun g i wr => ∃ k n : Nat, k ≤ l.length ∧ g = l.length - k ∧ i = .int .i64 k ∧ wr = w.drewN n ∧ l.take k = m.take k)
    case atStart => exact ⟨0, 0, Nat.zero_le _, rfl, rfl, rfl, rfl⟩
    case round =>
      obtain ⟨k, n, hk, hg, rfl, rfl, heq⟩ := hrel
      have Heq := Lib.hid heq
      have Hg := Lib.hid hg
      clear heq hg
      by_cases hlt : k < l.length
      · have hltm : k < m.length := by have := Hlen.out; omega
        obtain ⟨b, o, rfl, hck⟩ := hv.atD hlt
        obtain ⟨b', o', rfl, hck'⟩ := hu.atD hltm
        have e1 := take_snoc l k hlt
        have e2 := take_snoc m k hltm
        have e3 : l.getD k ⟨#[]⟩ = l[k] := by simp [List.getD, hlt]
        have e4 : m.getD k ⟨#[]⟩ = m[k] := by simp [List.getD, hltm]
        rw [e3] at hck
        rw [e4] at hck'
        generalize l[k] = x at e1 hck
        generalize m[k] = y at e2 hck'
        have E1 := Lib.hid e1
        have E2 := Lib.hid e2
        clear e1 e2 e3 e4
        by_cases hx : x = y
        · have hb1 : (x.toList != y.toList) = false := by rw [hx]; simp
          have hb2 : (x.toList == y.toList) = true := by rw [hx]; simp
          have Hx := Lib.hid hx
          clear hx
          go_wp2
          go_quiet (fail)
          go_wp2
          go_roundg (l.length - (k + 1))
          case measure => have := Hg.out; omega
          case rel => exact ⟨k + 1, _, by omega, rfl, by go_num, rfl, by rw [E1.out, E2.out, Heq.out, Hx.out]⟩
        · have hb2 : (x.toList == y.toList) = false := by exact str_no hx
          have hb1 : (x.toList != y.toList) = true := by unfold bne; rw [hb2]; rfl
          have hno : l ≠ m := fun h => hx (by
            have a1 := E1.out
            have a2 := E2.out
            rw [h, a2] at a1
            have := List.append_cancel_left a1
            simpa using this.symm)
          have Hno := Lib.hid hno
          clear hx hno
          go_wp2
          go_quiet (fail)
          go_wp2
          go_ret
          exact ⟨ret_bool (decide_eq_false Hno.out).symm, _, World.drewN_drewN _ _ _⟩
      · have hl : l = m := by have h1 := Heq.out; have h2 := Hlen.out; rw [List.take_of_length_le (by omega), List.take_of_length_le (by omega)] at h1; exact h1
        have Hl := Lib.hid hl
        clear hl
        go_wp2
        go_ret
        exact ⟨ret_bool (decide_eq_true Hl.out).symm, _, rfl⟩
  · have hne : ((l.length : Int) != (m.length : Int)) = true := by simp; omega
    have hno : l ≠ m := fun h => hlen (by rw [h])
    have Hno := Lib.hid hno
    clear hno hlen
    go_enter Try.func32, Try.ntmps32
    go_wp2
    go_ret
    exact ⟨ret_bool (decide_eq_false Hno.out).symm, 0, rfl⟩
theorem equalS_yes (v u : Value) (l m : List ByteArray) (w : World) (hv : Strs w  v l) (hu : Strs w  u m) (h : l = m) :
    Calls Try.prog 32 #[v, u] w fun e w' => e = .returned (.bool true) ∧ ∃ n, w' = w.drewN n :=
  (equalS v u l m w hv hu).mono fun e w' ⟨he, hx⟩ => ⟨by rw [he, decide_eq_true h], hx⟩
theorem equalS_no (v u : Value) (l m : List ByteArray) (w : World) (hv : Strs w  v l) (hu : Strs w  u m) (h : l ≠ m) :
    Calls Try.prog 32 #[v, u] w fun e w' => e = .returned (.bool false) ∧ ∃ n, w' = w.drewN n :=
  (equalS v u l m w hv hu).mono fun e w' ⟨he, hx⟩ => ⟨by rw [he, decide_eq_false h], hx⟩
set_option maxHeartbeats 400000 in
theorem equalI (v u : Value) (l m : List Int) (w : World) (hv : Ints w .i64 v l) (hu : Ints w .i64 u m) :
    Calls Try.prog 48 #[v, u] w fun e w' => e = .returned (.bool (decide (l = m))) ∧ ∃ n, w' = w.drewN n := by
  obtain ⟨a, cap, rfl, hcap, hmax⟩ := Sl.shape hv
  obtain ⟨a', cap', rfl, hcap', hmax'⟩ := Sl.shape hu
  by_cases hlen : l.length = m.length
  · have hne : ((l.length : Int) != (m.length : Int)) = false := by simp [hlen]
    have Hlen := Lib.hid hlen
    clear hlen
    go_enter Try.func48, Try.ntmps48
    go_wp2
    go_loopg [13] l.length (fun g i wr => ∃ k n : Nat, k ≤ l.length ∧ g = l.length - k ∧ i = .int .i64 k ∧ wr = w.drewN n ∧ l.take k = m.take k)
    case atStart => exact ⟨0, 0, Nat.zero_le _, rfl, rfl, rfl, rfl⟩
    case round =>
      obtain ⟨k, n, hk, hg, rfl, rfl, heq⟩ := hrel
      have Heq := Lib.hid heq
      have Hg := Lib.hid hg
      clear heq hg
      by_cases hlt : k < l.length
      · have hltm : k < m.length := by have := Hlen.out; omega
        obtain ⟨b, o, rfl, hck⟩ := hv.atD hlt
        obtain ⟨b', o', rfl, hck'⟩ := hu.atD hltm
        have e1 := take_snoc l k hlt
        have e2 := take_snoc m k hltm
        have e3 : l.getD k 0 = l[k] := by simp [List.getD, hlt]
        have e4 : m.getD k 0 = m[k] := by simp [List.getD, hltm]
        rw [e3] at hck
        rw [e4] at hck'
        generalize l[k] = x at e1 hck
        generalize m[k] = y at e2 hck'
        have E1 := Lib.hid e1
        have E2 := Lib.hid e2
        clear e1 e2 e3 e4
        by_cases hx : x = y
        · have hb1 : (x != y) = false := by rw [hx]; simp
          have hb2 : (x == y) = true := by rw [hx]; simp
          have Hx := Lib.hid hx
          clear hx
          go_wp2
          go_quiet (fail)
          go_wp2
          go_roundg (l.length - (k + 1))
          case measure => have := Hg.out; omega
          case rel => exact ⟨k + 1, _, by omega, rfl, by go_num, rfl, by rw [E1.out, E2.out, Heq.out, Hx.out]⟩
        · have hb2 : (x == y) = false := by simpa using hx
          have hb1 : (x != y) = true := by unfold bne; rw [hb2]; rfl
          have hno : l ≠ m := fun h => hx (by
            have a1 := E1.out
            have a2 := E2.out
            rw [h, a2] at a1
            have := List.append_cancel_left a1
            simpa using this.symm)
          have Hno := Lib.hid hno
          clear hx hno
          go_wp2
          go_quiet (fail)
          go_wp2
          go_ret
          exact ⟨ret_bool (decide_eq_false Hno.out).symm, _, World.drewN_drewN _ _ _⟩
      · have hl : l = m := by have h1 := Heq.out; have h2 := Hlen.out; rw [List.take_of_length_le (by omega), List.take_of_length_le (by omega)] at h1; exact h1
        have Hl := Lib.hid hl
        clear hl
        go_wp2
        go_ret
        exact ⟨ret_bool (decide_eq_true Hl.out).symm, _, rfl⟩
  · have hne : ((l.length : Int) != (m.length : Int)) = true := by simp; omega
    have hno : l ≠ m := fun h => hlen (by rw [h])
    have Hno := Lib.hid hno
    clear hno hlen
    go_enter Try.func48, Try.ntmps48
    go_wp2
    go_ret
    exact ⟨ret_bool (decide_eq_false Hno.out).symm, 0, rfl⟩
theorem equalI_yes (v u : Value) (l m : List Int) (w : World) (hv : Ints w .i64 v l) (hu : Ints w .i64 u m) (h : l = m) :
    Calls Try.prog 48 #[v, u] w fun e w' => e = .returned (.bool true) ∧ ∃ n, w' = w.drewN n :=
  (equalI v u l m w hv hu).mono fun e w' ⟨he, hx⟩ => ⟨by rw [he, decide_eq_true h], hx⟩
theorem equalI_no (v u : Value) (l m : List Int) (w : World) (hv : Ints w .i64 v l) (hu : Ints w .i64 u m) (h : l ≠ m) :
    Calls Try.prog 48 #[v, u] w fun e w' => e = .returned (.bool false) ∧ ∃ n, w' = w.drewN n :=
  (equalI v u l m w hv hu).mono fun e w' ⟨he, hx⟩ => ⟨by rw [he, decide_eq_false h], hx⟩
end Go.Proofs.Ytogoejlbdbapoaa

/- small, cut, same. -/
namespace Go.Proofs.Ytogoejlbdbapoaa
set_option maxRecDepth 100000
set_option maxHeartbeats 2000000
set_option linter.unusedSimpArgs false
open Go.RowKit Go.Shelf Go.Sort
set_option linter.unusedVariables false

theorem run_cut_str (s : ByteArray) (n : Nat) (i : Int) (hi : i = n) (h : n ≤ s.size) (w : World) :
    (Instr.slice 9 (.string s) none (some (.int .i64 i)) none).run Try.prog w = .ok (.string (s.extract 0 n)) w := by
  subst hi
  rw [run_slice_string_h w 9 s Try.underlying9 .i64 (n : Int) (by omega) (by omega)]
  rfl
theorem ba_cut_size (s : ByteArray) (n : Nat) (h : n ≤ s.size) : (s.extract 0 n).size = n := by rw [ByteArray.size_extract]; omega
def cutT (s : ByteArray) : ByteArray := s.extract 0 (min s.size 60)
theorem cutT_size (s : ByteArray) : (cutT s).size ≤ 60 := by unfold cutT; rw [ba_cut_size _ _ (by omega)]; omega
end Go.Proofs.Ytogoejlbdbapoaa

/- What wakes the layer. -/
namespace Go.Proofs.Ytogoejlbdbapoaa
set_option maxRecDepth 100000
set_option maxHeartbeats 2000000
set_option linter.unusedSimpArgs false
open Go.RowKit Go.Shelf Go.Sort
set_option linter.unusedVariables false

theorem tabOK_new : TabOK [] (List.replicate 8 0) := by
  refine ⟨⟨0, by simp⟩, by simp, by simp, Laid.nil [] 8⟩
def strA : ByteArray := ⟨#[97]⟩
def strB : ByteArray := ⟨#[98]⟩
theorem putF_new {T : List ByteArray} {S : List Int} {s : ByteArray} (h : TabOK T S) (hs : s ∉ T) (hn : T.length < 1024) : ∃ S', putF T S s = some (T ++ [s], S', (T.length : Int)) := by
  refine ⟨laidN (T ++ [s]) (moreN T S.length) (T.length + 1), ?_⟩
  unfold putF
  rw [findF_no.2 hs, if_neg (by omega), if_neg (by omega)]
theorem putF_old {T : List ByteArray} {S : List Int} {s : ByteArray} (h : TabOK T S) {n : Nat} (hn : n < T.length) (hs : T[n] = s) : putF T S s = some (T, S, (n : Int)) := by
  unfold putF
  rw [← hs, findF_distinct h.distinct hn, if_pos (by omega)]
theorem wakes_plain : ∃ T S, allF [strB, strA, strB] [] (List.replicate 8 0) [] = some (T, S, [0, 1, 0]) ∧ T = [strB, strA] ∧ TabOK T S ∧ S.length ≤ 4096 := by
  obtain ⟨S1, h1⟩ := putF_new tabOK_new (s := strB) (by simp) (by simp)
  have o1 := putF_ok tabOK_new h1
  obtain ⟨S2, h2⟩ := putF_new o1.1 (s := strA) (fun h => by simp at h; exact absurd h (by decide)) (by simp)
  have o2 := putF_ok o1.1 h2
  have h3 := putF_old o2.1 (n := 0) (by simp) (s := strB) rfl
  refine ⟨[strB, strA], S2, ?_, rfl, o2.1, by have := o1.2.2.1; have := o2.2.2.1; simp at *; omega⟩
  simp only [allF, h1, h2, h3]
  rfl

end Go.Proofs.Ytogoejlbdbapoaa
