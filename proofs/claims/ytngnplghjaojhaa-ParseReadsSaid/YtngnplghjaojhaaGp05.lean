/- What a text begins with. -/
import Derived.Test.YtngnplghjaojhaaGp04
import Derived.ScopeJumps
import Derived.Test.YtngnplghjaojhaaGp01
import Derived.Deep.Fields
import Derived.ChangeSame
namespace Go.Proofs.Ytngnplghjaojhaa
set_option maxRecDepth 100000
set_option maxHeartbeats 2000000
set_option linter.unusedVariables false
set_option linter.unusedSimpArgs false
open Go.RowKit

theorem begin_any (s : ByteArray) (w : World) (hs : s.size ≤ 9223372036854775807) :
    Calls Try.prog 63 #[.string s] w fun e w' => e = .returned (begV (begL (bts s))) ∧ Ext w w' := by
  go_enter Try.func63, Try.ntmps63
  go_upto_region 2 with fail
  have hbw : ∀ (o1 o2 o3 : Obj), o1 = (.cells #[.string s] 9) → (((w.alloc o1).alloc o2).alloc o3).cell? ⟨w.heap.size, 0, none⟩ = some (.string s) := fun o1 o2 o3 h => by
    subst h
    exact ext_cell (Ext.alloc _ _) (ext_cell (Ext.alloc _ _) ((RowAt.new w 9 [.string s]).facts1.1))
  have hrw : ∀ (o1 o3 : Obj), RowAt (((w.alloc o1).alloc (.cells #[.int .i64 0, .string ⟨#[]⟩, .int .i64 0] 39)).alloc o3) (w.heap.size + 1) 39 [.int .i64 0, .string ⟨#[]⟩, .int .i64 0] := fun o1 o3 =>
    (row_at (by simp)).ext (Ext.alloc _ _)
  have HB0 := fun o2 o3 => hbw _ o2 o3 rfl
  have i0 : ∀ w', (Instr.index 129 (.agg #[.func (.func 88) #[] #[.pointer (some ⟨w.heap.size, 0, none⟩)], .func (.func 90) #[] #[.pointer (some ⟨w.heap.size, 0, none⟩)], .func (.func 92) #[] #[.pointer (some ⟨w.heap.size, 0, none⟩)], .func (.func 95) #[] #[.pointer (some ⟨w.heap.size, 0, none⟩)]]) (.int .i64 0)).run Try.prog w' = .ok (.func (.func 88) #[] #[.pointer (some ⟨w.heap.size, 0, none⟩)]) w' := fun _ => by kernel_rfl
  have i1 : ∀ w', (Instr.index 129 (.agg #[.func (.func 88) #[] #[.pointer (some ⟨w.heap.size, 0, none⟩)], .func (.func 90) #[] #[.pointer (some ⟨w.heap.size, 0, none⟩)], .func (.func 92) #[] #[.pointer (some ⟨w.heap.size, 0, none⟩)], .func (.func 95) #[] #[.pointer (some ⟨w.heap.size, 0, none⟩)]]) (.int .i64 1)).run Try.prog w' = .ok (.func (.func 90) #[] #[.pointer (some ⟨w.heap.size, 0, none⟩)]) w' := fun _ => by kernel_rfl
  have i2 : ∀ w', (Instr.index 129 (.agg #[.func (.func 88) #[] #[.pointer (some ⟨w.heap.size, 0, none⟩)], .func (.func 90) #[] #[.pointer (some ⟨w.heap.size, 0, none⟩)], .func (.func 92) #[] #[.pointer (some ⟨w.heap.size, 0, none⟩)], .func (.func 95) #[] #[.pointer (some ⟨w.heap.size, 0, none⟩)]]) (.int .i64 2)).run Try.prog w' = .ok (.func (.func 92) #[] #[.pointer (some ⟨w.heap.size, 0, none⟩)]) w' := fun _ => by kernel_rfl
  have i3 : ∀ w', (Instr.index 129 (.agg #[.func (.func 88) #[] #[.pointer (some ⟨w.heap.size, 0, none⟩)], .func (.func 90) #[] #[.pointer (some ⟨w.heap.size, 0, none⟩)], .func (.func 92) #[] #[.pointer (some ⟨w.heap.size, 0, none⟩)], .func (.func 95) #[] #[.pointer (some ⟨w.heap.size, 0, none⟩)]]) (.int .i64 3)).run Try.prog w' = .ok (.func (.func 95) #[] #[.pointer (some ⟨w.heap.size, 0, none⟩)]) w' := fun _ => by kernel_rfl
  go_wp2_with fail
  have hR := hrw (.cells #[.string s] 9) (.cells #[.func (.func 88) #[] #[.pointer (some ⟨w.heap.size, 0, none⟩)], .func (.func 90) #[] #[.pointer (some ⟨w.heap.size, 0, none⟩)], .func (.func 92) #[] #[.pointer (some ⟨w.heap.size, 0, none⟩)], .func (.func 95) #[] #[.pointer (some ⟨w.heap.size, 0, none⟩)]] 129)
  have hB := HB0 (.cells #[.int .i64 0, .string ⟨#[]⟩, .int .i64 0] 39) (.cells #[.func (.func 88) #[] #[.pointer (some ⟨w.heap.size, 0, none⟩)], .func (.func 90) #[] #[.pointer (some ⟨w.heap.size, 0, none⟩)], .func (.func 92) #[] #[.pointer (some ⟨w.heap.size, 0, none⟩)], .func (.func 95) #[] #[.pointer (some ⟨w.heap.size, 0, none⟩)]] 129)
  have hx0 : Ext w (((w.alloc (.cells #[.string s] 9)).alloc (.cells #[.int .i64 0, .string ⟨#[]⟩, .int .i64 0] 39)).alloc (.cells #[.func (.func 88) #[] #[.pointer (some ⟨w.heap.size, 0, none⟩)], .func (.func 90) #[] #[.pointer (some ⟨w.heap.size, 0, none⟩)], .func (.func 92) #[] #[.pointer (some ⟨w.heap.size, 0, none⟩)], .func (.func 95) #[] #[.pointer (some ⟨w.heap.size, 0, none⟩)]] 129)) := ((Ext.alloc _ _).trans (Ext.alloc _ _)).trans (Ext.alloc _ _)
  generalize (((w.alloc (.cells #[.string s] 9)).alloc (.cells #[.int .i64 0, .string ⟨#[]⟩, .int .i64 0] 39)).alloc (.cells #[.func (.func 88) #[] #[.pointer (some ⟨w.heap.size, 0, none⟩)], .func (.func 90) #[] #[.pointer (some ⟨w.heap.size, 0, none⟩)], .func (.func 92) #[] #[.pointer (some ⟨w.heap.size, 0, none⟩)], .func (.func 95) #[] #[.pointer (some ⟨w.heap.size, 0, none⟩)]] 129)) = w3 at *
  clear hbw hrw HB0
  have HR := Lib.hid hR
  have HB := Lib.hid hB
  clear hR hB
  go_loopg [15] 5 (fun g i wr => Ext w3 wr ∧ ((g = 5 ∧ i = .int .i64 0) ∨ (g = 4 ∧ i = .int .i64 1 ∧ ¬ 0 < (ask1 (bts s)).2.2) ∨ (g = 3 ∧ i = .int .i64 2 ∧ ¬ 0 < (ask1 (bts s)).2.2 ∧ ¬ 0 < (ask2 (bts s)).2.2) ∨ (g = 2 ∧ i = .int .i64 3 ∧ ¬ 0 < (ask1 (bts s)).2.2 ∧ ¬ 0 < (ask2 (bts s)).2.2 ∧ ¬ 0 < (ask3 (bts s)).2.2) ∨ (g = 1 ∧ i = .int .i64 4 ∧ ¬ 0 < (ask1 (bts s)).2.2 ∧ ¬ 0 < (ask2 (bts s)).2.2 ∧ ¬ 0 < (ask3 (bts s)).2.2 ∧ ¬ 0 < (ask4 (bts s)).2.2)))
  case atStart => exact ⟨Ext.refl _, .inl ⟨rfl, rfl⟩⟩
  case round =>
    obtain ⟨hxr, hrel⟩ := hrel
    rcases hrel with ⟨rfl, rfl⟩ | ⟨rfl, rfl, n1⟩ | ⟨rfl, rfl, n1, n2⟩ | ⟨rfl, rfl, n1, n2, n3⟩ | ⟨rfl, rfl, n1, n2, n3, n4⟩
    · have N := Lib.hid (True.intro)
      try clear n1
      try clear n2
      try clear n3
      go_wp2_with fail
      refine (ask1_any s _ _ hs (ext_cell hxr HB.out)).mono ?_
      rintro e w4 ⟨rfl, hx4⟩
      by_cases h : 0 < (ask1 (bts s)).2.2
      · have HF : Hid (begL (bts s) = ask1 (bts s)) := Lib.hid (begL_1 h)
        unfold begV tokV
        generalize ask1 (bts s) = r at h HF
        obtain ⟨rk, rt, rn⟩ := r
        obtain ⟨c0, c1, c2, f0, f1, f2⟩ := ((HR.out.ext hxr).ext hx4).facts3
        have hlt4 := ((HR.out.ext hxr).ext hx4).lt
        dsimp only at h ⊢
        clear N
        go_wp2_with fail
        exact bodyPost_ret (v := begV (rk, rt, rn)) (by simp [results, Try.results63, go_sem, c0, c1, c2, hlt4, begV, tokV]) rfl ⟨by rw [HF.out], (by repeat (first | exact Ext.refl _ | with_reducible assumption | with_reducible refine Ext.alloc_of ?_ _ | with_reducible refine Ext.drewN_of ?_ _ | with_reducible refine Ext.drew_of ?_ | (with_reducible refine Ext.set_of ?_ ?hsz _; case hsz => ((first | exact Nat.le_refl _ | omega | (simp; omega)))) | with_reducible refine Ext.via (by assumption) ?_))⟩
      · have HH : Hid (¬ 0 < (ask1 (bts s)).2.2) := Lib.hid h
        have h0 : (ask1 (bts s)).2.2 = 0 := by omega
        unfold begV tokV
        rw [h0]
        generalize (ask1 (bts s)).1 = rk
        generalize (ask1 (bts s)).2.1 = rt
        clear h h0
        go_wp2_with fail
        have h := HH.out
        go_roundg 4
        case measure => omega
        case rel => exact ⟨(by repeat (first | exact Ext.refl _ | with_reducible assumption | with_reducible refine Ext.alloc_of ?_ _ | with_reducible refine Ext.drewN_of ?_ _ | with_reducible refine Ext.drew_of ?_ | (with_reducible refine Ext.set_of ?_ ?hsz _; case hsz => ((first | exact Nat.le_refl _ | omega | (simp; omega)))) | with_reducible refine Ext.via (by assumption) ?_)), .inr (.inl ⟨rfl, rfl, h⟩)⟩
    · have N := Lib.hid n1
      try clear n1
      try clear n2
      try clear n3
      go_wp2_with fail
      refine (ask2_any s _ _ hs (ext_cell hxr HB.out)).mono ?_
      rintro e w4 ⟨rfl, hx4⟩
      by_cases h : 0 < (ask2 (bts s)).2.2
      · have HF : Hid (begL (bts s) = ask2 (bts s)) := Lib.hid (begL_2 N.out h)
        unfold begV tokV
        generalize ask2 (bts s) = r at h HF
        obtain ⟨rk, rt, rn⟩ := r
        obtain ⟨c0, c1, c2, f0, f1, f2⟩ := ((HR.out.ext hxr).ext hx4).facts3
        have hlt4 := ((HR.out.ext hxr).ext hx4).lt
        dsimp only at h ⊢
        clear N
        go_wp2_with fail
        exact bodyPost_ret (v := begV (rk, rt, rn)) (by simp [results, Try.results63, go_sem, c0, c1, c2, hlt4, begV, tokV]) rfl ⟨by rw [HF.out], (by repeat (first | exact Ext.refl _ | with_reducible assumption | with_reducible refine Ext.alloc_of ?_ _ | with_reducible refine Ext.drewN_of ?_ _ | with_reducible refine Ext.drew_of ?_ | (with_reducible refine Ext.set_of ?_ ?hsz _; case hsz => ((first | exact Nat.le_refl _ | omega | (simp; omega)))) | with_reducible refine Ext.via (by assumption) ?_))⟩
      · have HH : Hid (¬ 0 < (ask2 (bts s)).2.2) := Lib.hid h
        have h0 : (ask2 (bts s)).2.2 = 0 := by omega
        unfold begV tokV
        rw [h0]
        generalize (ask2 (bts s)).1 = rk
        generalize (ask2 (bts s)).2.1 = rt
        clear h h0
        go_wp2_with fail
        have h := HH.out
        go_roundg 3
        case measure => omega
        case rel => exact ⟨(by repeat (first | exact Ext.refl _ | with_reducible assumption | with_reducible refine Ext.alloc_of ?_ _ | with_reducible refine Ext.drewN_of ?_ _ | with_reducible refine Ext.drew_of ?_ | (with_reducible refine Ext.set_of ?_ ?hsz _; case hsz => ((first | exact Nat.le_refl _ | omega | (simp; omega)))) | with_reducible refine Ext.via (by assumption) ?_)), .inr (.inr (.inl ⟨rfl, rfl, N.out, h⟩))⟩
    · have N := Lib.hid (And.intro n1 n2)
      try clear n1
      try clear n2
      try clear n3
      go_wp2_with fail
      refine (ask3_any s _ _ hs (ext_cell hxr HB.out)).mono ?_
      rintro e w4 ⟨rfl, hx4⟩
      by_cases h : 0 < (ask3 (bts s)).2.2
      · have HF : Hid (begL (bts s) = ask3 (bts s)) := Lib.hid (begL_3 N.out.1 N.out.2 h)
        unfold begV tokV
        generalize ask3 (bts s) = r at h HF
        obtain ⟨rk, rt, rn⟩ := r
        obtain ⟨c0, c1, c2, f0, f1, f2⟩ := ((HR.out.ext hxr).ext hx4).facts3
        have hlt4 := ((HR.out.ext hxr).ext hx4).lt
        dsimp only at h ⊢
        clear N
        go_wp2_with fail
        exact bodyPost_ret (v := begV (rk, rt, rn)) (by simp [results, Try.results63, go_sem, c0, c1, c2, hlt4, begV, tokV]) rfl ⟨by rw [HF.out], (by repeat (first | exact Ext.refl _ | with_reducible assumption | with_reducible refine Ext.alloc_of ?_ _ | with_reducible refine Ext.drewN_of ?_ _ | with_reducible refine Ext.drew_of ?_ | (with_reducible refine Ext.set_of ?_ ?hsz _; case hsz => ((first | exact Nat.le_refl _ | omega | (simp; omega)))) | with_reducible refine Ext.via (by assumption) ?_))⟩
      · have HH : Hid (¬ 0 < (ask3 (bts s)).2.2) := Lib.hid h
        have h0 : (ask3 (bts s)).2.2 = 0 := by omega
        unfold begV tokV
        rw [h0]
        generalize (ask3 (bts s)).1 = rk
        generalize (ask3 (bts s)).2.1 = rt
        clear h h0
        go_wp2_with fail
        have h := HH.out
        go_roundg 2
        case measure => omega
        case rel => exact ⟨(by repeat (first | exact Ext.refl _ | with_reducible assumption | with_reducible refine Ext.alloc_of ?_ _ | with_reducible refine Ext.drewN_of ?_ _ | with_reducible refine Ext.drew_of ?_ | (with_reducible refine Ext.set_of ?_ ?hsz _; case hsz => ((first | exact Nat.le_refl _ | omega | (simp; omega)))) | with_reducible refine Ext.via (by assumption) ?_)), .inr (.inr (.inr (.inl ⟨rfl, rfl, N.out.1, N.out.2, h⟩)))⟩
    · have N := Lib.hid (And.intro n1 (And.intro n2 n3))
      try clear n1
      try clear n2
      try clear n3
      go_wp2_with fail
      refine (ask4_any s _ _ hs (ext_cell hxr HB.out)).mono ?_
      rintro e w4 ⟨rfl, hx4⟩
      by_cases h : 0 < (ask4 (bts s)).2.2
      · have HF : Hid (begL (bts s) = ask4 (bts s)) := Lib.hid (begL_4 N.out.1 N.out.2.1 N.out.2.2)
        unfold begV tokV
        generalize ask4 (bts s) = r at h HF
        obtain ⟨rk, rt, rn⟩ := r
        obtain ⟨c0, c1, c2, f0, f1, f2⟩ := ((HR.out.ext hxr).ext hx4).facts3
        have hlt4 := ((HR.out.ext hxr).ext hx4).lt
        dsimp only at h ⊢
        clear N
        go_wp2_with fail
        exact bodyPost_ret (v := begV (rk, rt, rn)) (by simp [results, Try.results63, go_sem, c0, c1, c2, hlt4, begV, tokV]) rfl ⟨by rw [HF.out], (by repeat (first | exact Ext.refl _ | with_reducible assumption | with_reducible refine Ext.alloc_of ?_ _ | with_reducible refine Ext.drewN_of ?_ _ | with_reducible refine Ext.drew_of ?_ | (with_reducible refine Ext.set_of ?_ ?hsz _; case hsz => ((first | exact Nat.le_refl _ | omega | (simp; omega)))) | with_reducible refine Ext.via (by assumption) ?_))⟩
      · have HH : Hid (¬ 0 < (ask4 (bts s)).2.2) := Lib.hid h
        have h0 : (ask4 (bts s)).2.2 = 0 := by omega
        unfold begV tokV
        rw [h0]
        generalize (ask4 (bts s)).1 = rk
        generalize (ask4 (bts s)).2.1 = rt
        clear h h0
        go_wp2_with fail
        have h := HH.out
        go_roundg 1
        case measure => omega
        case rel => exact ⟨(by repeat (first | exact Ext.refl _ | with_reducible assumption | with_reducible refine Ext.alloc_of ?_ _ | with_reducible refine Ext.drewN_of ?_ _ | with_reducible refine Ext.drew_of ?_ | (with_reducible refine Ext.set_of ?_ ?hsz _; case hsz => ((first | exact Nat.le_refl _ | omega | (simp; omega)))) | with_reducible refine Ext.via (by assumption) ?_)), .inr (.inr (.inr (.inr ⟨rfl, rfl, N.out.1, N.out.2.1, N.out.2.2, h⟩)))⟩
    · have HF := Lib.hid ((begL_4 n1 n2 n3).trans (ask4_zero n4))
      obtain ⟨c0, c1, c2, f0, f1, f2⟩ := (HR.out.ext hxr).facts3
      clear n1 n2 n3 n4
      go_wp2_with fail
      exact bodyPost_ret (v := begV begNo) (by simp [results, Try.results63, go_sem, c0, c1, c2, begV, tokV, begNo, txt]) rfl ⟨by rw [HF.out], (by repeat (first | exact Ext.refl _ | with_reducible assumption | with_reducible refine Ext.alloc_of ?_ _ | with_reducible refine Ext.drewN_of ?_ _ | with_reducible refine Ext.drew_of ?_ | (with_reducible refine Ext.set_of ?_ ?hsz _; case hsz => ((first | exact Nat.le_refl _ | omega | (simp; omega)))) | with_reducible refine Ext.via (by assumption) ?_))⟩
end Go.Proofs.Ytngnplghjaojhaa

/- What stands for a token; which may be. -/
namespace Go.Proofs.Ytngnplghjaojhaa
set_option maxRecDepth 100000
set_option maxHeartbeats 2000000
set_option linter.unusedVariables false
set_option linter.unusedSimpArgs false
open Go.RowKit

def tkV (t : Tk) : Value := .agg #[.int .i64 t.kind, .string t.text, .int .i64 t.at_]

theorem stands_sign (t : Tk) (w : World) (h1 : (t.kind == 1) = false) (h2 : (t.kind == 2) = false) (h3 : (t.kind == 3) = false) (x : List UInt8)
    (hl : ∀ w' b, MapAt (.int .i64) w' b signKV → (Instr.lookup 107 (.map (some b)) (.int .i64 t.kind) false).run Try.prog w' = .ok (.agg #[.string (txt x)]) w') :
    Calls Try.prog 35 #[tkV t] w fun e w' => e = .returned (.string (txt x)) ∧ Ext w w' := by
  obtain ⟨tk, tt, ta⟩ := t
  unfold tkV
  dsimp only at *
  have Hl := Lib.hid hl
  clear hl
  have hr := RowAt.new w 39 [.int .i64 tk, .string tt, .int .i64 ta]
  go_enter Try.func35, Try.ntmps35
  go_upto_region 8 with fail
  have hx0 := Ext.alloc w (.cells #[.int .i64 tk, .string tt, .int .i64 ta] 39)
  generalize w.alloc (.cells #[.int .i64 tk, .string tt, .int .i64 ta] 39) = w1 at *
  obtain ⟨c0, c1, c2, f0, f1, f2⟩ := hr.facts3
  have HR := Lib.hid hr
  clear hr
  have hfd : ∀ w', (Instr.field 106 (.agg #[.string (txt x)]) 0).run Try.prog w' = .ok (.string (txt x)) w' := fun _ => by kernel_rfl
  go_region_with (go_at_call 64; refine (signs_any _).mono ?_; rintro e w2 ⟨rfl, hm, hx, hsz⟩; have hm2 : MapAt (.int .i64) w2 w1.heap.size signKV := hm; have hlk := Hl.out _ _ hm2; have hx1 : Ext w1 w2 := Ext.trans (by first | exact Ext.refl _ | exact Ext.drewN w1 1) hx; have d0 := ext_cell hx1 c0; clear hsz hm hm2)
  all_goals go_wp2
  all_goals exact bodyPost_ret (v := .string (txt x)) (by simp [results, Try.results35, go_sem, Act.put]) rfl ⟨rfl, (by repeat (first | exact Ext.refl _ | with_reducible assumption | with_reducible refine Ext.alloc_of ?_ _ | with_reducible refine Ext.drewN_of ?_ _ | with_reducible refine Ext.drew_of ?_ | (with_reducible refine Ext.set_of ?_ ?hsz _; case hsz => ((first | exact Nat.le_refl _ | omega | (simp; omega)))) | with_reducible refine Ext.via (by assumption) ?_))⟩

theorem sign_at {k : Int} {x : List UInt8} (h : (k, x) ∈ signs) : ∃ j : Nat, signKV[j]? = some (.int .i64 k, .agg #[.string (txt x)]) := by
  have hk : (Value.int .i64 k, Value.agg #[.string (txt x)]) ∈ signKV := List.mem_map.2 ⟨(k, x), h, rfl⟩
  obtain ⟨j, hj, e⟩ := List.getElem_of_mem hk
  exact ⟨j, by rw [List.getElem?_eq_getElem hj, e]⟩
theorem sign_not {k : Int} (h : ∀ x ∈ signs, x.1 ≠ k) : ∀ p ∈ signKV, p.1 ≠ .int .i64 k := fun p hp e => by
  obtain ⟨x, hx, rfl⟩ := List.mem_map.1 hp
  exact h x hx (by simpa using e)
theorem stands_any (t : Tk) (w : World) (hs : t.text.size ≤ 9223372036854775800) :
    Calls Try.prog 35 #[tkV t] w fun e w' => e = .returned (.string (txt t.stands)) ∧ Ext w w' := by
  by_cases h1 : t.kind = 1
  · obtain ⟨tk, tt, ta⟩ := t
    obtain rfl : tk = 1 := h1
    unfold tkV Tk.stands
    dsimp only at *
    go_enter Try.func35, Try.ntmps35
    go_wp2
    go_ret
    exact ⟨by simp [standsL, txt_bts], (by repeat (first | exact Ext.refl _ | with_reducible assumption | with_reducible refine Ext.alloc_of ?_ _ | with_reducible refine Ext.drewN_of ?_ _ | with_reducible refine Ext.drew_of ?_ | (with_reducible refine Ext.set_of ?_ ?hsz _; case hsz => ((first | exact Nat.le_refl _ | omega | (simp; omega)))) | with_reducible refine Ext.via (by assumption) ?_))⟩
  by_cases h2 : t.kind = 2
  · obtain ⟨tk, tt, ta⟩ := t
    obtain rfl : tk = 2 := h2
    unfold tkV Tk.stands
    dsimp only at *
    go_enter Try.func35, Try.ntmps35
    go_wp2
    go_ret
    exact ⟨by
      have e : txt (standsL 2 (bts tt)) = (⟨#[64]⟩ : ByteArray) ++ tt := bts_inj (by rw [bts_txt, bts_append]; rfl)
      rw [e]; rfl, (by repeat (first | exact Ext.refl _ | with_reducible assumption | with_reducible refine Ext.alloc_of ?_ _ | with_reducible refine Ext.drewN_of ?_ _ | with_reducible refine Ext.drew_of ?_ | (with_reducible refine Ext.set_of ?_ ?hsz _; case hsz => ((first | exact Nat.le_refl _ | omega | (simp; omega)))) | with_reducible refine Ext.via (by assumption) ?_))⟩
  by_cases h3 : t.kind = 3
  · obtain ⟨tk, tt, ta⟩ := t
    obtain rfl : tk = 3 := h3
    unfold tkV Tk.stands
    dsimp only at *
    go_enter Try.func35, Try.ntmps35
    go_wp2
    go_ret
    exact ⟨by
      have e : txt (standsL 3 (bts tt)) = (⟨#[34]⟩ : ByteArray) ++ tt ++ ⟨#[34]⟩ := bts_inj (by rw [bts_txt, bts_append, bts_append]; rfl)
      rw [e]; rfl, (by repeat (first | exact Ext.refl _ | with_reducible assumption | with_reducible refine Ext.alloc_of ?_ _ | with_reducible refine Ext.drewN_of ?_ _ | with_reducible refine Ext.drew_of ?_ | (with_reducible refine Ext.set_of ?_ ?hsz _; case hsz => ((first | exact Nat.le_refl _ | omega | (simp; omega)))) | with_reducible refine Ext.via (by assumption) ?_))⟩
  have hf : ∀ {x : Int}, t.kind ≠ x → (t.kind == x) = false := fun h => by simpa using h
  by_cases hx : ∃ x, (t.kind, x) ∈ signs
  · obtain ⟨x, hx⟩ := hx
    obtain ⟨j, hj⟩ := sign_at hx
    unfold Tk.stands
    rw [standsL_sign hx]
    exact stands_sign t w (hf h1) (hf h2) (hf h3) x (fun w' b hm => run_get_yes Try.underlying107 Try.underlying3 hm (isKey_i64 _) hj false)
  · have hn : ∀ x ∈ signs, x.1 ≠ t.kind := fun x hm e => hx ⟨x.2, by rw [← e]; exact hm⟩
    unfold Tk.stands
    rw [standsL_none h1 h2 h3 hn]
    exact stands_sign t w (hf h1) (hf h2) (hf h3) [] (fun w' b hm => run_get_no Try.underlying107 Try.underlying3 hm (isKey_i64 _) (sign_not hn) (by kernel_rfl) false)
end Go.Proofs.Ytngnplghjaojhaa

/- Which tokens may be; what stands for them. -/
namespace Go.Proofs.Ytngnplghjaojhaa
set_option maxRecDepth 100000
set_option maxHeartbeats 2000000
set_option linter.unusedVariables false
set_option linter.unusedSimpArgs false
open Go.RowKit

theorem standsL_len (k : Int) (l : List UInt8) : (standsL k l).length ≤ l.length + 3 := by
  by_cases hx : ∃ x, (k, x) ∈ signs
  · obtain ⟨x, hx⟩ := hx
    rw [standsL_sign hx]
    have : ∀ y ∈ signs, y.2.length ≤ 3 := by decide
    have := this _ hx
    dsimp only at this; omega
  · unfold standsL
    split
    · omega
    split
    · simp
    split
    · simp
    · rw [List.find?_eq_none.2 (fun x hm => by simp; intro e; exact hx ⟨x.2, by rw [← e]; exact hm⟩)]; simp
/-- The number of the error: of what may be none. -/
def checkC (b : Bool) : Int := if b then 0 else 250
theorem check_any (t : Tk) (w : World) (hs : t.text.size ≤ 9223372036854775800) :
    Calls Try.prog 34 #[tkV t] w fun e w' => e = .returned (.int .i64 (checkC t.check)) ∧ Ext w w' := by
  obtain ⟨tk, tt, ta⟩ := t
  have hst := stands_any ⟨tk, tt, ta⟩
  have hlen : (txt (Tk.stands ⟨tk, tt, ta⟩)).size ≤ 9223372036854775803 := by
    rw [txt_size]; unfold Tk.stands; have := standsL_len tk (bts tt); rw [bts_len] at this; dsimp only at *; omega
  have hbe := begin_any (txt (Tk.stands ⟨tk, tt, ta⟩))
  rw [bts_txt] at hbe
  have hchk : Tk.check ⟨tk, tt, ta⟩ = (decide ((begL (Tk.stands ⟨tk, tt, ta⟩)).2.2 ≠ 0) && decide ((begL (Tk.stands ⟨tk, tt, ta⟩)).2.2 = (txt (Tk.stands ⟨tk, tt, ta⟩)).size) && decide ((begL (Tk.stands ⟨tk, tt, ta⟩)).1 = tk) && decide (txt (begL (Tk.stands ⟨tk, tt, ta⟩)).2.1 = tt) && decide (0 ≤ ta)) := by
    rw [txt_size]
    have : decide (txt (begL (Tk.stands ⟨tk, tt, ta⟩)).2.1 = tt) = decide ((begL (Tk.stands ⟨tk, tt, ta⟩)).2.1 = bts tt) := by
      rw [Bool.eq_iff_iff, decide_eq_true_iff, decide_eq_true_iff]
      exact ⟨fun h => by have := congrArg bts h; rwa [bts_txt] at this, fun h => by rw [h, txt_bts]⟩
    rw [this]
    rfl
  generalize Tk.stands ⟨tk, tt, ta⟩ = st at *
  generalize txt st = s at *
  generalize begL st = r at *
  obtain ⟨rk, rt, rn⟩ := r
  unfold begV tokV at hbe
  dsimp only at *
  have HC := Lib.hid hchk
  have hr := RowAt.new w 39 [.int .i64 tk, .string tt, .int .i64 ta]
  have HST := Lib.hid hst
  have HBE := Lib.hid hbe
  clear hchk hst hbe
  unfold tkV
  go_enter Try.func34, Try.ntmps34
  go_upto_region 1 with fail
  have hx0 := Ext.alloc w (.cells #[.int .i64 tk, .string tt, .int .i64 ta] 39)
  generalize w.alloc (.cells #[.int .i64 tk, .string tt, .int .i64 ta] 39) = w1 at *
  obtain ⟨c0, c1, c2, f0, f1, f2⟩ := hr.facts3
  go_wp2_with fail
  refine (HST.out _ hs).mono ?_
  rintro e w2 ⟨rfl, hx2⟩
  obtain ⟨c0, c1, c2, f0, f1, f2⟩ := (hr.ext hx2).facts3
  go_wp2_with fail
  refine (HBE.out _ (by omega)).mono ?_
  rintro e w3 ⟨rfl, hx3⟩
  obtain ⟨c0, c1, c2, f0, f1, f2⟩ := ((hr.ext hx2).ext hx3).facts3
  have hlt := ((hr.ext hx2).ext hx3).lt
  clear hr
  have HX : Hid (Ext w w3) := Lib.hid (by repeat (first | exact Ext.refl _ | with_reducible assumption | with_reducible refine Ext.alloc_of ?_ _ | with_reducible refine Ext.drewN_of ?_ _ | with_reducible refine Ext.drew_of ?_ | (with_reducible refine Ext.set_of ?_ ?hsz _; case hsz => ((first | exact Nat.le_refl _ | omega | (simp; omega)))) | with_reducible refine Ext.via (by assumption) ?_))
  clear hx0 hx2 hx3
  by_cases h1 : rn = 0
  · have d1 : ((rn : Int) == 0) = true := by simp [h1]
    have HF : Hid (checkC (Tk.check ⟨tk, tt, ta⟩) = 250) := Lib.hid (by rw [HC.out, h1]; rfl)
    clear h1
    go_wp2_with fail
    go_ret
    exact ⟨ret_int HF.out.symm, HX.out.trans (Ext.alloc _ _)⟩
  have d1 : ((rn : Int) == 0) = false := by simpa using h1
  by_cases h2 : rn = s.size
  case neg =>
    have d2 : ((rn : Int) != (s.size : Int)) = true := by simp; omega
    have HF : Hid (checkC (Tk.check ⟨tk, tt, ta⟩) = 250) := Lib.hid (by rw [HC.out, decide_eq_false h2]; simp [checkC])
    clear h1 h2
    go_wp2_with fail
    go_ret
    exact ⟨ret_int HF.out.symm, HX.out.trans (Ext.alloc _ _)⟩
  have d2 : ((rn : Int) != (s.size : Int)) = false := by simp; omega
  by_cases h3 : rk = tk
  case neg =>
    have d3 : (rk != tk) = true := by simpa using h3
    have HF : Hid (checkC (Tk.check ⟨tk, tt, ta⟩) = 250) := Lib.hid (by rw [HC.out, decide_eq_false h3]; simp [checkC])
    clear h1 h2 h3
    go_wp2_with fail
    go_ret
    exact ⟨ret_int HF.out.symm, HX.out.trans (Ext.alloc _ _)⟩
  have d3 : (rk != tk) = false := by simpa using h3
  by_cases h4 : txt rt = tt
  case neg =>
    have d4 : ((txt rt).toList == tt.toList) = false := str_no h4
    have HF : Hid (checkC (Tk.check ⟨tk, tt, ta⟩) = 250) := Lib.hid (by rw [HC.out, decide_eq_false h4]; simp [checkC])
    clear h1 h2 h3 h4
    go_wp2_with fail
    go_ret
    exact ⟨ret_int HF.out.symm, HX.out.trans (Ext.alloc _ _)⟩
  have d4 : ((txt rt).toList == tt.toList) = true := str_yes h4
  by_cases h5 : ta < 0
  · have d5 : decide (ta < 0) = true := by simpa using h5
    have HF : Hid (checkC (Tk.check ⟨tk, tt, ta⟩) = 250) := Lib.hid (by rw [HC.out, decide_eq_false (show ¬ 0 ≤ ta by omega)]; simp [checkC])
    clear h1 h2 h3 h4
    go_wp2_with fail
    go_ret
    exact ⟨ret_int HF.out.symm, HX.out.trans (Ext.alloc _ _)⟩
  · have d5 : decide (ta < 0) = false := by simpa using h5
    have HF : Hid (checkC (Tk.check ⟨tk, tt, ta⟩) = 0) := Lib.hid (by rw [HC.out, decide_eq_true h1, decide_eq_true h2, decide_eq_true h3, decide_eq_true h4, decide_eq_true (show 0 ≤ ta by omega)]; rfl)
    clear h1 h2 h3 h4
    go_wp2_with fail
    go_ret
    exact ⟨ret_int HF.out.symm, HX.out.trans (Ext.alloc _ _)⟩
theorem check_yes {t : Tk} (w : World) (hs : t.text.size ≤ 9223372036854775800) (h : t.check = true) : Calls Try.prog 34 #[tkV t] w fun e w' => e = .returned (.int .i64 0) ∧ Ext w w' :=
  (check_any t w hs).mono fun e w' ⟨he, hx⟩ => ⟨by rw [he, h]; rfl, hx⟩
theorem check_no {t : Tk} (w : World) (hs : t.text.size ≤ 9223372036854775800) (h : t.check = false) : Calls Try.prog 34 #[tkV t] w fun e w' => e = .returned (.int .i64 250) ∧ Ext w w' :=
  (check_any t w hs).mono fun e w' ⟨he, hx⟩ => ⟨by rw [he, h]; rfl, hx⟩

end Go.Proofs.Ytngnplghjaojhaa

/- The number that a token says. -/
namespace Go.Proofs.Ytngnplghjaojhaa
set_option maxRecDepth 100000
set_option maxHeartbeats 2000000
set_option linter.unusedVariables false
set_option linter.unusedSimpArgs false
open Go.RowKit

/-- What comes of a number. -/
def numE (r : Option Int) : Ending := .returned (match r with | some n => .tuple #[.int .i64 n, .bool true] | none => .tuple #[.int .i64 0, .bool false])
theorem number_go (t : Tk) (w : World) (hs : t.text.size ≤ 9223372036854775807) (h1 : t.kind = 1) (h2 : (t.text.toList.isEmpty) = false) (h3 : ¬ ((bts t.text).head? = some 48 ∧ bts t.text ≠ [48])) :
    Calls Try.prog 106 #[tkV t] w fun e w' => e = numE (numL 0 (bts t.text)) ∧ Ext w w' := by
  obtain ⟨tk, tt, ta⟩ := t
  unfold tkV
  dsimp only at *
  subst h1
  have hr := RowAt.new w 39 [.int .i64 1, .string tt, .int .i64 ta]
  go_enter Try.func106, Try.ntmps106
  go_wp2_with fail
  have hx0 := Ext.alloc w (.cells #[.int .i64 1, .string tt, .int .i64 ta] 39)
  generalize w.alloc (.cells #[.int .i64 1, .string tt, .int .i64 ta] 39) = w1 at *
  obtain ⟨c0, c1, c2, f0, f1, f2⟩ := hr.facts3
  clear hr
  have hpos : 0 < tt.size := by
    rcases Nat.eq_zero_or_pos tt.size with h | h
    · have : tt.toList = [] := by rw [ByteArray.toList_eq]; exact List.eq_nil_of_length_eq_zero (by simpa using h)
      rw [this] at h2; cases h2
    · exact h
  have hd : (((tt[0].toNat : Int) == 48) = false) ∨ (((tt[0].toNat : Int) == 48) = true ∧ (tt.toList == [48]) = true) := by
    by_cases h : tt[0].toNat = 48
    · refine .inr ⟨by simp [h], ?_⟩
      have hb := bts_drop tt 0 hpos
      rw [List.drop_zero] at hb
      have : bts tt = [48] := Classical.byContradiction fun hne => h3 ⟨by rw [hb]; simp; exact UInt8.toNat_inj.1 h, hne⟩
      rw [ByteArray.toList_eq]; exact beq_iff_eq.2 this
    · exact .inl (by simp; omega)
  have hst := Lib.hid (show numL 0 (bts tt) = numL 0 ((bts tt).drop 0) by rw [List.drop_zero])
  clear h3
  refine wp_scope_jumps 0 (fun a' w' => w' = w1 ∧ ∃ (i : Nat) (n : Int) (u7 u8 u9 u10 u11 u12 u13 u14 u15 u16 u17 u18 u19 u20 u21 u22 u23 u24 u25 u26 u27 u28 u29 u30 u31 u32 u33 u34 u35 u36 u37 u38 u39 u40 u41 u42 u43 u44 u45 u46 u47 u48 u49 u50 u51 : Value), a' = { tmps := #[.agg #[.int .i64 1, .string tt, .int .i64 ta], .pointer (some ⟨w.heap.size, 0, none⟩), .int .i64 0, .bool false, .string tt, .int .i64 n, .int .i64 i, u7, u8, u9, u10, u11, u12, u13, u14, u15, u16, u17, u18, u19, u20, u21, u22, u23, u24, u25, u26, u27, u28, u29, u30, u31, u32, u33, u34, u35, u36, u37, u38, u39, u40, u41, u42, u43, u44, u45, u46, u47, u48, u49, u50, u51], defers := [] } ∧ 0 ≤ n ∧ n < 2147483648 ∧ i ≤ tt.size ∧ numL 0 (bts tt) = numL n ((bts tt).drop i)) (fun a' _ => tt.size - (intOf (a'.tmps.getD 6 undef)).toNat) rfl ?_ ?_
  · rcases hd with hd | ⟨hd, hd'⟩
    all_goals
      go_wp2_with fail
      go_step3
      have Hst := hst
      have hlt := hpos
      have hb256 : tt[0].toNat < 256 := tt[0].toNat_lt
      have Hdrop := Lib.hid (bts_drop tt 0 hlt)
      by_cases hA : tt[0].toNat < 48
      · have HF : Hid (numL 0 (bts tt) = none) := Lib.hid (by rw [Hst.out, Hdrop.out, numL_no (by omega)])
        go_wp2_with fail
        simp only [Exit.jump]
        go_ret2
        exact ⟨by rw [HF.out]; rfl, hx0⟩
      by_cases hB : 57 < tt[0].toNat
      · have HF : Hid (numL 0 (bts tt) = none) := Lib.hid (by rw [Hst.out, Hdrop.out, numL_no (by omega)])
        go_wp2_with fail
        simp only [Exit.jump]
        go_ret2
        exact ⟨by rw [HF.out]; rfl, hx0⟩
      have hA' : 48 ≤ tt[0].toNat := by omega
      have hB' : tt[0].toNat ≤ 57 := by omega
      clear hA hB
      by_cases hC : 2147483648 ≤ 10 * (0 : Int) + ((tt[0].toNat : Int) - 48)
      · have HF : Hid (numL 0 (bts tt) = none) := Lib.hid (by rw [Hst.out, Hdrop.out, numL_no (by omega)])
        go_wp2_with fail
        all_goals (simp only [Exit.jump]; go_ret2; exact ⟨by rw [HF.out]; rfl, hx0⟩)
      · have hC' : 10 * (0 : Int) + ((tt[0].toNat : Int) - 48) < 2147483648 := by omega
        clear hC
        have HN : Hid (numL 0 (bts tt) = numL (10 * (0 : Int) + ((tt[0].toNat : Int) - 48)) ((bts tt).drop (0 + 1))) := Lib.hid (by rw [Hst.out, Hdrop.out, numL_yes (by omega)]; congr 1; omega)
        go_wp2_with fail
        go_step3
        refine ⟨rfl, rfl, 1, _, _, _, _, _, _, _, _, _, _, _, _, _, _, _, _, _, _, _, _, _, _, _, _, _, _, _, _, _, _, _, _, _, _, _, _, _, _, _, _, _, _, _, _, _, _, rfl, ?_, ?_, by omega, ?_⟩
        · omega
        · omega
        · simpa using HN.out
        skip
  · rintro a' w' ⟨rfl, i, n, u7, u8, u9, u10, u11, u12, u13, u14, u15, u16, u17, u18, u19, u20, u21, u22, u23, u24, u25, u26, u27, u28, u29, u30, u31, u32, u33, u34, u35, u36, u37, u38, u39, u40, u41, u42, u43, u44, u45, u46, u47, u48, u49, u50, u51, rfl, hn0, hn1, hi, hst⟩
    have Hst := Lib.hid hst
    clear hst hd
    by_cases hlt : i < tt.size
    · have hb256 : tt[i].toNat < 256 := tt[i].toNat_lt
      have Hdrop := Lib.hid (bts_drop tt i hlt)
      by_cases hA : tt[i].toNat < 48
      · have HF : Hid (numL 0 (bts tt) = none) := Lib.hid (by rw [Hst.out, Hdrop.out, numL_no (by omega)])
        go_wp2_with fail
        simp only [Exit.jump]
        go_ret2
        exact ⟨by rw [HF.out]; rfl, hx0⟩
      by_cases hB : 57 < tt[i].toNat
      · have HF : Hid (numL 0 (bts tt) = none) := Lib.hid (by rw [Hst.out, Hdrop.out, numL_no (by omega)])
        go_wp2_with fail
        simp only [Exit.jump]
        go_ret2
        exact ⟨by rw [HF.out]; rfl, hx0⟩
      have hA' : 48 ≤ tt[i].toNat := by omega
      have hB' : tt[i].toNat ≤ 57 := by omega
      clear hA hB
      by_cases hC : 2147483648 ≤ 10 * (n : Int) + ((tt[i].toNat : Int) - 48)
      · have HF : Hid (numL 0 (bts tt) = none) := Lib.hid (by rw [Hst.out, Hdrop.out, numL_no (by omega)])
        go_wp2_with fail
        all_goals (simp only [Exit.jump]; go_ret2; exact ⟨by rw [HF.out]; rfl, hx0⟩)
      · have hC' : 10 * (n : Int) + ((tt[i].toNat : Int) - 48) < 2147483648 := by omega
        clear hC
        have HN : Hid (numL 0 (bts tt) = numL (10 * (n : Int) + ((tt[i].toNat : Int) - 48)) ((bts tt).drop (i + 1))) := Lib.hid (by rw [Hst.out, Hdrop.out, numL_yes (by omega)]; congr 1; omega)
        go_wp2_with fail
        go_step3
        refine ⟨rfl, ⟨rfl, i + 1, _, _, _, _, _, _, _, _, _, _, _, _, _, _, _, _, _, _, _, _, _, _, _, _, _, _, _, _, _, _, _, _, _, _, _, _, _, _, _, _, _, _, _, _, _, _, rfl, ?_, ?_, by omega, ?_⟩, ?_⟩
        · omega
        · omega
        · simpa using HN.out
        (simp [intOf]; omega)
    · have HF : Hid (numL 0 (bts tt) = some n) := Lib.hid (by rw [Hst.out, List.drop_eq_nil_of_le (by rw [bts_len]; omega)]; rfl)
      go_wp2_with fail
      simp only [Exit.jump]
      go_ret2
      exact ⟨by rw [HF.out]; rfl, hx0⟩

theorem number_stop (t : Tk) (w : World) (hs : t.text.size ≤ 9223372036854775807) (h : (t.kind != 1) = true ∨ (t.kind != 1) = false ∧ t.text.toList.isEmpty = true ∨ (t.kind != 1) = false ∧ t.text.toList.isEmpty = false ∧ ∃ h0 : 0 < t.text.size, ((t.text[0].toNat : Int) == 48) = true ∧ (t.text.toList == [48]) = false) :
    Calls Try.prog 106 #[tkV t] w fun e w' => e = numE none ∧ Ext w w' := by
  obtain ⟨tk, tt, ta⟩ := t
  unfold tkV
  dsimp only at *
  rcases h with h | ⟨h, h'⟩ | ⟨h, h', h0, h1, h2⟩
  all_goals
    go_enter Try.func106, Try.ntmps106
    go_wp2_with fail
    go_step3
    go_wp2_with fail
    rw [Exit.noGoto_ret]
    go_ret2
    exact ⟨rfl, (by repeat (first | exact Ext.refl _ | with_reducible assumption | with_reducible refine Ext.alloc_of ?_ _ | with_reducible refine Ext.drewN_of ?_ _ | with_reducible refine Ext.drew_of ?_ | (with_reducible refine Ext.set_of ?_ ?hsz _; case hsz => ((first | exact Nat.le_refl _ | omega | (simp; omega)))) | with_reducible refine Ext.via (by assumption) ?_))⟩
theorem number_any (t : Tk) (w : World) (hs : t.text.size ≤ 9223372036854775807) :
    Calls Try.prog 106 #[tkV t] w fun e w' => e = numE t.number ∧ Ext w w' := by
  unfold Tk.number numberF
  by_cases h1 : t.kind = 1
  case neg => rw [if_pos (.inl h1)]; exact number_stop t w hs (.inl (by simpa using h1))
  by_cases h2 : bts t.text = []
  · rw [if_pos (.inr (.inl h2))]
    refine number_stop t w hs (.inr (.inl ⟨by simp [h1], ?_⟩))
    rw [ByteArray.toList_eq]; exact List.isEmpty_iff.2 h2
  by_cases h3 : (bts t.text).head? = some 48 ∧ bts t.text ≠ [48]
  · rw [if_pos (.inr (.inr h3))]
    have hpos : 0 < t.text.size := by rw [← bts_len]; exact List.length_pos_iff.2 h2
    refine number_stop t w hs (.inr (.inr ⟨by simp [h1], ?_, hpos, ?_, ?_⟩))
    · rw [ByteArray.toList_eq]; cases hb : t.text.data.toList with | nil => exact absurd hb h2 | cons _ _ => rfl
    · have hb := bts_drop t.text 0 hpos
      rw [List.drop_zero] at hb
      have h := h3.1
      rw [hb] at h
      have h : t.text[0] = 48 := by simpa using h
      rw [h]; rfl
    · rw [ByteArray.toList_eq]; exact beq_eq_false_iff_ne.2 h3.2
  · rw [if_neg (by rintro (h | h | h); exact h h1; exact h2 h; exact h3 h)]
    refine number_go t w hs h1 ?_ h3
    rw [ByteArray.toList_eq]; cases hb : t.text.data.toList with | nil => exact absurd hb h2 | cons _ _ => rfl
end Go.Proofs.Ytngnplghjaojhaa

/- Rows of tokens in memory. -/
namespace Go.Proofs.Ytngnplghjaojhaa
set_option maxRecDepth 100000
set_option maxHeartbeats 2000000
set_option linter.unusedVariables false
set_option linter.unusedSimpArgs false
open Go.RowKit Go.ChangeShapes Go.WideShapes Go.Deep

def tkCells (t : Tk) : List Value := [.int .i64 t.kind, .string t.text, .int .i64 t.at_]
def Toks (w : World) (v : Value) (l : List Tk) : Prop := Sl w v l.length (l.flatMap tkCells)
theorem Toks.ext {w w' : World} {v : Value} {l : List Tk} (h : Toks w v l) (hx : Ext w w') : Toks w' v l := Sl.ext h hx
theorem Toks.shape {w : World} {v : Value} {l : List Tk} (h : Toks w v l) : ∃ a c, v = .slice a l.length c ∧ l.length ≤ c ∧ c ≤ 9223372036854775807 := Sl.shape h
theorem Toks.at_ {w : World} {a : Option Addr} {n c : Nat} {l : List Tk} (h : Toks w (.slice a n c) l) {k : Nat} (hk : k < l.length) : ∃ b o, a = some ⟨b, o, none⟩ ∧
    w.cell? ⟨b, o + k * 3, none⟩ = some (.int .i64 l[k].kind) ∧ w.cell? ⟨b, o + k * 3 + 1, none⟩ = some (.string l[k].text) ∧ w.cell? ⟨b, o + k * 3 + 2, none⟩ = some (.int .i64 l[k].at_) := by
  obtain ⟨a', c', e, _, _, hc⟩ := id h
  simp only [Value.slice.injEq] at e
  obtain ⟨rfl, _, rfl⟩ := e
  have hlen := flatMap_len tkCells 3 (fun _ => rfl) l
  obtain ⟨b, o, rfl, hcell⟩ := hc (by omega)
  have h0 := flatMap_at tkCells 3 (fun _ => rfl) l k 0 hk (by omega)
  have h1 := flatMap_at tkCells 3 (fun _ => rfl) l k 1 hk (by omega)
  have h2 := flatMap_at tkCells 3 (fun _ => rfl) l k 2 hk (by omega)
  exact ⟨b, o, rfl, hcell _ _ h0, by rw [Nat.add_assoc]; exact hcell _ _ h1, by rw [Nat.add_assoc]; exact hcell _ _ h2⟩

end Go.Proofs.Ytngnplghjaojhaa

/- Whether tokens are the same. -/
namespace Go.Proofs.Ytngnplghjaojhaa
set_option maxRecDepth 100000
set_option maxHeartbeats 2000000
set_option linter.unusedVariables false
set_option linter.unusedSimpArgs false
open Go.RowKit

end Go.Proofs.Ytngnplghjaojhaa
