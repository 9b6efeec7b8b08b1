/- What a text begins with. -/
import Derived.Test.YtofglbngnjcpeaaDoorLexC
namespace Go.Proofs.YtofglbngnjcpeaaDoor
set_option maxRecDepth 100000
set_option maxHeartbeats 2000000
set_option linter.unusedVariables false
set_option linter.unusedSimpArgs false
open Go.RowKit

theorem begin_any (s : ByteArray) (w : World) (hs : s.size ≤ 9223372036854775807) :
    Calls Tryd.prog 24 #[.string s] w fun e w' => e = .returned (begV (begL (bts s))) ∧ Ext w w' := by
  go_enter Tryd.func24, Tryd.ntmps24
  go_upto_region 2 with fail
  have hbw : ∀ (o1 o2 o3 : Obj), o1 = (.cells #[.string s] 9) → (((w.alloc o1).alloc o2).alloc o3).cell? ⟨w.heap.size, 0, none⟩ = some (.string s) := fun o1 o2 o3 h => by
    subst h
    exact ext_cell (Ext.alloc _ _) (ext_cell (Ext.alloc _ _) ((RowAt.new w 9 [.string s]).facts1.1))
  have hrw : ∀ (o1 o3 : Obj), RowAt (((w.alloc o1).alloc (.cells #[.int .i64 0, .string ⟨#[]⟩, .int .i64 0] 28)).alloc o3) (w.heap.size + 1) 28 [.int .i64 0, .string ⟨#[]⟩, .int .i64 0] := fun o1 o3 =>
    (row_at (by simp)).ext (Ext.alloc _ _)
  have HB0 := fun o2 o3 => hbw _ o2 o3 rfl
  have i0 : ∀ w', (Instr.index 65 (.agg #[.func (.func 30) #[] #[.pointer (some ⟨w.heap.size, 0, none⟩)], .func (.func 32) #[] #[.pointer (some ⟨w.heap.size, 0, none⟩)], .func (.func 34) #[] #[.pointer (some ⟨w.heap.size, 0, none⟩)], .func (.func 36) #[] #[.pointer (some ⟨w.heap.size, 0, none⟩)]]) (.int .i64 0)).run Tryd.prog w' = .ok (.func (.func 30) #[] #[.pointer (some ⟨w.heap.size, 0, none⟩)]) w' := fun _ => by kernel_rfl
  have i1 : ∀ w', (Instr.index 65 (.agg #[.func (.func 30) #[] #[.pointer (some ⟨w.heap.size, 0, none⟩)], .func (.func 32) #[] #[.pointer (some ⟨w.heap.size, 0, none⟩)], .func (.func 34) #[] #[.pointer (some ⟨w.heap.size, 0, none⟩)], .func (.func 36) #[] #[.pointer (some ⟨w.heap.size, 0, none⟩)]]) (.int .i64 1)).run Tryd.prog w' = .ok (.func (.func 32) #[] #[.pointer (some ⟨w.heap.size, 0, none⟩)]) w' := fun _ => by kernel_rfl
  have i2 : ∀ w', (Instr.index 65 (.agg #[.func (.func 30) #[] #[.pointer (some ⟨w.heap.size, 0, none⟩)], .func (.func 32) #[] #[.pointer (some ⟨w.heap.size, 0, none⟩)], .func (.func 34) #[] #[.pointer (some ⟨w.heap.size, 0, none⟩)], .func (.func 36) #[] #[.pointer (some ⟨w.heap.size, 0, none⟩)]]) (.int .i64 2)).run Tryd.prog w' = .ok (.func (.func 34) #[] #[.pointer (some ⟨w.heap.size, 0, none⟩)]) w' := fun _ => by kernel_rfl
  have i3 : ∀ w', (Instr.index 65 (.agg #[.func (.func 30) #[] #[.pointer (some ⟨w.heap.size, 0, none⟩)], .func (.func 32) #[] #[.pointer (some ⟨w.heap.size, 0, none⟩)], .func (.func 34) #[] #[.pointer (some ⟨w.heap.size, 0, none⟩)], .func (.func 36) #[] #[.pointer (some ⟨w.heap.size, 0, none⟩)]]) (.int .i64 3)).run Tryd.prog w' = .ok (.func (.func 36) #[] #[.pointer (some ⟨w.heap.size, 0, none⟩)]) w' := fun _ => by kernel_rfl
  go_wp2_with fail
  have hR := hrw (.cells #[.string s] 9) (.cells #[.func (.func 30) #[] #[.pointer (some ⟨w.heap.size, 0, none⟩)], .func (.func 32) #[] #[.pointer (some ⟨w.heap.size, 0, none⟩)], .func (.func 34) #[] #[.pointer (some ⟨w.heap.size, 0, none⟩)], .func (.func 36) #[] #[.pointer (some ⟨w.heap.size, 0, none⟩)]] 65)
  have hB := HB0 (.cells #[.int .i64 0, .string ⟨#[]⟩, .int .i64 0] 28) (.cells #[.func (.func 30) #[] #[.pointer (some ⟨w.heap.size, 0, none⟩)], .func (.func 32) #[] #[.pointer (some ⟨w.heap.size, 0, none⟩)], .func (.func 34) #[] #[.pointer (some ⟨w.heap.size, 0, none⟩)], .func (.func 36) #[] #[.pointer (some ⟨w.heap.size, 0, none⟩)]] 65)
  have hx0 : Ext w (((w.alloc (.cells #[.string s] 9)).alloc (.cells #[.int .i64 0, .string ⟨#[]⟩, .int .i64 0] 28)).alloc (.cells #[.func (.func 30) #[] #[.pointer (some ⟨w.heap.size, 0, none⟩)], .func (.func 32) #[] #[.pointer (some ⟨w.heap.size, 0, none⟩)], .func (.func 34) #[] #[.pointer (some ⟨w.heap.size, 0, none⟩)], .func (.func 36) #[] #[.pointer (some ⟨w.heap.size, 0, none⟩)]] 65)) := ((Ext.alloc _ _).trans (Ext.alloc _ _)).trans (Ext.alloc _ _)
  generalize (((w.alloc (.cells #[.string s] 9)).alloc (.cells #[.int .i64 0, .string ⟨#[]⟩, .int .i64 0] 28)).alloc (.cells #[.func (.func 30) #[] #[.pointer (some ⟨w.heap.size, 0, none⟩)], .func (.func 32) #[] #[.pointer (some ⟨w.heap.size, 0, none⟩)], .func (.func 34) #[] #[.pointer (some ⟨w.heap.size, 0, none⟩)], .func (.func 36) #[] #[.pointer (some ⟨w.heap.size, 0, none⟩)]] 65)) = w3 at *
  clear hbw hrw HB0
  have HR := Lib.hid hR
  have HB := Lib.hid hB
  clear hR hB
  go_loopg [15] 5 (fun g i wr => Ext w3 wr ∧ ((g = 5 ∧ i = .int .i64 0) ∨ (g = 4 ∧ i = .int .i64 1 ∧ ¬ 0 < (ask1 (bts s)).2.2) ∨ (g = 3 ∧ i = .int .i64 2 ∧ ¬ 0 < (ask1 (bts s)).2.2 ∧ ¬ 0 < (ask2 (bts s)).2.2) ∨ (g = 2 ∧ i = .int .i64 3 ∧ ¬ 0 < (ask1 (bts s)).2.2 ∧ ¬ 0 < (ask2 (bts s)).2.2 ∧ ¬ 0 < (ask3 (bts s)).2.2) ∨ (g = 1 ∧ i = .int .i64 4 ∧ ¬ 0 < (ask1 (bts s)).2.2 ∧ ¬ 0 < (ask2 (bts s)).2.2 ∧ ¬ 0 < (ask3 (bts s)).2.2 ∧ ¬ 0 < (ask4 (bts s)).2.2)))
  case atStart => exact ⟨Ext.refl _, .inl ⟨rfl, rfl⟩⟩
  case round =>
    obtain ⟨hxr, hrel⟩ := hrel
    rcases hrel with ⟨rfl, rfl⟩ | ⟨rfl, rfl, n1⟩ | ⟨rfl, rfl, n1, n2⟩ | ⟨rfl, rfl, n1, n2, n3⟩ | ⟨rfl, rfl, n1, n2, n3, n4⟩
    · have N := Lib.hid (True.intro)
      try clear n1
      try clear n2
      try clear n3
      go_wp2_with fail
      refine (ask1_any s _ _ hs (ext_cell hxr HB.out)).mono ?_
      rintro e w4 ⟨rfl, hx4⟩
      by_cases h : 0 < (ask1 (bts s)).2.2
      · have HF : Hid (begL (bts s) = ask1 (bts s)) := Lib.hid (begL_1 h)
        unfold begV tokV
        generalize ask1 (bts s) = r at h HF
        obtain ⟨rk, rt, rn⟩ := r
        obtain ⟨c0, c1, c2, f0, f1, f2⟩ := ((HR.out.ext hxr).ext hx4).facts3
        have hlt4 := ((HR.out.ext hxr).ext hx4).lt
        dsimp only at h ⊢
        clear N
        go_wp2_with fail
        exact bodyPost_ret (v := begV (rk, rt, rn)) (by simp [results, Tryd.results24, go_sem, c0, c1, c2, hlt4, begV, tokV]) rfl ⟨by rw [HF.out], (by repeat (first | exact Ext.refl _ | with_reducible assumption | with_reducible refine Ext.alloc_of ?_ _ | with_reducible refine Ext.drewN_of ?_ _ | with_reducible refine Ext.drew_of ?_ | (with_reducible refine Ext.set_of ?_ ?hsz _; case hsz => ((first | exact Nat.le_refl _ | omega | (simp; omega)))) | with_reducible refine Ext.via (by assumption) ?_))⟩
      · have HH : Hid (¬ 0 < (ask1 (bts s)).2.2) := Lib.hid h
        have h0 : (ask1 (bts s)).2.2 = 0 := by omega
        unfold begV tokV
        rw [h0]
        generalize (ask1 (bts s)).1 = rk
        generalize (ask1 (bts s)).2.1 = rt
        clear h h0
        go_wp2_with fail
        have h := HH.out
        go_roundg 4
        case measure => omega
        case rel => exact ⟨(by repeat (first | exact Ext.refl _ | with_reducible assumption | with_reducible refine Ext.alloc_of ?_ _ | with_reducible refine Ext.drewN_of ?_ _ | with_reducible refine Ext.drew_of ?_ | (with_reducible refine Ext.set_of ?_ ?hsz _; case hsz => ((first | exact Nat.le_refl _ | omega | (simp; omega)))) | with_reducible refine Ext.via (by assumption) ?_)), .inr (.inl ⟨rfl, rfl, h⟩)⟩
    · have N := Lib.hid n1
      try clear n1
      try clear n2
      try clear n3
      go_wp2_with fail
      refine (ask2_any s _ _ hs (ext_cell hxr HB.out)).mono ?_
      rintro e w4 ⟨rfl, hx4⟩
      by_cases h : 0 < (ask2 (bts s)).2.2
      · have HF : Hid (begL (bts s) = ask2 (bts s)) := Lib.hid (begL_2 N.out h)
        unfold begV tokV
        generalize ask2 (bts s) = r at h HF
        obtain ⟨rk, rt, rn⟩ := r
        obtain ⟨c0, c1, c2, f0, f1, f2⟩ := ((HR.out.ext hxr).ext hx4).facts3
        have hlt4 := ((HR.out.ext hxr).ext hx4).lt
        dsimp only at h ⊢
        clear N
        go_wp2_with fail
        exact bodyPost_ret (v := begV (rk, rt, rn)) (by simp [results, Tryd.results24, go_sem, c0, c1, c2, hlt4, begV, tokV]) rfl ⟨by rw [HF.out], (by repeat (first | exact Ext.refl _ | with_reducible assumption | with_reducible refine Ext.alloc_of ?_ _ | with_reducible refine Ext.drewN_of ?_ _ | with_reducible refine Ext.drew_of ?_ | (with_reducible refine Ext.set_of ?_ ?hsz _; case hsz => ((first | exact Nat.le_refl _ | omega | (simp; omega)))) | with_reducible refine Ext.via (by assumption) ?_))⟩
      · have HH : Hid (¬ 0 < (ask2 (bts s)).2.2) := Lib.hid h
        have h0 : (ask2 (bts s)).2.2 = 0 := by omega
        unfold begV tokV
        rw [h0]
        generalize (ask2 (bts s)).1 = rk
        generalize (ask2 (bts s)).2.1 = rt
        clear h h0
        go_wp2_with fail
        have h := HH.out
        go_roundg 3
        case measure => omega
        case rel => exact ⟨(by repeat (first | exact Ext.refl _ | with_reducible assumption | with_reducible refine Ext.alloc_of ?_ _ | with_reducible refine Ext.drewN_of ?_ _ | with_reducible refine Ext.drew_of ?_ | (with_reducible refine Ext.set_of ?_ ?hsz _; case hsz => ((first | exact Nat.le_refl _ | omega | (simp; omega)))) | with_reducible refine Ext.via (by assumption) ?_)), .inr (.inr (.inl ⟨rfl, rfl, N.out, h⟩))⟩
    · have N := Lib.hid (And.intro n1 n2)
      try clear n1
      try clear n2
      try clear n3
      go_wp2_with fail
      refine (ask3_any s _ _ hs (ext_cell hxr HB.out)).mono ?_
      rintro e w4 ⟨rfl, hx4⟩
      by_cases h : 0 < (ask3 (bts s)).2.2
      · have HF : Hid (begL (bts s) = ask3 (bts s)) := Lib.hid (begL_3 N.out.1 N.out.2 h)
        unfold begV tokV
        generalize ask3 (bts s) = r at h HF
        obtain ⟨rk, rt, rn⟩ := r
        obtain ⟨c0, c1, c2, f0, f1, f2⟩ := ((HR.out.ext hxr).ext hx4).facts3
        have hlt4 := ((HR.out.ext hxr).ext hx4).lt
        dsimp only at h ⊢
        clear N
        go_wp2_with fail
        exact bodyPost_ret (v := begV (rk, rt, rn)) (by simp [results, Tryd.results24, go_sem, c0, c1, c2, hlt4, begV, tokV]) rfl ⟨by rw [HF.out], (by repeat (first | exact Ext.refl _ | with_reducible assumption | with_reducible refine Ext.alloc_of ?_ _ | with_reducible refine Ext.drewN_of ?_ _ | with_reducible refine Ext.drew_of ?_ | (with_reducible refine Ext.set_of ?_ ?hsz _; case hsz => ((first | exact Nat.le_refl _ | omega | (simp; omega)))) | with_reducible refine Ext.via (by assumption) ?_))⟩
      · have HH : Hid (¬ 0 < (ask3 (bts s)).2.2) := Lib.hid h
        have h0 : (ask3 (bts s)).2.2 = 0 := by omega
        unfold begV tokV
        rw [h0]
        generalize (ask3 (bts s)).1 = rk
        generalize (ask3 (bts s)).2.1 = rt
        clear h h0
        go_wp2_with fail
        have h := HH.out
        go_roundg 2
        case measure => omega
        case rel => exact ⟨(by repeat (first | exact Ext.refl _ | with_reducible assumption | with_reducible refine Ext.alloc_of ?_ _ | with_reducible refine Ext.drewN_of ?_ _ | with_reducible refine Ext.drew_of ?_ | (with_reducible refine Ext.set_of ?_ ?hsz _; case hsz => ((first | exact Nat.le_refl _ | omega | (simp; omega)))) | with_reducible refine Ext.via (by assumption) ?_)), .inr (.inr (.inr (.inl ⟨rfl, rfl, N.out.1, N.out.2, h⟩)))⟩
    · have N := Lib.hid (And.intro n1 (And.intro n2 n3))
      try clear n1
      try clear n2
      try clear n3
      go_wp2_with fail
      refine (ask4_any s _ _ hs (ext_cell hxr HB.out)).mono ?_
      rintro e w4 ⟨rfl, hx4⟩
      by_cases h : 0 < (ask4 (bts s)).2.2
      · have HF : Hid (begL (bts s) = ask4 (bts s)) := Lib.hid (begL_4 N.out.1 N.out.2.1 N.out.2.2)
        unfold begV tokV
        generalize ask4 (bts s) = r at h HF
        obtain ⟨rk, rt, rn⟩ := r
        obtain ⟨c0, c1, c2, f0, f1, f2⟩ := ((HR.out.ext hxr).ext hx4).facts3
        have hlt4 := ((HR.out.ext hxr).ext hx4).lt
        dsimp only at h ⊢
        clear N
        go_wp2_with fail
        exact bodyPost_ret (v := begV (rk, rt, rn)) (by simp [results, Tryd.results24, go_sem, c0, c1, c2, hlt4, begV, tokV]) rfl ⟨by rw [HF.out], (by repeat (first | exact Ext.refl _ | with_reducible assumption | with_reducible refine Ext.alloc_of ?_ _ | with_reducible refine Ext.drewN_of ?_ _ | with_reducible refine Ext.drew_of ?_ | (with_reducible refine Ext.set_of ?_ ?hsz _; case hsz => ((first | exact Nat.le_refl _ | omega | (simp; omega)))) | with_reducible refine Ext.via (by assumption) ?_))⟩
      · have HH : Hid (¬ 0 < (ask4 (bts s)).2.2) := Lib.hid h
        have h0 : (ask4 (bts s)).2.2 = 0 := by omega
        unfold begV tokV
        rw [h0]
        generalize (ask4 (bts s)).1 = rk
        generalize (ask4 (bts s)).2.1 = rt
        clear h h0
        go_wp2_with fail
        have h := HH.out
        go_roundg 1
        case measure => omega
        case rel => exact ⟨(by repeat (first | exact Ext.refl _ | with_reducible assumption | with_reducible refine Ext.alloc_of ?_ _ | with_reducible refine Ext.drewN_of ?_ _ | with_reducible refine Ext.drew_of ?_ | (with_reducible refine Ext.set_of ?_ ?hsz _; case hsz => ((first | exact Nat.le_refl _ | omega | (simp; omega)))) | with_reducible refine Ext.via (by assumption) ?_)), .inr (.inr (.inr (.inr ⟨rfl, rfl, N.out.1, N.out.2.1, N.out.2.2, h⟩)))⟩
    · have HF := Lib.hid ((begL_4 n1 n2 n3).trans (ask4_zero n4))
      obtain ⟨c0, c1, c2, f0, f1, f2⟩ := (HR.out.ext hxr).facts3
      clear n1 n2 n3 n4
      go_wp2_with fail
      exact bodyPost_ret (v := begV begNo) (by simp [results, Tryd.results24, go_sem, c0, c1, c2, begV, tokV, begNo, txt]) rfl ⟨by rw [HF.out], (by repeat (first | exact Ext.refl _ | with_reducible assumption | with_reducible refine Ext.alloc_of ?_ _ | with_reducible refine Ext.drewN_of ?_ _ | with_reducible refine Ext.drew_of ?_ | (with_reducible refine Ext.set_of ?_ ?hsz _; case hsz => ((first | exact Nat.le_refl _ | omega | (simp; omega)))) | with_reducible refine Ext.via (by assumption) ?_))⟩
end Go.Proofs.YtofglbngnjcpeaaDoor
