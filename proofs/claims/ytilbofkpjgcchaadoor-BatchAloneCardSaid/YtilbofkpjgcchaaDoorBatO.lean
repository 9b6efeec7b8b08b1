/- The reference's lines. -/
import Derived.Test.YtilbofkpjgcchaaDoorBatK
namespace Go.Proofs.YtilbofkpjgcchaaDoor
set_option maxRecDepth 100000
set_option maxHeartbeats 2000000
set_option linter.unusedVariables false
set_option linter.unusedSimpArgs false
open Go.RowKit

theorem lineR1 (key name val to_ : ByteArray) (w : World) (hok : okC ⟨1, key, name, val, to_⟩ = true) :
    Calls Tryd.prog 14 #[.agg #[.int .i64 1, .string key, .string name, .string val, .string to_]] w fun e w' => e = .returned (.string (txt (lineL ⟨1, key, name, val, to_⟩))) ∧ Ext w w' := by
  obtain ⟨_, _, z0, z1, z2, z3⟩ := okC_iff.1 hok
  dsimp only at z0 z1 z2 z3
  replace z0 := okF_size z0
  replace z1 := okF_size z1
  replace z2 := okF_size z2
  replace z3 := okF_size z3
  have ix : ∀ w, (Instr.index 57 (.agg #[.string ⟨#[]⟩, .string ⟨#[97, 100, 100]⟩, .string ⟨#[100, 114, 111, 112]⟩, .string ⟨#[108, 97, 98, 101, 108]⟩, .string ⟨#[117, 110, 108, 97, 98, 101, 108]⟩, .string ⟨#[115, 101, 116]⟩, .string ⟨#[117, 110, 115, 101, 116]⟩, .string ⟨#[108, 105, 110, 107]⟩, .string ⟨#[117, 110, 108, 105, 110, 107]⟩]) (.int .i64 1)).run Tryd.prog w = .ok (.string ⟨#[97, 100, 100]⟩) w := fun _ => rfl
  have hr := RowAt.new w 27 [.int .i64 1, .string key, .string name, .string val, .string to_]
  have s1 : (⟨#[32]⟩ : ByteArray).size = 1 := rfl
  have s2 : (⟨#[32, 34]⟩ : ByteArray).size = 2 := rfl
  have s3 : (⟨#[34]⟩ : ByteArray).size = 1 := rfl
  have s4 : (⟨#[97, 100, 100]⟩ : ByteArray).size ≤ 7 := by decide
  clear hok
  go_enter Tryd.func14, Tryd.ntmps14
  go_upto_region 1 with fail
  have hx0 := Ext.alloc w (.cells #[.int .i64 1, .string key, .string name, .string val, .string to_] 27)
  generalize w.alloc (.cells #[.int .i64 1, .string key, .string name, .string val, .string to_] 27) = w1 at *
  obtain ⟨c0, c1, c2, c3, c4, f0, f1, f2, f3, f4⟩ := hr.facts5
  clear hr
  go_quiet (fail)
  go_wp2_with fail
  go_ret
  exact ⟨congrArg (fun x => Ending.returned (.string x)) (bts_inj (by simp [bts_txt, bts_append, lineL, wordOf, partL, hasOf]; rfl)), (by repeat (first | exact Ext.refl _ | with_reducible assumption | with_reducible refine Ext.alloc_of ?_ _ | with_reducible refine Ext.drewN_of ?_ _ | with_reducible refine Ext.drew_of ?_ | (with_reducible refine Ext.set_of ?_ ?hsz _; case hsz => ((first | exact Nat.le_refl _ | omega | (simp; omega)))) | with_reducible refine Ext.via (by assumption) ?_))⟩
theorem lineR2 (key name val to_ : ByteArray) (w : World) (hok : okC ⟨2, key, name, val, to_⟩ = true) :
    Calls Tryd.prog 14 #[.agg #[.int .i64 2, .string key, .string name, .string val, .string to_]] w fun e w' => e = .returned (.string (txt (lineL ⟨2, key, name, val, to_⟩))) ∧ Ext w w' := by
  obtain ⟨_, _, z0, z1, z2, z3⟩ := okC_iff.1 hok
  dsimp only at z0 z1 z2 z3
  replace z0 := okF_size z0
  replace z1 := okF_size z1
  replace z2 := okF_size z2
  replace z3 := okF_size z3
  have ix : ∀ w, (Instr.index 57 (.agg #[.string ⟨#[]⟩, .string ⟨#[97, 100, 100]⟩, .string ⟨#[100, 114, 111, 112]⟩, .string ⟨#[108, 97, 98, 101, 108]⟩, .string ⟨#[117, 110, 108, 97, 98, 101, 108]⟩, .string ⟨#[115, 101, 116]⟩, .string ⟨#[117, 110, 115, 101, 116]⟩, .string ⟨#[108, 105, 110, 107]⟩, .string ⟨#[117, 110, 108, 105, 110, 107]⟩]) (.int .i64 2)).run Tryd.prog w = .ok (.string ⟨#[100, 114, 111, 112]⟩) w := fun _ => rfl
  have hr := RowAt.new w 27 [.int .i64 2, .string key, .string name, .string val, .string to_]
  have s1 : (⟨#[32]⟩ : ByteArray).size = 1 := rfl
  have s2 : (⟨#[32, 34]⟩ : ByteArray).size = 2 := rfl
  have s3 : (⟨#[34]⟩ : ByteArray).size = 1 := rfl
  have s4 : (⟨#[100, 114, 111, 112]⟩ : ByteArray).size ≤ 7 := by decide
  clear hok
  go_enter Tryd.func14, Tryd.ntmps14
  go_upto_region 1 with fail
  have hx0 := Ext.alloc w (.cells #[.int .i64 2, .string key, .string name, .string val, .string to_] 27)
  generalize w.alloc (.cells #[.int .i64 2, .string key, .string name, .string val, .string to_] 27) = w1 at *
  obtain ⟨c0, c1, c2, c3, c4, f0, f1, f2, f3, f4⟩ := hr.facts5
  clear hr
  go_quiet (fail)
  go_wp2_with fail
  go_ret
  exact ⟨congrArg (fun x => Ending.returned (.string x)) (bts_inj (by simp [bts_txt, bts_append, lineL, wordOf, partL, hasOf]; rfl)), (by repeat (first | exact Ext.refl _ | with_reducible assumption | with_reducible refine Ext.alloc_of ?_ _ | with_reducible refine Ext.drewN_of ?_ _ | with_reducible refine Ext.drew_of ?_ | (with_reducible refine Ext.set_of ?_ ?hsz _; case hsz => ((first | exact Nat.le_refl _ | omega | (simp; omega)))) | with_reducible refine Ext.via (by assumption) ?_))⟩
theorem lineR3 (key name val to_ : ByteArray) (w : World) (hok : okC ⟨3, key, name, val, to_⟩ = true) :
    Calls Tryd.prog 14 #[.agg #[.int .i64 3, .string key, .string name, .string val, .string to_]] w fun e w' => e = .returned (.string (txt (lineL ⟨3, key, name, val, to_⟩))) ∧ Ext w w' := by
  obtain ⟨_, _, z0, z1, z2, z3⟩ := okC_iff.1 hok
  dsimp only at z0 z1 z2 z3
  replace z0 := okF_size z0
  replace z1 := okF_size z1
  replace z2 := okF_size z2
  replace z3 := okF_size z3
  have ix : ∀ w, (Instr.index 57 (.agg #[.string ⟨#[]⟩, .string ⟨#[97, 100, 100]⟩, .string ⟨#[100, 114, 111, 112]⟩, .string ⟨#[108, 97, 98, 101, 108]⟩, .string ⟨#[117, 110, 108, 97, 98, 101, 108]⟩, .string ⟨#[115, 101, 116]⟩, .string ⟨#[117, 110, 115, 101, 116]⟩, .string ⟨#[108, 105, 110, 107]⟩, .string ⟨#[117, 110, 108, 105, 110, 107]⟩]) (.int .i64 3)).run Tryd.prog w = .ok (.string ⟨#[108, 97, 98, 101, 108]⟩) w := fun _ => rfl
  have hr := RowAt.new w 27 [.int .i64 3, .string key, .string name, .string val, .string to_]
  have s1 : (⟨#[32]⟩ : ByteArray).size = 1 := rfl
  have s2 : (⟨#[32, 34]⟩ : ByteArray).size = 2 := rfl
  have s3 : (⟨#[34]⟩ : ByteArray).size = 1 := rfl
  have s4 : (⟨#[108, 97, 98, 101, 108]⟩ : ByteArray).size ≤ 7 := by decide
  clear hok
  go_enter Tryd.func14, Tryd.ntmps14
  go_upto_region 1 with fail
  have hx0 := Ext.alloc w (.cells #[.int .i64 3, .string key, .string name, .string val, .string to_] 27)
  generalize w.alloc (.cells #[.int .i64 3, .string key, .string name, .string val, .string to_] 27) = w1 at *
  obtain ⟨c0, c1, c2, c3, c4, f0, f1, f2, f3, f4⟩ := hr.facts5
  clear hr
  go_quiet (fail)
  go_wp2_with fail
  go_ret
  exact ⟨congrArg (fun x => Ending.returned (.string x)) (bts_inj (by simp [bts_txt, bts_append, lineL, wordOf, partL, hasOf]; rfl)), (by repeat (first | exact Ext.refl _ | with_reducible assumption | with_reducible refine Ext.alloc_of ?_ _ | with_reducible refine Ext.drewN_of ?_ _ | with_reducible refine Ext.drew_of ?_ | (with_reducible refine Ext.set_of ?_ ?hsz _; case hsz => ((first | exact Nat.le_refl _ | omega | (simp; omega)))) | with_reducible refine Ext.via (by assumption) ?_))⟩
theorem lineR4 (key name val to_ : ByteArray) (w : World) (hok : okC ⟨4, key, name, val, to_⟩ = true) :
    Calls Tryd.prog 14 #[.agg #[.int .i64 4, .string key, .string name, .string val, .string to_]] w fun e w' => e = .returned (.string (txt (lineL ⟨4, key, name, val, to_⟩))) ∧ Ext w w' := by
  obtain ⟨_, _, z0, z1, z2, z3⟩ := okC_iff.1 hok
  dsimp only at z0 z1 z2 z3
  replace z0 := okF_size z0
  replace z1 := okF_size z1
  replace z2 := okF_size z2
  replace z3 := okF_size z3
  have ix : ∀ w, (Instr.index 57 (.agg #[.string ⟨#[]⟩, .string ⟨#[97, 100, 100]⟩, .string ⟨#[100, 114, 111, 112]⟩, .string ⟨#[108, 97, 98, 101, 108]⟩, .string ⟨#[117, 110, 108, 97, 98, 101, 108]⟩, .string ⟨#[115, 101, 116]⟩, .string ⟨#[117, 110, 115, 101, 116]⟩, .string ⟨#[108, 105, 110, 107]⟩, .string ⟨#[117, 110, 108, 105, 110, 107]⟩]) (.int .i64 4)).run Tryd.prog w = .ok (.string ⟨#[117, 110, 108, 97, 98, 101, 108]⟩) w := fun _ => rfl
  have hr := RowAt.new w 27 [.int .i64 4, .string key, .string name, .string val, .string to_]
  have s1 : (⟨#[32]⟩ : ByteArray).size = 1 := rfl
  have s2 : (⟨#[32, 34]⟩ : ByteArray).size = 2 := rfl
  have s3 : (⟨#[34]⟩ : ByteArray).size = 1 := rfl
  have s4 : (⟨#[117, 110, 108, 97, 98, 101, 108]⟩ : ByteArray).size ≤ 7 := by decide
  clear hok
  go_enter Tryd.func14, Tryd.ntmps14
  go_upto_region 1 with fail
  have hx0 := Ext.alloc w (.cells #[.int .i64 4, .string key, .string name, .string val, .string to_] 27)
  generalize w.alloc (.cells #[.int .i64 4, .string key, .string name, .string val, .string to_] 27) = w1 at *
  obtain ⟨c0, c1, c2, c3, c4, f0, f1, f2, f3, f4⟩ := hr.facts5
  clear hr
  go_quiet (fail)
  go_wp2_with fail
  go_ret
  exact ⟨congrArg (fun x => Ending.returned (.string x)) (bts_inj (by simp [bts_txt, bts_append, lineL, wordOf, partL, hasOf]; rfl)), (by repeat (first | exact Ext.refl _ | with_reducible assumption | with_reducible refine Ext.alloc_of ?_ _ | with_reducible refine Ext.drewN_of ?_ _ | with_reducible refine Ext.drew_of ?_ | (with_reducible refine Ext.set_of ?_ ?hsz _; case hsz => ((first | exact Nat.le_refl _ | omega | (simp; omega)))) | with_reducible refine Ext.via (by assumption) ?_))⟩
theorem lineR5 (key name val to_ : ByteArray) (w : World) (hok : okC ⟨5, key, name, val, to_⟩ = true) :
    Calls Tryd.prog 14 #[.agg #[.int .i64 5, .string key, .string name, .string val, .string to_]] w fun e w' => e = .returned (.string (txt (lineL ⟨5, key, name, val, to_⟩))) ∧ Ext w w' := by
  obtain ⟨_, _, z0, z1, z2, z3⟩ := okC_iff.1 hok
  dsimp only at z0 z1 z2 z3
  replace z0 := okF_size z0
  replace z1 := okF_size z1
  replace z2 := okF_size z2
  replace z3 := okF_size z3
  have ix : ∀ w, (Instr.index 57 (.agg #[.string ⟨#[]⟩, .string ⟨#[97, 100, 100]⟩, .string ⟨#[100, 114, 111, 112]⟩, .string ⟨#[108, 97, 98, 101, 108]⟩, .string ⟨#[117, 110, 108, 97, 98, 101, 108]⟩, .string ⟨#[115, 101, 116]⟩, .string ⟨#[117, 110, 115, 101, 116]⟩, .string ⟨#[108, 105, 110, 107]⟩, .string ⟨#[117, 110, 108, 105, 110, 107]⟩]) (.int .i64 5)).run Tryd.prog w = .ok (.string ⟨#[115, 101, 116]⟩) w := fun _ => rfl
  have hr := RowAt.new w 27 [.int .i64 5, .string key, .string name, .string val, .string to_]
  have s1 : (⟨#[32]⟩ : ByteArray).size = 1 := rfl
  have s2 : (⟨#[32, 34]⟩ : ByteArray).size = 2 := rfl
  have s3 : (⟨#[34]⟩ : ByteArray).size = 1 := rfl
  have s4 : (⟨#[115, 101, 116]⟩ : ByteArray).size ≤ 7 := by decide
  clear hok
  go_enter Tryd.func14, Tryd.ntmps14
  go_upto_region 1 with fail
  have hx0 := Ext.alloc w (.cells #[.int .i64 5, .string key, .string name, .string val, .string to_] 27)
  generalize w.alloc (.cells #[.int .i64 5, .string key, .string name, .string val, .string to_] 27) = w1 at *
  obtain ⟨c0, c1, c2, c3, c4, f0, f1, f2, f3, f4⟩ := hr.facts5
  clear hr
  go_quiet (fail)
  go_wp2_with fail
  go_ret
  exact ⟨congrArg (fun x => Ending.returned (.string x)) (bts_inj (by simp [bts_txt, bts_append, lineL, wordOf, partL, hasOf]; rfl)), (by repeat (first | exact Ext.refl _ | with_reducible assumption | with_reducible refine Ext.alloc_of ?_ _ | with_reducible refine Ext.drewN_of ?_ _ | with_reducible refine Ext.drew_of ?_ | (with_reducible refine Ext.set_of ?_ ?hsz _; case hsz => ((first | exact Nat.le_refl _ | omega | (simp; omega)))) | with_reducible refine Ext.via (by assumption) ?_))⟩
theorem lineR6 (key name val to_ : ByteArray) (w : World) (hok : okC ⟨6, key, name, val, to_⟩ = true) :
    Calls Tryd.prog 14 #[.agg #[.int .i64 6, .string key, .string name, .string val, .string to_]] w fun e w' => e = .returned (.string (txt (lineL ⟨6, key, name, val, to_⟩))) ∧ Ext w w' := by
  obtain ⟨_, _, z0, z1, z2, z3⟩ := okC_iff.1 hok
  dsimp only at z0 z1 z2 z3
  replace z0 := okF_size z0
  replace z1 := okF_size z1
  replace z2 := okF_size z2
  replace z3 := okF_size z3
  have ix : ∀ w, (Instr.index 57 (.agg #[.string ⟨#[]⟩, .string ⟨#[97, 100, 100]⟩, .string ⟨#[100, 114, 111, 112]⟩, .string ⟨#[108, 97, 98, 101, 108]⟩, .string ⟨#[117, 110, 108, 97, 98, 101, 108]⟩, .string ⟨#[115, 101, 116]⟩, .string ⟨#[117, 110, 115, 101, 116]⟩, .string ⟨#[108, 105, 110, 107]⟩, .string ⟨#[117, 110, 108, 105, 110, 107]⟩]) (.int .i64 6)).run Tryd.prog w = .ok (.string ⟨#[117, 110, 115, 101, 116]⟩) w := fun _ => rfl
  have hr := RowAt.new w 27 [.int .i64 6, .string key, .string name, .string val, .string to_]
  have s1 : (⟨#[32]⟩ : ByteArray).size = 1 := rfl
  have s2 : (⟨#[32, 34]⟩ : ByteArray).size = 2 := rfl
  have s3 : (⟨#[34]⟩ : ByteArray).size = 1 := rfl
  have s4 : (⟨#[117, 110, 115, 101, 116]⟩ : ByteArray).size ≤ 7 := by decide
  clear hok
  go_enter Tryd.func14, Tryd.ntmps14
  go_upto_region 1 with fail
  have hx0 := Ext.alloc w (.cells #[.int .i64 6, .string key, .string name, .string val, .string to_] 27)
  generalize w.alloc (.cells #[.int .i64 6, .string key, .string name, .string val, .string to_] 27) = w1 at *
  obtain ⟨c0, c1, c2, c3, c4, f0, f1, f2, f3, f4⟩ := hr.facts5
  clear hr
  go_quiet (fail)
  go_wp2_with fail
  go_ret
  exact ⟨congrArg (fun x => Ending.returned (.string x)) (bts_inj (by simp [bts_txt, bts_append, lineL, wordOf, partL, hasOf]; rfl)), (by repeat (first | exact Ext.refl _ | with_reducible assumption | with_reducible refine Ext.alloc_of ?_ _ | with_reducible refine Ext.drewN_of ?_ _ | with_reducible refine Ext.drew_of ?_ | (with_reducible refine Ext.set_of ?_ ?hsz _; case hsz => ((first | exact Nat.le_refl _ | omega | (simp; omega)))) | with_reducible refine Ext.via (by assumption) ?_))⟩
theorem lineR7 (key name val to_ : ByteArray) (w : World) (hok : okC ⟨7, key, name, val, to_⟩ = true) :
    Calls Tryd.prog 14 #[.agg #[.int .i64 7, .string key, .string name, .string val, .string to_]] w fun e w' => e = .returned (.string (txt (lineL ⟨7, key, name, val, to_⟩))) ∧ Ext w w' := by
  obtain ⟨_, _, z0, z1, z2, z3⟩ := okC_iff.1 hok
  dsimp only at z0 z1 z2 z3
  replace z0 := okF_size z0
  replace z1 := okF_size z1
  replace z2 := okF_size z2
  replace z3 := okF_size z3
  have ix : ∀ w, (Instr.index 57 (.agg #[.string ⟨#[]⟩, .string ⟨#[97, 100, 100]⟩, .string ⟨#[100, 114, 111, 112]⟩, .string ⟨#[108, 97, 98, 101, 108]⟩, .string ⟨#[117, 110, 108, 97, 98, 101, 108]⟩, .string ⟨#[115, 101, 116]⟩, .string ⟨#[117, 110, 115, 101, 116]⟩, .string ⟨#[108, 105, 110, 107]⟩, .string ⟨#[117, 110, 108, 105, 110, 107]⟩]) (.int .i64 7)).run Tryd.prog w = .ok (.string ⟨#[108, 105, 110, 107]⟩) w := fun _ => rfl
  have hr := RowAt.new w 27 [.int .i64 7, .string key, .string name, .string val, .string to_]
  have s1 : (⟨#[32]⟩ : ByteArray).size = 1 := rfl
  have s2 : (⟨#[32, 34]⟩ : ByteArray).size = 2 := rfl
  have s3 : (⟨#[34]⟩ : ByteArray).size = 1 := rfl
  have s4 : (⟨#[108, 105, 110, 107]⟩ : ByteArray).size ≤ 7 := by decide
  clear hok
  go_enter Tryd.func14, Tryd.ntmps14
  go_upto_region 1 with fail
  have hx0 := Ext.alloc w (.cells #[.int .i64 7, .string key, .string name, .string val, .string to_] 27)
  generalize w.alloc (.cells #[.int .i64 7, .string key, .string name, .string val, .string to_] 27) = w1 at *
  obtain ⟨c0, c1, c2, c3, c4, f0, f1, f2, f3, f4⟩ := hr.facts5
  clear hr
  go_quiet (fail)
  go_wp2_with fail
  go_ret
  exact ⟨congrArg (fun x => Ending.returned (.string x)) (bts_inj (by simp [bts_txt, bts_append, lineL, wordOf, partL, hasOf]; rfl)), (by repeat (first | exact Ext.refl _ | with_reducible assumption | with_reducible refine Ext.alloc_of ?_ _ | with_reducible refine Ext.drewN_of ?_ _ | with_reducible refine Ext.drew_of ?_ | (with_reducible refine Ext.set_of ?_ ?hsz _; case hsz => ((first | exact Nat.le_refl _ | omega | (simp; omega)))) | with_reducible refine Ext.via (by assumption) ?_))⟩
theorem lineR8 (key name val to_ : ByteArray) (w : World) (hok : okC ⟨8, key, name, val, to_⟩ = true) :
    Calls Tryd.prog 14 #[.agg #[.int .i64 8, .string key, .string name, .string val, .string to_]] w fun e w' => e = .returned (.string (txt (lineL ⟨8, key, name, val, to_⟩))) ∧ Ext w w' := by
  obtain ⟨_, _, z0, z1, z2, z3⟩ := okC_iff.1 hok
  dsimp only at z0 z1 z2 z3
  replace z0 := okF_size z0
  replace z1 := okF_size z1
  replace z2 := okF_size z2
  replace z3 := okF_size z3
  have ix : ∀ w, (Instr.index 57 (.agg #[.string ⟨#[]⟩, .string ⟨#[97, 100, 100]⟩, .string ⟨#[100, 114, 111, 112]⟩, .string ⟨#[108, 97, 98, 101, 108]⟩, .string ⟨#[117, 110, 108, 97, 98, 101, 108]⟩, .string ⟨#[115, 101, 116]⟩, .string ⟨#[117, 110, 115, 101, 116]⟩, .string ⟨#[108, 105, 110, 107]⟩, .string ⟨#[117, 110, 108, 105, 110, 107]⟩]) (.int .i64 8)).run Tryd.prog w = .ok (.string ⟨#[117, 110, 108, 105, 110, 107]⟩) w := fun _ => rfl
  have hr := RowAt.new w 27 [.int .i64 8, .string key, .string name, .string val, .string to_]
  have s1 : (⟨#[32]⟩ : ByteArray).size = 1 := rfl
  have s2 : (⟨#[32, 34]⟩ : ByteArray).size = 2 := rfl
  have s3 : (⟨#[34]⟩ : ByteArray).size = 1 := rfl
  have s4 : (⟨#[117, 110, 108, 105, 110, 107]⟩ : ByteArray).size ≤ 7 := by decide
  clear hok
  go_enter Tryd.func14, Tryd.ntmps14
  go_upto_region 1 with fail
  have hx0 := Ext.alloc w (.cells #[.int .i64 8, .string key, .string name, .string val, .string to_] 27)
  generalize w.alloc (.cells #[.int .i64 8, .string key, .string name, .string val, .string to_] 27) = w1 at *
  obtain ⟨c0, c1, c2, c3, c4, f0, f1, f2, f3, f4⟩ := hr.facts5
  clear hr
  go_quiet (fail)
  go_wp2_with fail
  go_ret
  exact ⟨congrArg (fun x => Ending.returned (.string x)) (bts_inj (by simp [bts_txt, bts_append, lineL, wordOf, partL, hasOf]; rfl)), (by repeat (first | exact Ext.refl _ | with_reducible assumption | with_reducible refine Ext.alloc_of ?_ _ | with_reducible refine Ext.drewN_of ?_ _ | with_reducible refine Ext.drew_of ?_ | (with_reducible refine Ext.set_of ?_ ?hsz _; case hsz => ((first | exact Nat.le_refl _ | omega | (simp; omega)))) | with_reducible refine Ext.via (by assumption) ?_))⟩
theorem lineR (c : Ch) (w : World) (hok : okC c = true) : Calls Tryd.prog 14 #[c.v] w fun e w' => e = .returned (.string (txt (lineL c))) ∧ Ext w w' := by
  obtain ⟨kd, key, name, val, to_⟩ := c
  obtain ⟨h1, h8, _⟩ := okC_iff.1 hok
  dsimp only at h1 h8
  have h : kd = 1 ∨ kd = 2 ∨ kd = 3 ∨ kd = 4 ∨ kd = 5 ∨ kd = 6 ∨ kd = 7 ∨ kd = 8 := by omega
  rcases h with rfl | rfl | rfl | rfl | rfl | rfl | rfl | rfl
  · exact lineR1 key name val to_ w hok
  · exact lineR2 key name val to_ w hok
  · exact lineR3 key name val to_ w hok
  · exact lineR4 key name val to_ w hok
  · exact lineR5 key name val to_ w hok
  · exact lineR6 key name val to_ w hok
  · exact lineR7 key name val to_ w hok
  · exact lineR8 key name val to_ w hok
end Go.Proofs.YtilbofkpjgcchaaDoor
