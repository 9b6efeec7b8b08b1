/- What stands for a token; which may be. -/
import Derived.Test.YtofglbngnjcpeaaDoorLexD
namespace Go.Proofs.YtofglbngnjcpeaaDoor
set_option maxRecDepth 100000
set_option maxHeartbeats 2000000
set_option linter.unusedVariables false
set_option linter.unusedSimpArgs false
open Go.RowKit

def tkV (t : Tk) : Value := .agg #[.int .i64 t.kind, .string t.text, .int .i64 t.at_]

theorem stands_sign (t : Tk) (w : World) (h1 : (t.kind == 1) = false) (h2 : (t.kind == 2) = false) (h3 : (t.kind == 3) = false) (x : List UInt8)
    (hl : ∀ w' b, MapAt (.int .i64) w' b signKV → (Instr.lookup 55 (.map (some b)) (.int .i64 t.kind) false).run Tryd.prog w' = .ok (.agg #[.string (txt x)]) w') :
    Calls Tryd.prog 12 #[tkV t] w fun e w' => e = .returned (.string (txt x)) ∧ Ext w w' := by
  obtain ⟨tk, tt, ta⟩ := t
  unfold tkV
  dsimp only at *
  have Hl := Lib.hid hl
  clear hl
  have hr := RowAt.new w 28 [.int .i64 tk, .string tt, .int .i64 ta]
  go_enter Tryd.func12, Tryd.ntmps12
  go_upto_region 8 with fail
  have hx0 := Ext.alloc w (.cells #[.int .i64 tk, .string tt, .int .i64 ta] 28)
  generalize w.alloc (.cells #[.int .i64 tk, .string tt, .int .i64 ta] 28) = w1 at *
  obtain ⟨c0, c1, c2, f0, f1, f2⟩ := hr.facts3
  have HR := Lib.hid hr
  clear hr
  have hfd : ∀ w', (Instr.field 54 (.agg #[.string (txt x)]) 0).run Tryd.prog w' = .ok (.string (txt x)) w' := fun _ => by kernel_rfl
  go_region_with (go_at_call 25; refine (signs_any _).mono ?_; rintro e w2 ⟨rfl, hm, hx, hsz⟩; have hm2 : MapAt (.int .i64) w2 w1.heap.size signKV := hm; have hlk := Hl.out _ _ hm2; have hx1 : Ext w1 w2 := Ext.trans (by first | exact Ext.refl _ | exact Ext.drewN w1 1) hx; have d0 := ext_cell hx1 c0; clear hsz hm hm2)
  all_goals go_wp2
  all_goals exact bodyPost_ret (v := .string (txt x)) (by simp [results, Tryd.results12, go_sem, Act.put]) rfl ⟨rfl, (by repeat (first | exact Ext.refl _ | with_reducible assumption | with_reducible refine Ext.alloc_of ?_ _ | with_reducible refine Ext.drewN_of ?_ _ | with_reducible refine Ext.drew_of ?_ | (with_reducible refine Ext.set_of ?_ ?hsz _; case hsz => ((first | exact Nat.le_refl _ | omega | (simp; omega)))) | with_reducible refine Ext.via (by assumption) ?_))⟩

theorem sign_at {k : Int} {x : List UInt8} (h : (k, x) ∈ signs) : ∃ j : Nat, signKV[j]? = some (.int .i64 k, .agg #[.string (txt x)]) := by
  have hk : (Value.int .i64 k, Value.agg #[.string (txt x)]) ∈ signKV := List.mem_map.2 ⟨(k, x), h, rfl⟩
  obtain ⟨j, hj, e⟩ := List.getElem_of_mem hk
  exact ⟨j, by rw [List.getElem?_eq_getElem hj, e]⟩
theorem sign_not {k : Int} (h : ∀ x ∈ signs, x.1 ≠ k) : ∀ p ∈ signKV, p.1 ≠ .int .i64 k := fun p hp e => by
  obtain ⟨x, hx, rfl⟩ := List.mem_map.1 hp
  exact h x hx (by simpa using e)
theorem stands_any (t : Tk) (w : World) (hs : t.text.size ≤ 9223372036854775800) :
    Calls Tryd.prog 12 #[tkV t] w fun e w' => e = .returned (.string (txt t.stands)) ∧ Ext w w' := by
  by_cases h1 : t.kind = 1
  · obtain ⟨tk, tt, ta⟩ := t
    obtain rfl : tk = 1 := h1
    unfold tkV Tk.stands
    dsimp only at *
    go_enter Tryd.func12, Tryd.ntmps12
    go_wp2
    go_ret
    exact ⟨by simp [standsL, txt_bts], (by repeat (first | exact Ext.refl _ | with_reducible assumption | with_reducible refine Ext.alloc_of ?_ _ | with_reducible refine Ext.drewN_of ?_ _ | with_reducible refine Ext.drew_of ?_ | (with_reducible refine Ext.set_of ?_ ?hsz _; case hsz => ((first | exact Nat.le_refl _ | omega | (simp; omega)))) | with_reducible refine Ext.via (by assumption) ?_))⟩
  by_cases h2 : t.kind = 2
  · obtain ⟨tk, tt, ta⟩ := t
    obtain rfl : tk = 2 := h2
    unfold tkV Tk.stands
    dsimp only at *
    go_enter Tryd.func12, Tryd.ntmps12
    go_wp2
    go_ret
    exact ⟨by
      have e : txt (standsL 2 (bts tt)) = (⟨#[64]⟩ : ByteArray) ++ tt := bts_inj (by rw [bts_txt, bts_append]; rfl)
      rw [e]; rfl, (by repeat (first | exact Ext.refl _ | with_reducible assumption | with_reducible refine Ext.alloc_of ?_ _ | with_reducible refine Ext.drewN_of ?_ _ | with_reducible refine Ext.drew_of ?_ | (with_reducible refine Ext.set_of ?_ ?hsz _; case hsz => ((first | exact Nat.le_refl _ | omega | (simp; omega)))) | with_reducible refine Ext.via (by assumption) ?_))⟩
  by_cases h3 : t.kind = 3
  · obtain ⟨tk, tt, ta⟩ := t
    obtain rfl : tk = 3 := h3
    unfold tkV Tk.stands
    dsimp only at *
    go_enter Tryd.func12, Tryd.ntmps12
    go_wp2
    go_ret
    exact ⟨by
      have e : txt (standsL 3 (bts tt)) = (⟨#[34]⟩ : ByteArray) ++ tt ++ ⟨#[34]⟩ := bts_inj (by rw [bts_txt, bts_append, bts_append]; rfl)
      rw [e]; rfl, (by repeat (first | exact Ext.refl _ | with_reducible assumption | with_reducible refine Ext.alloc_of ?_ _ | with_reducible refine Ext.drewN_of ?_ _ | with_reducible refine Ext.drew_of ?_ | (with_reducible refine Ext.set_of ?_ ?hsz _; case hsz => ((first | exact Nat.le_refl _ | omega | (simp; omega)))) | with_reducible refine Ext.via (by assumption) ?_))⟩
  have hf : ∀ {x : Int}, t.kind ≠ x → (t.kind == x) = false := fun h => by simpa using h
  by_cases hx : ∃ x, (t.kind, x) ∈ signs
  · obtain ⟨x, hx⟩ := hx
    obtain ⟨j, hj⟩ := sign_at hx
    unfold Tk.stands
    rw [standsL_sign hx]
    exact stands_sign t w (hf h1) (hf h2) (hf h3) x (fun w' b hm => run_get_yes Tryd.underlying55 Tryd.underlying3 hm (isKey_i64 _) hj false)
  · have hn : ∀ x ∈ signs, x.1 ≠ t.kind := fun x hm e => hx ⟨x.2, by rw [← e]; exact hm⟩
    unfold Tk.stands
    rw [standsL_none h1 h2 h3 hn]
    exact stands_sign t w (hf h1) (hf h2) (hf h3) [] (fun w' b hm => run_get_no Tryd.underlying55 Tryd.underlying3 hm (isKey_i64 _) (sign_not hn) (by kernel_rfl) false)
end Go.Proofs.YtofglbngnjcpeaaDoor
