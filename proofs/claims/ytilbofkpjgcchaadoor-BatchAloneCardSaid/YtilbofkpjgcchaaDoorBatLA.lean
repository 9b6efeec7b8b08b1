/- The walk of BatchAlone: strings.SplitAfter at a feed, strings.Join. -/
import Derived.Test.YtilbofkpjgcchaaDoorBatAl
import Derived.Test.YtilbofkpjgcchaaDoorBatM
import Derived.Test.YtilbofkpjgcchaaDoorBatOf
namespace Go.Proofs.YtilbofkpjgcchaaDoor
set_option maxRecDepth 100000
set_option maxHeartbeats 2000000
set_option linter.unusedVariables false
set_option linter.unusedSimpArgs false
open Go.RowKit

theorem strsV_bytes (L : List ByteArray) : strsV (L.map bts) = L.map Value.string := by
  unfold strsV
  rw [List.map_map]
  exact List.map_congr_left fun x _ => by simp [txt_bts]
theorem split_any (s : ByteArray) (w : World) (hs : s.size ≤ 100000) (m : Int) (hm : w.cell? ⟨1, 0, none⟩ = some (.int .i64 m)) {xs : List (List UInt8)} {t : List UInt8}
    (h1 : (Lib.splitB feedS 1 xs.length s).map bts = xs ++ [t]) (h2 : Lib.countB s feedS = xs.length) :
    Calls Tryd.prog 24 #[.string s, .string feedS] w fun e w' => ∃ b, e = .returned (.slice (some ⟨b, 0, none⟩) (xs ++ [t]).length (xs ++ [t]).length) ∧ Sl w' (.slice (some ⟨b, 0, none⟩) (xs ++ [t]).length (xs ++ [t]).length) (xs ++ [t]).length (strsV (xs ++ [t])) ∧ b < w'.heap.size ∧ Ext w w' := by
  have hle := Lib.countB_le feedS (by decide) _ s (Nat.le_refl _)
  have hg := Tryd.strings_genSplit s feedS 1 (-1) (xs.length + 1) m w (by omega) hm (by decide) (by decide) (by decide) (by decide) (by rw [h2] at hle ⊢; rw [if_pos (by decide)]; omega)
  have hll : (Lib.splitB feedS 1 xs.length s).length = xs.length + 1 := by have := congrArg List.length h1; simpa using this
  have e1 : xs.length + 1 - 1 = xs.length := by omega
  have hc : Lib.cellsOf (Lib.splitB feedS 1 xs.length s) (xs.length + 1) = (strsV (xs ++ [t])).toArray := by
    rw [← h1, strsV_bytes, ← hll, Lib.cellsOf_full]
  rw [e1, hc, hll] at hg
  have hlp : (xs ++ [t]).length = xs.length + 1 := by simp
  have hsl := (RowAt.new w 9 (strsV (xs ++ [t]))).sl (xs.length + 1) (xs.length + 1) (Nat.le_refl _) (by unfold maxLen; omega)
  have HG := Lib.hid hg
  have HSL := Lib.hid hsl
  have HX := Lib.hid (Ext.alloc w (.cells (strsV (xs ++ [t])).toArray 9))
  have HB : Hid (w.heap.size < (w.alloc (.cells (strsV (xs ++ [t])).toArray 9)).heap.size) := Lib.hid (by simp)
  rw [hlp]
  clear hg hsl hle hc hll e1 h1 h2
  generalize w.alloc (.cells (strsV (xs ++ [t])).toArray 9) = w1 at *
  unfold feedS at *
  go_enter Tryd.func24, Tryd.ntmps24
  go_wp2_with fail
  refine HG.out.mono ?_
  rintro e w' ⟨rfl, rfl⟩
  go_wp2_with fail
  go_ret
  exact ⟨_, rfl, HSL.out, HB.out, HX.out⟩
theorem strs_take {w : World} {b o n c : Nat} {ws : List (List UInt8)} (h : Sl w (.slice (some ⟨b, o, none⟩) n c) ws.length (strsV ws)) (k : Nat) (hk : k ≤ ws.length) : ∀ (j : Nat) x, ((ws.take k).map txt)[j]? = some x → w.cell? ⟨b, o + j, none⟩ = some (.string x) := by
  intro j x hj
  have hlt : j < k := by
    have := (List.getElem?_eq_some_iff.1 hj).1
    rw [List.length_map, List.length_take] at this; omega
  obtain ⟨b', o', e, _, hc⟩ := strs_cell h (i := j) (by omega)
  simp only [Option.some.injEq, Addr.mk.injEq, and_true] at e
  obtain ⟨rfl, rfl⟩ := e
  rw [hc]
  have : x = txt (atL ws j) := by
    rw [List.getElem?_map, List.getElem?_take, if_pos hlt, List.getElem?_eq_getElem (by omega)] at hj
    simp only [Option.map_some, Option.some.injEq] at hj
    rw [← hj]
    unfold atL
    rw [List.getD_eq_getElem?_getD, List.getElem?_eq_getElem (by omega)]; rfl
  rw [this]
theorem join_any {w : World} {b o n c : Nat} {ws : List (List UInt8)} (h : Sl w (.slice (some ⟨b, o, none⟩) n c) ws.length (strsV ws)) (k : Nat) (hk : k ≤ ws.length) (hb : b < w.heap.size) (hn : ws.length ≤ 100000) (hc : ws.length ≤ c) (hl : (ws.take k).flatten.length ≤ 1000000) :
    Calls Tryd.prog 25 #[.slice (some ⟨b, o, none⟩) k c, .string ⟨#[]⟩] w fun e w' => e = .returned (.string (txt (ws.take k).flatten)) ∧ Ext w w' := by
  by_cases h0 : k = 0
  · subst h0
    refine (Tryd.strings_Join_none (some ⟨b, o, none⟩) c ⟨#[]⟩ w).mono ?_
    rintro e w' ⟨rfl, rfl⟩
    exact ⟨rfl, Ext.refl _⟩
  · have hll : ((ws.take k).map txt).length = k := by rw [List.length_map, List.length_take]; omega
    have hj : Lib.join (((ws.take k).map txt).map (·.data.toList)) (⟨#[]⟩ : ByteArray).data.toList = (ws.take k).flatten := by
      have : ((ws.take k).map txt).map (·.data.toList) = ws.take k := by
        rw [List.map_map]
        have : ((fun x : ByteArray => x.data.toList) ∘ txt) = id := by funext x; exact bts_txt x
        rw [this, List.map_id]
      rw [this]; exact join_flat _
    have := Tryd.strings_Join b o c ((ws.take k).map txt) ⟨#[]⟩ w (strs_take h k hk) hb (by omega) (by omega) (by rw [hj]; omega)
    rw [hj, hll] at this
    exact this
end Go.Proofs.YtilbofkpjgcchaaDoor
