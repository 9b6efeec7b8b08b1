/- Is one of the texts no name of its kind? -/
import Derived.Test.YtogoejlbdbapoaaDicB
import Derived.Test.YtogoejlbdbapoaaDicD
namespace Go.Proofs.Ytogoejlbdbapoaa
set_option maxRecDepth 100000
set_option maxHeartbeats 2000000
set_option linter.unusedVariables false
set_option linter.unusedSimpArgs false
open Go.RowKit Go.Shelf

/-- One of them is no name of the kind. -/
def badB (k : Int) (T : List ByteArray) : Bool := T.any (fun s => !(mayB k (bts s)))
theorem badB_take (k : Int) (T : List ByteArray) (i : Nat) (h : i < T.length) : badB k (T.take (i + 1)) = (badB k (T.take i) || !(mayB k (bts T[i]))) := by
  unfold badB
  rw [take_snoc T i h, List.any_append]; simp
theorem badB_mem {k : Int} {T : List ByteArray} {i : Nat} (h : i < T.length) (hb : mayB k (bts T[i]) = false) : badB k T = true := by
  unfold badB
  rw [List.any_eq_true]
  exact ⟨T[i], List.getElem_mem h, by rw [hb]; rfl⟩
theorem bad_any (k : Int) (x : Nat) (s : ByteArray) (w : World) (hs : s.size ≤ 9223372036854775807) (hx : w.cell? ⟨x, 0, none⟩ = some (.int .i64 k)) :
    Calls Try.prog 41 #[.string s, .pointer (some ⟨x, 0, none⟩)] w fun e w' => e = .returned (.bool (!(mayB k (bts s)))) ∧ Ext w w' := by
  have hm := may_any k s w hs
  generalize mayB k (bts s) = b at *
  have HM := Lib.hid hm
  clear hm
  go_enter Try.func41, Try.ntmps41
  go_wp2_with fail
  refine HM.out.mono ?_
  rintro e w1 ⟨rfl, hx1⟩
  cases b
  all_goals
    go_wp2_with fail
    go_ret
    exact ⟨rfl, hx1⟩
theorem index_any (k : Int) (x : Nat) (v : Value) (T : List ByteArray) (w : World) (hT : Strs w v T) (hTs : ∀ s ∈ T, s.size ≤ 9223372036854775807) (hx : w.cell? ⟨x, 0, none⟩ = some (.int .i64 k)) :
    Calls Try.prog 65 #[v, .func (.func 41) #[] #[.pointer (some ⟨x, 0, none⟩)]] w fun e w' => ∃ r : Int, e = .returned (.int .i64 r) ∧ decide (0 ≤ r) = badB k T ∧ Ext w w' := by
  obtain ⟨a, c, rfl, hc1, hc2⟩ := Sl.shape hT
  have HT := Lib.hid hT
  have HTs := Lib.hid hTs
  clear hT hTs
  go_enter Try.func65, Try.ntmps65
  go_wp2_with fail
  go_loopg [8] T.length (fun g i wr => ∃ j : Nat, j ≤ T.length ∧ g = T.length - j ∧ i = .int .i64 j ∧ badB k (T.take j) = false ∧ Ext w wr)
  case atStart => exact ⟨0, Nat.zero_le _, rfl, rfl, rfl, Ext.refl _⟩
  case round =>
    obtain ⟨j, hj, hg, rfl, hb, hxr⟩ := hrel
    have Hg := Lib.hid hg
    have HB := Lib.hid hb
    clear hg hb
    by_cases hlt : j < T.length
    · obtain ⟨b, o, rfl, c0⟩ := (HT.out.ext hxr).at_ hlt
      have hcx := ext_cell hxr hx
      have hba := fun w' (h : Ext w w') => bad_any k x T[j] w' (HTs.out _ (List.getElem_mem hlt)) (ext_cell h hx)
      have hsn := badB_take k T j hlt
      have hmem := fun h => badB_mem (k := k) hlt h
      rw [HB.out, Bool.false_or] at hsn
      generalize mayB k (bts T[j]) = m at *
      generalize T[j] = s at *
      have HBA := Lib.hid hba
      have HSN := Lib.hid hsn
      have HMEM := Lib.hid hmem
      clear hba hsn hmem
      cases m with
      | true =>
        go_wp2_with fail
        refine (HBA.out _ hxr).mono ?_
        rintro e w2 ⟨rfl, hx2⟩
        go_wp2_with fail
        go_roundg (T.length - (j + 1))
        case measure => have := Hg.out; omega
        case rel => exact ⟨j + 1, by omega, rfl, by go_num, HSN.out, hxr.trans hx2⟩
      | false =>
        have HF := Lib.hid (HMEM.out rfl)
        go_wp2_with fail
        refine (HBA.out _ hxr).mono ?_
        rintro e w2 ⟨rfl, hx2⟩
        go_wp2_with fail
        go_ret
        exact ⟨j, rfl, by rw [HF.out]; exact decide_eq_true (by omega), hxr.trans hx2⟩
    · have hb := HB.out
      rw [List.take_of_length_le (by omega)] at hb
      have HF := Lib.hid hb
      clear hb
      go_wp2_with fail
      go_ret
      exact ⟨-1, rfl, by rw [HF.out]; rfl, hxr⟩
theorem contains_any (k : Int) (x : Nat) (v : Value) (T : List ByteArray) (w : World) (hT : Strs w v T) (hTs : ∀ s ∈ T, s.size ≤ 9223372036854775807) (hx : w.cell? ⟨x, 0, none⟩ = some (.int .i64 k)) :
    Calls Try.prog 43 #[v, .func (.func 41) #[] #[.pointer (some ⟨x, 0, none⟩)]] w fun e w' => e = .returned (.bool (badB k T)) ∧ Ext w w' := by
  have hi := index_any k x v T w hT hTs hx
  generalize badB k T = r at *
  have HI := Lib.hid hi
  clear hi
  go_enter Try.func43, Try.ntmps43
  go_wp2_with fail
  refine HI.out.mono ?_
  rintro e w1 ⟨q, rfl, hq, hx1⟩
  have HQ := Lib.hid hq
  clear hq
  by_cases h : 0 ≤ q
  · go_wp2_with fail
    go_ret
    exact ⟨ret_bool (by rw [← HQ.out]; try exact (decide_eq_true h).symm), hx1⟩
  · go_wp2_with fail
    go_ret
    exact ⟨ret_bool (by rw [← HQ.out]; try exact (decide_eq_false h).symm), hx1⟩
end Go.Proofs.Ytogoejlbdbapoaa
