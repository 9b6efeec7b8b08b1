/- small, cut, same. -/
import Derived.Test.YtkhmkgobmfhchaaTabL
namespace Go.Proofs.Ytkhmkgobmfhchaa
open Go.RowKit Go.Shelf Go.Sort
set_option linter.unusedVariables false

theorem run_cut_str (s : ByteArray) (n : Nat) (i : Int) (hi : i = n) (h : n ≤ s.size) (w : World) :
    (Instr.slice 9 (.string s) none (some (.int .i64 i)) none).run Try.prog w = .ok (.string (s.extract 0 n)) w := by
  subst hi
  rw [run_slice_string_h w 9 s Try.underlying9 .i64 (n : Int) (by omega) (by omega)]
  rfl
theorem ba_cut_size (s : ByteArray) (n : Nat) (h : n ≤ s.size) : (s.extract 0 n).size = n := by rw [ByteArray.size_extract]; omega
def cutT (s : ByteArray) : ByteArray := s.extract 0 (min s.size 60)
theorem cutT_size (s : ByteArray) : (cutT s).size ≤ 60 := by unfold cutT; rw [ba_cut_size _ _ (by omega)]; omega
theorem cut_any (s : ByteArray) (w : World) (hs : s.size ≤ 9223372036854775807) : Calls Try.prog 13 #[.string s] w fun e w' => e = .returned (.string (cutT s)) ∧ w = w' := by
  unfold cutT
  by_cases h : 60 < s.size
  · have hc := run_cut_str s 60 60 (by omega) (by omega)
    have hm : min s.size 60 = 60 := by omega
    rw [hm]
    generalize s.extract 0 60 = S at hc
    go_enter Try.func13, Try.ntmps13
    go_wp2
    all_goals first | omega | skip
    go_ret
    exact ⟨rfl, rfl⟩
  · have hc := run_cut_str s s.size s.size rfl (by omega)
    have hm : min s.size 60 = s.size := by omega
    rw [hm]
    generalize s.extract 0 s.size = S at hc
    go_enter Try.func13, Try.ntmps13
    go_wp2
    all_goals first | omega | skip
    go_ret
    exact ⟨rfl, rfl⟩

theorem small_any (T : List ByteArray) (S : List Int) (a : Option Addr) (n c : Nat) (b : Option Addr) (m d : Nat) (w : World) (hT : Strs w (.slice a n c) T) (hS : Ints w .i64 (.slice b m d) S) :
    Calls Try.prog 9 #[.agg #[.slice a n c, .slice b m d]] w fun e w' => e = .returned (.bool (decide (n ≤ 40) && decide (m ≤ 128))) ∧ Ext w w' := by
  by_cases h1 : n ≤ 40
  · go_enter Try.func9, Try.ntmps9
    go_wp2
    go_ret
    exact ⟨ret_bool (by rw [decide_eq_true h1, Bool.true_and]; congr 1; simp; omega), Ext.alloc _ _⟩
  · go_enter Try.func9, Try.ntmps9
    go_wp2
    go_ret
    exact ⟨ret_bool (by first | rfl | simp [h1]), Ext.alloc _ _⟩
set_option maxRecDepth 100000 in
theorem same_any (T T' : List ByteArray) (S S' : List Int) (a : Option Addr) (n c : Nat) (b : Option Addr) (m d : Nat) (a' : Option Addr) (n' c' : Nat) (b' : Option Addr) (m' d' : Nat) (w : World) (hT : Strs w (.slice a n c) T) (hS : Ints w .i64 (.slice b m d) S)
    (hT' : Strs w (.slice a' n' c') T') (hS' : Ints w .i64 (.slice b' m' d') S') :
    Calls Try.prog 19 #[.agg #[.slice a n c, .slice b m d], .agg #[.slice a' n' c', .slice b' m' d']] w fun e w' => e = .returned (.bool (decide (T = T') && decide (S = S'))) ∧ Ext w w' := by
  go_enter Try.func19, Try.ntmps19
  go_upto_region 1 with fail
  have hx : Ext w ((w.alloc (.cells #[.slice a n c, .slice b m d] 25)).alloc (.cells #[.slice a' n' c', .slice b' m' d'] 25)) := (Ext.alloc _ _).trans (Ext.alloc _ _)
  have hr1 : RowAt ((w.alloc (.cells #[.slice a n c, .slice b m d] 25)).alloc (.cells #[.slice a' n' c', .slice b' m' d'] 25)) w.heap.size 25 [.slice a n c, .slice b m d] := (RowAt.new w 25 [.slice a n c, .slice b m d]).ext (Ext.alloc _ _)
  have hr2 : RowAt ((w.alloc (.cells #[.slice a n c, .slice b m d] 25)).alloc (.cells #[.slice a' n' c', .slice b' m' d'] 25)) (w.heap.size + 1) 25 [.slice a' n' c', .slice b' m' d'] := row_at (by simp)
  generalize ((w.alloc (.cells #[.slice a n c, .slice b m d] 25)).alloc (.cells #[.slice a' n' c', .slice b' m' d'] 25)) = w1 at *
  have b0 := hr1.cell (i := 0) rfl
  have b1 := hr1.cell (i := 1) rfl
  have c0 := hr2.cell (i := 0) rfl
  have c1 := hr2.cell (i := 1) rfl
  clear hr1 hr2
  by_cases h : T = T'
  · go_wp2_with fail
    refine (equalS_yes _ _ _ _ _ (hT.ext hx) (hT'.ext hx) h).mono ?_
    rintro e w2 ⟨rfl, n2, rfl⟩
    go_wp2_with fail
    refine (equalI _ _ _ _ _ (hS.ext (hx.trans (Ext.drewN _ _))) (hS'.ext (hx.trans (Ext.drewN _ _)))).mono ?_
    rintro e w3 ⟨rfl, n3, rfl⟩
    go_wp2
    go_ret
    exact ⟨ret_bool (by rw [decide_eq_true h, Bool.true_and]), hx.trans (Ext.drewN _ _)⟩
  · go_wp2_with fail
    refine (equalS_no _ _ _ _ _ (hT.ext hx) (hT'.ext hx) h).mono ?_
    rintro e w2 ⟨rfl, n2, rfl⟩
    go_wp2
    go_ret
    exact ⟨ret_bool (by rw [decide_eq_false h]; rfl), hx.trans (Ext.drewN _ _)⟩
end Go.Proofs.Ytkhmkgobmfhchaa
