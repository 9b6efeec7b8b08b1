/- The reference's words: plain, and the walk. -/
import Derived.Test.YtilbofkpjgcchaaDoorBatY
import Derived.Test.YtilbofkpjgcchaaDoorOpenB
import Derived.Laws.OwnMore
import Derived.Test.YtilbofkpjgcchaaDoorMix
namespace Go.Proofs.YtilbofkpjgcchaaDoor
set_option maxRecDepth 100000
set_option maxHeartbeats 2000000
set_option linter.unusedVariables false
set_option linter.unusedSimpArgs false
open Go.RowKit

def wordsStep (ws : List (List UInt8)) (c : UInt8) : List (List UInt8) := if c = 32 then ws ++ [[]] else ws.dropLast ++ [(ws.getLast?.getD []) ++ [c]]
def wordsL (l : List UInt8) : List (List UInt8) := l.foldl wordsStep [[]]
theorem wordsL_snoc (l : List UInt8) (c : UInt8) : wordsL (l ++ [c]) = wordsStep (wordsL l) c := by unfold wordsL; rw [List.foldl_append]; rfl
theorem words_step_last (ws : List (List UInt8)) (x : List UInt8) (c : UInt8) : wordsStep (ws ++ [x]) c = if c = 32 then ws ++ [x] ++ [[]] else ws ++ [x ++ [c]] := by
  unfold wordsStep
  split
  · rfl
  · simp
theorem words_fold : ∀ (l : List UInt8) (ws : List (List UInt8)) (x : List UInt8), l.foldl wordsStep (ws ++ [x]) = ws ++ l.foldl wordsStep [x]
  | [], ws, x => rfl
  | c :: l, ws, x => by
    rw [List.foldl_cons, List.foldl_cons, words_step_last]
    have h0 : wordsStep [x] c = if c = 32 then [x] ++ [[]] else [x ++ [c]] := by have := words_step_last [] x c; simpa using this
    rw [h0]
    split
    · rw [words_fold l (ws ++ [x]) [], words_fold l [x] [], List.append_assoc]
    · rw [words_fold l ws (x ++ [c])]
theorem words_dense : ∀ (a : List UInt8), Dense a → ∀ (x : List UInt8), a.foldl wordsStep [x] = [x ++ a]
  | [], _, x => by simp
  | c :: a, h, x => by
    have hc : c ≠ 32 := by
      intro e
      have := h c (by simp)
      subst e
      revert this; decide
    have h0 : wordsStep [x] c = [x ++ [c]] := by have := words_step_last [] x c; rw [if_neg hc] at this; simpa using this
    rw [List.foldl_cons, h0, words_dense a (fun y hy => h y (by simp [hy])) (x ++ [c])]; simp
theorem wordsL_end {a : List UInt8} (h : Dense a) : wordsL a = [a] := by
  unfold wordsL
  rw [words_dense a h []]; rfl
theorem wordsL_at {a b : List UInt8} (h : Dense a) : wordsL (a ++ 32 :: b) = a :: wordsL b := by
  unfold wordsL
  rw [List.foldl_append, words_dense a h [], List.foldl_cons]
  have h0 : wordsStep [[] ++ a] 32 = [a] ++ [[]] := by have := words_step_last [] a 32; rw [if_pos rfl] at this; simpa using this
  rw [h0, words_fold]; rfl
theorem rev_ind {α : Type} {Q : List α → Prop} (h0 : Q []) (h1 : ∀ l c, Q l → Q (l ++ [c])) (l : List α) : Q l := by
  rw [← List.reverse_reverse l]
  induction l.reverse with
  | nil => exact h0
  | cons c r ih => rw [List.reverse_cons]; exact h1 _ _ ih
theorem wordsL_ne (l : List UInt8) : ∃ ws x, wordsL l = ws ++ [x] := by
  refine rev_ind (Q := fun l => ∃ ws x, wordsL l = ws ++ [x]) ?_ ?_ l
  · exact ⟨[], [], rfl⟩
  · intro l c ih
    obtain ⟨ws, x, e⟩ := ih
    rw [wordsL_snoc, e, words_step_last]
    split
    · exact ⟨ws ++ [x], [], rfl⟩
    · exact ⟨ws, x ++ [c], rfl⟩
theorem wordsL_lens (l : List UInt8) : (wordsL l).length ≤ l.length + 1 ∧ ∀ x ∈ wordsL l, x.length ≤ l.length := by
  refine rev_ind (Q := fun l => (wordsL l).length ≤ l.length + 1 ∧ ∀ x ∈ wordsL l, x.length ≤ l.length) ?_ ?_ l
  · exact ⟨by simp [wordsL], fun x hx => by simp [wordsL] at hx; subst hx; simp⟩
  · intro l c ih
    obtain ⟨ws, y, e⟩ := wordsL_ne l
    rw [wordsL_snoc, e, words_step_last]
    rw [e] at ih
    obtain ⟨i1, i2⟩ := ih
    simp only [List.length_append, List.length_cons, List.length_nil] at i1
    have hl : (l ++ [c]).length = l.length + 1 := by simp
    split
    · refine ⟨by simp; omega, fun x hx => ?_⟩
      rcases List.mem_append.1 hx with hx | hx
      · have := i2 x hx; omega
      · simp at hx; subst hx; simp
    · refine ⟨by simp; omega, fun x hx => ?_⟩
      rcases List.mem_append.1 hx with hx | hx
      · have := i2 x (by simp [hx]); omega
      · simp only [List.mem_singleton] at hx; subst hx
        have := i2 y (by simp)
        simp; omega
/-- The texts as cells. -/
def strsV (ws : List (List UInt8)) : List Value := ws.map (fun x => Value.string (txt x))
theorem strsV_snoc (ws : List (List UInt8)) (x : List UInt8) : strsV (ws ++ [x]) = strsV ws ++ [Value.string (txt x)] := by simp [strsV]
theorem elStr : ElT Tryd.prog 23 9 (.string ⟨#[]⟩) 1 16 := ⟨Tryd.underlying23, ⟨_, rfl, by kernel_rfl, by kernel_rfl, by kernel_rfl⟩, rfl, by decide⟩
theorem wordsL_take_snoc (s : ByteArray) (k : Nat) (h : k < s.size) : wordsL ((bts s).take (k + 1)) = wordsStep (wordsL ((bts s).take k)) s[k] := by
  rw [take_snoc (bts s) k (by rw [bts_len]; exact h), wordsL_snoc]; rfl
def mixWords (i : Nat) : Mix := [Mix.pure, .pure, .pure, .pure, .pure, .read, .pure, .pure, .pure, .pure, .pure, .pure, .pure, .write].getD i .write
theorem words_any (s : ByteArray) (w : World) (hs : s.size ≤ 1000000) :
    Calls Tryd.prog 45 #[.string s] w fun e w' => ∃ u, e = .returned u ∧ w'.ownsRow w.heap.size 9 1 u (wordsL (bts s)).length (strsV (wordsL (bts s))) ∧ Ext w w' := by
  go_enter Tryd.func45, Tryd.ntmps45
  have h0 := own_new w w.heap.size #[.string ⟨#[]⟩] 9 1 1 (Nat.le_refl _) rfl (by decide)
  go_upto_region 2 with fail
  have hx0 := Ext.alloc w (.cells #[.string ⟨#[]⟩] 9)
  generalize w.alloc (.cells #[.string ⟨#[]⟩] 9) = w1 at *
  go_wp2_with fail
  go_loopg [3, 8] s.size (fun g v i wr => ∃ k : Nat, k ≤ s.size ∧ g = s.size - k ∧ i = .int .i64 k ∧ wr.ownsRow w.heap.size 9 1 v (wordsL ((bts s).take k)).length (strsV (wordsL ((bts s).take k))) ∧ Ext w wr)
  case atStart => exact ⟨0, Nat.zero_le _, rfl, rfl, h0, hx0⟩
  case round =>
    obtain ⟨k, hk, hg, rfl, ho, hx⟩ := hrel
    have Hg := Lib.hid hg
    clear hg h0 hx0
    by_cases hlt : k < s.size
    · have hln := wordsL_lens ((bts s).take k)
      rw [List.length_take, bts_len] at hln
      have hts := wordsL_take_snoc s k hlt
      obtain ⟨ws, x, hwx⟩ := wordsL_ne ((bts s).take k)
      rw [hwx] at ho hln hts
      rw [words_step_last] at hts
      obtain ⟨hl1, hl2⟩ := hln
      have hl3 := hl2 x (by simp)
      simp only [List.length_append, List.length_cons, List.length_nil] at hl1
      have HO := Lib.hid ho
      clear hl2 hwx
      by_cases hb : s[k] = 32
      · rw [if_pos hb] at hts
        have hb' : (s[k].toNat : Int) = 32 := by rw [hb]; rfl
        have HTS := Lib.hid hts
        clear hts hb
        obtain ⟨av, cv, hav⟩ := own_vw ho
        clear ho
        have hxs := hx.size
        go_wp2_with (at_builtin; refine wpList_append_sl _ rfl _ _ 23 rfl elStr rfl (own_ext HO.out (Ext.alloc _ _)) rfl (Sl.new _ _ _ 1 1 (Nat.le_refl _) ?_) rfl ?_ ?_ ?_ ?_ ?_)
        · unfold maxLen; omega
        · rfl
        · simp only [List.length_append, List.length_cons, List.length_nil]; omega
        · simp only [List.length_append, List.length_cons, List.length_nil]; unfold maxLen; omega
        · first | omega | (simp; omega)
        intro v4 w4 hown4 hB4 _ _
        have HO4 : Hid (w4.ownsRow w.heap.size 9 1 v4 (wordsL ((bts s).take (k + 1))).length (strsV (wordsL ((bts s).take (k + 1))))) := Lib.hid (by
          rw [HTS.out, strsV_snoc, List.length_append, List.length_append]; exact hown4)
        have HX4 : Hid (Ext w w4) := Lib.hid ((below_step hx (Ext.alloc _ _)).trans hB4)
        clear hown4 hB4
        go_wp2_with fail
        go_roundg (s.size - (k + 1))
        case measure => have := Hg.out; omega
        case rel => exact ⟨k + 1, by omega, rfl, by go_num, HO4.out, HX4.out⟩
      · rw [if_neg hb] at hts
        have hb' : ¬ (s[k].toNat : Int) = 32 := fun e => hb (UInt8.toNat_inj.1 (by have h32 : (32 : UInt8).toNat = 32 := rfl; omega))
        have hb'' : ((s[k].toNat : Int) == 32) = false := by simpa using hb'
        have HTS := Lib.hid hts
        clear hts hb
        rcases ho.2 with ⟨rfl, h0⟩ | ⟨g, cap, cur, rfl, hbg, hgg, hncap, hcapm, hcs, htk⟩
        · exfalso
          first | (simp at h0; done) | (have := h0.2; simp [strsV] at this)
        · have hcell : wr.cell? ⟨g, ws.length, none⟩ = some (.string (txt x)) := by
            rw [HO.out.cellAt ws.length (by simp)]
            rw [strsV_snoc, List.getElem?_append_right (by simp [strsV])]; simp [strsV]
          have hfr : wr.frozen? ⟨g, ws.length, none⟩ = false := HO.out.frozenAt ws.length
          have hx1 : (txt x).size ≤ 1000000 := by rw [txt_size]; omega
          have hxt := bts_txt x
          have HXT := Lib.hid hxt
          generalize txt x = xs at *
          simp only [List.length_append, List.length_cons, List.length_nil, Nat.zero_add] at *
          clear ho hgg hncap hcapm hcs htk hxt
          go_upto_region 7 with fail
          refine wp_region_mix mixWords [0, 1, 2, 3, 4, 5, 6, 7, 8, 9, 10, 11, 12, 13] (by kernel_rfl) (by kernel_rfl) rfl (by kernel_rfl) (fun _ _ _ _ _ h => h) ?_
          have hxq : Ext wr wr.drew := Ext.drewN wr 1
          generalize wr.drew = wq at *
          have HOQ := own_ext HO.out hxq
          obtain ⟨hst, hgr⟩ := HOQ.stored ws.length (.string (xs ++ s.extract k (k + 1)))
          have hc2 : wq.cell? ⟨g, ws.length, none⟩ = some (.string xs) := ext_cell hxq hcell
          have hf2 : wq.frozen? ⟨g, ws.length, none⟩ = false := HOQ.frozenAt ws.length
          have HST := Lib.hid hst
          have HGR := Lib.hid hgr
          clear hst hgr HOQ
          have wr1 : IntKind.i64.wrap (ws.length : Int) = ws.length := IntWalk.i64_in _ (by omega)
          have wr2 : IntKind.i64.wrap ((k : Int) + 1) = (k : Int) + 1 := IntWalk.i64_in _ (by omega)
          have sl1 : ∀ w, (Instr.slice 9 (.string s) (some (.int .i64 k)) (some (.int .i64 ((k : Int) + 1))) none).run Tryd.prog w = .ok (.string (s.extract k (k + 1))) w := fun w => by
            rw [run_slice_string_if w 9 s .i64 .i64 k ((k : Int) + 1) Tryd.underlying9, if_pos (by omega), if_pos (by omega)]
            rfl
          have lt1 : (ws.length : Int) < (ws.length : Int) + 1 := by omega
          have lt2 : ¬ (9223372036854775807 < xs.size + (min (k + 1) s.size - k)) := by omega
          repeat (first
            | (refine mixL_pure rfl rfl (fun K hK => ?_); go_simp; refine hK _ ?_; clear hK K)
            | (refine mixL_read rfl rfl (fun K hK => ?_); go_simp; refine hK _ ?_; clear hK K)
            | (refine mixL_write rfl rfl (fun K hK => ?_); go_simp; refine hK _ _ ?_; clear hK K))
          refine mixL_nil ?_
          have hset : (strsV (ws ++ [x])).set ws.length (Value.string (xs ++ s.extract k (k + 1))) = strsV (ws ++ [x ++ [s[k]]]) := by
            rw [strsV_snoc, strsV_snoc, List.set_append_right _ _ (by simp [strsV])]
            have e : xs ++ s.extract k (k + 1) = txt (x ++ [s[k]]) := bts_inj (by
              rw [bts_append, bts_txt, bts_extract, HXT.out, bts_drop s k hlt]; simp)
            rw [e]; simp [strsV]
          have HO4 : Hid ((wq.setCell ⟨g, ws.length, none⟩ (.string (xs ++ s.extract k (k + 1)))).ownsRow w.heap.size 9 1 (.slice (some ⟨g, 0, none⟩) (ws.length + 1) cap) (wordsL ((bts s).take (k + 1))).length (strsV (wordsL ((bts s).take (k + 1))))) := Lib.hid (by
            rw [HTS.out, ← hset, List.length_append]; exact HST.out)
          have HX4 : Hid (Ext w (wq.setCell ⟨g, ws.length, none⟩ (.string (xs ++ s.extract k (k + 1))))) := Lib.hid (Ext.set_of (hx.trans hxq) hbg _)
          clear hset hc2 hf2 sl1 lt1 lt2 wr1 wr2
          generalize wq.setCell ⟨g, ws.length, none⟩ (.string (xs ++ s.extract k (k + 1))) = wz at *
          go_wp2_with fail
          go_roundg (s.size - (k + 1))
          case measure => have := Hg.out; omega
          case rel => exact ⟨k + 1, by omega, rfl, by go_num, HO4.out, HX4.out⟩
    · have hkk : k = s.size := by omega
      have ht : (bts s).take k = bts s := List.take_of_length_le (by rw [bts_len]; omega)
      rw [ht] at ho
      have HO := Lib.hid ho
      clear ho ht
      go_wp2_with fail
      go_ret
      exact ⟨_, rfl, HO.out, hx⟩
end Go.Proofs.YtilbofkpjgcchaaDoor
