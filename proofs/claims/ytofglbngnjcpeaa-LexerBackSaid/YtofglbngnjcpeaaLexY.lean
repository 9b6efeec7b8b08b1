/- Few tokens; their plain text. -/
import Derived.Test.YtofglbngnjcpeaaLexR
import Derived.Test.YtofglbngnjcpeaaLexF
namespace Go.Proofs.Ytofglbngnjcpeaa
set_option maxRecDepth 100000
set_option maxHeartbeats 2000000
set_option linter.unusedVariables false
set_option linter.unusedSimpArgs false
open Go.RowKit

def cutTk (t : Tk) : Tk := ⟨t.kind, t.text.extract 0 (min (t.text.size : Int) 80).toNat, t.at_⟩
def fewL (l : List Tk) : List Tk := (l.take 60).map cutTk
theorem cutTk_size (t : Tk) : (cutTk t).text.size ≤ 80 := by unfold cutTk; dsimp only; simp; omega
theorem fewL_len (l : List Tk) : (fewL l).length ≤ 60 := by unfold fewL; simp; omega
theorem fewL_size (l : List Tk) : ∀ t ∈ fewL l, t.text.size ≤ 80 := fun t ht => by
  obtain ⟨x, _, rfl⟩ := List.mem_map.1 ht
  exact cutTk_size x
theorem fewL_more (l : List Tk) (k : Nat) (hk : k < l.length) (h : k < 60) : fewL (l.take (k + 1)) = fewL (l.take k) ++ [cutTk l[k]] := by
  unfold fewL
  rw [List.take_take, List.take_take, Nat.min_eq_right (by omega), Nat.min_eq_right (by omega), take_snoc l k hk, List.map_append]
  rfl
theorem fewL_same (l : List Tk) (k : Nat) (h : 60 ≤ k) : fewL (l.take (k + 1)) = fewL (l.take k) := by
  unfold fewL
  rw [List.take_take, List.take_take, Nat.min_eq_left (by omega), Nat.min_eq_left (by omega)]

theorem few_any (v : Value) (l : List Tk) (w : World) (hv : Toks w v l) :
    Calls Try.prog 11 #[v] w fun e w' => ∃ u, e = .returned u ∧ w'.ownsRow w.heap.size 29 3 u (fewL l).length ((fewL l).flatMap tkCells) ∧ Ext w w' := by
  obtain ⟨a, c, rfl, hc1, hc2⟩ := hv.shape
  have HV := Lib.hid hv
  clear hv
  go_enter Try.func11, Try.ntmps11
  go_wp2_with fail
  go_loopg [3, 8] l.length (fun g v i wr => ∃ k : Nat, k ≤ l.length ∧ g = l.length - k ∧ i = .int .i64 k ∧ wr.ownsRow w.heap.size 29 3 v (fewL (l.take k)).length ((fewL (l.take k)).flatMap tkCells) ∧ Ext w wr)
  case atStart => exact ⟨0, Nat.zero_le _, rfl, rfl, World.ownsRow_nil _ _ _ _, Ext.refl _⟩
  case round =>
    obtain ⟨k, hk, hg, rfl, ho, hx⟩ := hrel
    have Hg := Lib.hid hg
    have HO := Lib.hid ho
    clear hg ho
    by_cases hlt : k < l.length
    · obtain ⟨b, o, rfl, c0, c1, c2⟩ := (HV.out.ext hx).at_ hlt
      have hbl := cell_lt c0
      by_cases h60 : k < 60
      · have hmore := fewL_more l k hlt h60
        have hlen := fewL_len (l.take k)
        obtain ⟨tk, tt, ta, ht⟩ : ∃ tk tt ta, l[k] = ⟨tk, tt, ta⟩ := ⟨_, _, _, rfl⟩
        rw [ht] at c0 c1 c2 hmore
        have hfl : (fewL (l.take (k + 1))).flatMap tkCells = (fewL (l.take k)).flatMap tkCells ++ #[Value.int .i64 tk, .string (tt.extract 0 (min (tt.size : Int) 80).toNat), .int .i64 ta].toList := by rw [hmore, List.flatMap_append]; rfl
        have hll : (fewL (l.take (k + 1))).length = (fewL (l.take k)).length + 1 := by rw [hmore, List.length_append]; rfl
        have Hfl := Lib.hid hfl
        have Hll := Lib.hid hll
        generalize hcut : tt.extract 0 (min (tt.size : Int) 80).toNat = ct at Hfl
        have Hcut := Lib.hid hcut
        clear ht hmore hfl hll hcut
        have ho2 := own_ext HO.out (Ext.alloc wr (.cells #[.int .i64 tk, .string ct, .int .i64 ta] 29))
        have hBx : Ext w (wr.alloc (.cells #[.int .i64 tk, .string ct, .int .i64 ta] 29)) := (by repeat (first | exact Ext.refl _ | with_reducible refine Ext.alloc_of ?_ _ | with_reducible refine Ext.drewN_of ?_ _ | with_reducible refine Ext.drew_of ?_ | (with_reducible refine Ext.set_of ?_ ?hsz _; case hsz => ((first | exact Nat.le_refl _ | omega | (simp; omega)))) | with_reducible refine Ext.via (by assumption) ?_))
        obtain ⟨b0, b1, b2, e0, e1, e2⟩ := (RowAt.new wr 29 [.int .i64 tk, .string ct, .int .i64 ta]).facts3
        go_upto_region 7 with fail
        rw [Hcut.out]
        generalize wr.alloc (.cells #[.int .i64 tk, .string ct, .int .i64 ta] 29) = w3 at *
        go_wp2_with (at_builtin; refine wpList_append_sl _ rfl _ _ 23 rfl elTok rfl (own_ext ho2 (Ext.alloc _ _)) rfl (Sl.new _ _ _ 1 1 (Nat.le_refl _) ?_) rfl ?_ ?_ ?_ ?_ ?_)
        · unfold maxLen; omega
        · exact ⟨rfl, rfl, rfl⟩
        · omega
        · unfold maxLen; omega
        · have := hBx.size; simp; omega
        intro v4 w4 hown4 hB4 _ _
        have HO4 := Lib.hid hown4
        have HX4 : Hid (Ext w w4) := Lib.hid ((below_step hBx (Ext.alloc _ _)).trans hB4)
        clear hown4 hB4 ho2
        go_wp2_with fail
        go_roundg (l.length - (k + 1))
        case measure => have := Hg.out; omega
        case rel => exact ⟨k + 1, by omega, rfl, by go_num, by rw [Hfl.out, Hll.out]; exact HO4.out, HX4.out⟩
      · have Hs := Lib.hid (fewL_same l k (by omega))
        go_wp2_with fail
        go_roundg (l.length - (k + 1))
        case measure => have := Hg.out; omega
        case rel => exact ⟨k + 1, by omega, rfl, by go_num, by rw [Hs.out]; exact own_ext HO.out (Ext.alloc _ _), (by repeat (first | exact Ext.refl _ | with_reducible refine Ext.alloc_of ?_ _ | with_reducible refine Ext.drewN_of ?_ _ | with_reducible refine Ext.drew_of ?_ | (with_reducible refine Ext.set_of ?_ ?hsz _; case hsz => ((first | exact Nat.le_refl _ | omega | (simp; omega)))) | with_reducible refine Ext.via (by assumption) ?_))⟩
    · have ho := HO.out
      rw [List.take_of_length_le (by omega)] at ho
      have HO2 := Lib.hid ho
      clear ho
      go_wp2_with fail
      go_ret
      exact ⟨_, rfl, HO2.out, (by repeat (first | exact Ext.refl _ | with_reducible refine Ext.alloc_of ?_ _ | with_reducible refine Ext.drewN_of ?_ _ | with_reducible refine Ext.drew_of ?_ | (with_reducible refine Ext.set_of ?_ ?hsz _; case hsz => ((first | exact Nat.le_refl _ | omega | (simp; omega)))) | with_reducible refine Ext.via (by assumption) ?_))⟩

/-- Texts, a blank between. -/
def joinB (xs : List (List UInt8)) : List UInt8 := Lib.join xs [32]
theorem joinB_nil : joinB [] = [] := rfl
theorem joinTail_snoc (sep y : List UInt8) (r : List (List UInt8)) : Lib.joinTail sep (r ++ [y]) = Lib.joinTail sep r ++ (sep ++ y) := by
  unfold Lib.joinTail
  rw [List.map_append, List.flatten_append]
  simp
theorem joinB_cons (x : List UInt8) (r : List (List UInt8)) : joinB (x :: r) = x ++ Lib.joinTail [32] r := Lib.join_cons x r [32]
theorem joinB_snoc (xs : List (List UInt8)) (y : List UInt8) : joinB (xs ++ [y]) = if xs = [] then y else joinB xs ++ 32 :: y := by
  cases xs with
  | nil => simp [joinB, Lib.join_one]
  | cons x r =>
    rw [if_neg (by simp), List.cons_append, joinB_cons, joinB_cons, joinTail_snoc, List.append_assoc]
    rfl
theorem joinB_len (xs : List (List UInt8)) (m : Nat) (h : ∀ x ∈ xs, x.length ≤ m) : (joinB xs).length ≤ xs.length * (m + 1) := by
  cases xs with
  | nil => simp [joinB_nil]
  | cons x r =>
    unfold joinB
    rw [Lib.join_length]
    have : ∀ xs : List (List UInt8), (∀ x ∈ xs, x.length ≤ m) → Lib.lens xs ≤ xs.length * m := fun xs => by
      induction xs with
      | nil => intro _; simp [Lib.lens]
      | cons y ys ih =>
        intro h
        have h1 := ih (fun z hz => h z (List.mem_cons_of_mem _ hz))
        have h2 := h y (by simp)
        simp only [Lib.lens, List.map_cons, List.sum_cons, List.length_cons] at h1 ⊢
        rw [Nat.add_mul]; omega
    have := this (x :: r) h
    simp only [List.length_cons, List.length_nil] at this ⊢
    rw [Nat.mul_add]; omega
/-- The plain text of tokens. -/
def joinT (l : List Tk) : List UInt8 := joinB (l.map Tk.stands)
def plainF (l : List Tk) : ByteArray × Int := if l.all Tk.check then (if 500 < (joinT l).length then (⟨#[]⟩, 3) else (txt (joinT l), 0)) else (⟨#[]⟩, 250)
theorem elStr : ElT Try.prog 53 9 (.string ⟨#[]⟩) 1 16 := ⟨Try.underlying53, ⟨_, rfl, by kernel_rfl, by kernel_rfl, by kernel_rfl⟩, rfl, by decide⟩

theorem stands_size {t : Tk} (h : t.text.size ≤ 1000) : t.stands.length ≤ 1003 := by
  unfold Tk.stands
  have := standsL_len t.kind (bts t.text)
  rw [bts_len] at this; omega
theorem plain_any (v : Value) (l : List Tk) (w : World) (hv : Toks w v l) (hn : l.length ≤ 1000) (ht : ∀ t ∈ l, t.text.size ≤ 1000) :
    Calls Try.prog 19 #[v] w fun e w' => e = .returned (.tuple #[.string (plainF l).1, .int .i64 (plainF l).2]) ∧ Ext w w' := by
  obtain ⟨a, c, rfl, hc1, hc2⟩ := hv.shape
  have HV := Lib.hid hv
  have HT := Lib.hid ht
  clear hv ht
  go_enter Try.func19, Try.ntmps19
  go_wp2_with fail
  go_loopg [4, 12] l.length (fun g v i wr => ∃ k : Nat, k ≤ l.length ∧ g = l.length - k ∧ i = .int .i64 k ∧ (∀ t ∈ l.take k, t.check = true) ∧ wr.ownsRow w.heap.size 9 1 v k ((l.map (fun t => Value.string (txt t.stands))).take k) ∧ Ext w wr)
  case atStart => exact ⟨0, Nat.zero_le _, rfl, rfl, fun t h => by simp at h, World.ownsRow_nil _ _ _ _, Ext.refl _⟩
  case round =>
    obtain ⟨k, hk, hg, rfl, hch, ho, hx⟩ := hrel
    have Hg := Lib.hid hg
    have HO := Lib.hid ho
    have HC := Lib.hid hch
    clear hg ho hch
    by_cases hlt : k < l.length
    · obtain ⟨b, o, rfl, c0, c1, c2⟩ := (HV.out.ext hx).at_ hlt
      have hbl := cell_lt c0
      have hts := HT.out _ (List.getElem_mem hlt)
      have Hsn := Lib.hid (take_snoc l k hlt)
      have hbad : l[k].check = false → plainF l = (⟨#[]⟩, 250) := fun h => by
        unfold plainF
        rw [if_neg]
        intro h'
        have := List.all_eq_true.1 h' _ (List.getElem_mem hlt)
        rw [h] at this; cases this
      have Hbad := Lib.hid hbad
      clear hbad
      obtain ⟨t, hte⟩ : ∃ t, t = l[k] := ⟨_, rfl⟩
      rw [← hte] at c0 c1 c2 hts Hsn Hbad
      clear hte
      have hsz := stands_size hts
      cases hck : t.check with
      | true =>
        have hst := fun w => Stands_yes (t := t) w (by omega) hck
        obtain ⟨tk, tt, ta⟩ := t
        unfold tkV at hst
        dsimp only at *
        have HS := Lib.hid hst
        have Hck := Lib.hid hck
        clear hst hck
        go_wp2_with fail
        refine (HS.out _).mono ?_
        rintro e w2 ⟨rfl, hx2⟩
        have ho2 := own_ext HO.out (show Ext wr w2 from (by repeat (first | exact Ext.refl _ | with_reducible refine Ext.alloc_of ?_ _ | with_reducible refine Ext.drewN_of ?_ _ | with_reducible refine Ext.drew_of ?_ | (with_reducible refine Ext.set_of ?_ ?hsz _; case hsz => ((first | exact Nat.le_refl _ | omega | (simp; omega)))) | with_reducible refine Ext.via (by assumption) ?_)))
        have hBx : Ext w w2 := (by repeat (first | exact Ext.refl _ | with_reducible refine Ext.alloc_of ?_ _ | with_reducible refine Ext.drewN_of ?_ _ | with_reducible refine Ext.drew_of ?_ | (with_reducible refine Ext.set_of ?_ ?hsz _; case hsz => ((first | exact Nat.le_refl _ | omega | (simp; omega)))) | with_reducible refine Ext.via (by assumption) ?_))
        have hB2 := hBx.size
        go_wp2_with (at_builtin; refine wpList_append_sl _ rfl _ _ 53 rfl elStr rfl (own_ext ho2 (Ext.alloc _ _)) rfl (Sl.new _ _ _ 1 1 (Nat.le_refl _) ?_) rfl ?_ ?_ ?_ ?_ ?_)
        · unfold maxLen; omega
        · rfl
        · omega
        · unfold maxLen; omega
        · simp; omega
        intro v4 w4 hown4 hB4 _ _
        have hll : (l.map (fun t => Value.string (txt t.stands))).take (k + 1) = (l.map (fun t => Value.string (txt t.stands))).take k ++ #[Value.string (txt (Tk.stands ⟨tk, tt, ta⟩))].toList := by rw [← List.map_take, Hsn.out, List.map_append, List.map_take]; rfl
        have hch2 : ∀ t ∈ l.take (k + 1), t.check = true := fun t ht => by
          rw [Hsn.out] at ht
          rcases List.mem_append.1 ht with ht | ht
          · exact HC.out t ht
          · simp at ht; subst ht; exact Hck.out
        have HO4 := Lib.hid hown4
        have Hll := Lib.hid hll
        have HC2 := Lib.hid hch2
        have HX4 : Hid (Ext w w4) := Lib.hid ((below_step hBx (Ext.alloc _ _)).trans hB4)
        clear hown4 hB4 ho2 hll hch2
        go_wp2_with fail
        go_roundg (l.length - (k + 1))
        case measure => have := Hg.out; omega
        case rel => exact ⟨k + 1, by omega, rfl, by go_num, HC2.out, by rw [Hll.out]; exact HO4.out, HX4.out⟩
      | false =>
        have hst := fun w => Stands_no (t := t) w (by omega) hck
        have HF := Lib.hid (Hbad.out hck)
        obtain ⟨tk, tt, ta⟩ := t
        unfold tkV at hst
        dsimp only at *
        have HS := Lib.hid hst
        clear hst hck
        go_wp2_with fail
        refine (HS.out _).mono ?_
        rintro e w2 ⟨rfl, hx2⟩
        go_wp2_with fail
        go_ret2
        exact ⟨by rw [HF.out]; rfl, (by repeat (first | exact Ext.refl _ | with_reducible refine Ext.alloc_of ?_ _ | with_reducible refine Ext.drewN_of ?_ _ | with_reducible refine Ext.drew_of ?_ | (with_reducible refine Ext.set_of ?_ ?hsz _; case hsz => ((first | exact Nat.le_refl _ | omega | (simp; omega)))) | with_reducible refine Ext.via (by assumption) ?_))⟩
    · have ho := HO.out
      have hch := HC.out
      have hkk : k = l.length := by omega
      rw [List.take_of_length_le (by rw [List.length_map]; omega)] at ho
      rw [List.take_of_length_le (by omega)] at hch
      have hall : l.all Tk.check = true := List.all_eq_true.2 hch
      have hjl : (joinT l).length ≤ 1000 * 1004 := by
        unfold joinT
        have := joinB_len (l.map Tk.stands) 1003 (fun x hx => by obtain ⟨t, htm, rfl⟩ := List.mem_map.1 hx; exact stands_size (HT.out t htm))
        rw [List.length_map] at this
        exact Nat.le_trans this (Nat.mul_le_mul_right _ hn)
      have hpf : plainF l = if 500 < (joinT l).length then (⟨#[]⟩, 3) else (txt (joinT l), 0) := by unfold plainF; rw [if_pos hall]
      have hmm : (((l.map (fun t => txt t.stands)).map (fun s : ByteArray => s.data.toList))) = l.map Tk.stands := by
        rw [List.map_map]; exact List.map_congr_left (fun t _ => bts_txt _)
      have hjn : ∀ w', Ext wr w' → Calls Try.prog 31 #[u4, .string ⟨#[32]⟩] w' fun e w'' => e = .returned (.string (txt (joinT l))) ∧ Ext w' w'' := fun w' hx' => by
        have hsl := (Sl.of_own ho).ext hx'
        obtain ⟨a', c', rfl, h1, h2, h3⟩ := hsl
        by_cases hl0 : l.length = 0
        · have hl1 := List.eq_nil_of_length_eq_zero hl0
          subst hl1
          rw [hkk]
          refine (Try.strings_Join_none _ _ _ _).mono fun e w'' ⟨he, hw⟩ => ⟨by rw [he]; rfl, hw ▸ Ext.refl _⟩
        · obtain ⟨b, o, rfl, hcell⟩ := h3 (by simp; omega)
          have hlen2 : (l.map (fun t => txt t.stands)).length = k := by rw [List.length_map]; exact hkk.symm
          have := Try.strings_Join b o c' (l.map (fun t => txt t.stands)) ⟨#[32]⟩ w' (fun j x hj => by
            have := hcell j (.string x) (by rw [List.getElem?_map] at hj ⊢; cases hl : l[j]? with | none => rw [hl] at hj; cases hj | some t => rw [hl] at hj; cases hj; rfl)
            exact this) (by
              exact cell_lt (hcell 0 (.string (txt (l[0]'(by omega)).stands)) (by rw [List.getElem?_map, List.getElem?_eq_getElem (show 0 < l.length by omega)]; rfl))) (by rw [hlen2]; omega) (by rw [hlen2]; exact h1) (by
              rw [hmm]; exact Nat.le_trans hjl (by decide))
          rw [hlen2, hmm] at this
          exact this.mono fun e w'' ⟨he, hb⟩ => ⟨he, hb⟩
      have HJ := Lib.hid hjn
      have HP := Lib.hid hpf
      have hts : (txt (joinT l)).size = (joinT l).length := txt_size _
      have HTS := Lib.hid hts
      clear ho hch hjn hpf hall hmm hts
      go_wp2_with fail
      refine (HJ.out _ (Ext.refl _)).mono ?_
      rintro e w2 ⟨rfl, hx2⟩
      by_cases h5 : 500 < (txt (joinT l)).size
      · have HF : Hid (plainF l = (⟨#[]⟩, 3)) := Lib.hid (by rw [HP.out, if_pos (by have := HTS.out; omega)])
        go_wp2_with fail
        go_ret2
        exact ⟨by rw [HF.out]; rfl, (by repeat (first | exact Ext.refl _ | with_reducible refine Ext.alloc_of ?_ _ | with_reducible refine Ext.drewN_of ?_ _ | with_reducible refine Ext.drew_of ?_ | (with_reducible refine Ext.set_of ?_ ?hsz _; case hsz => ((first | exact Nat.le_refl _ | omega | (simp; omega)))) | with_reducible refine Ext.via (by assumption) ?_))⟩
      · have HF : Hid (plainF l = (txt (joinT l), 0)) := Lib.hid (by rw [HP.out, if_neg (by have := HTS.out; omega)])
        go_wp2_with fail
        go_ret2
        exact ⟨by rw [HF.out]; rfl, (by repeat (first | exact Ext.refl _ | with_reducible refine Ext.alloc_of ?_ _ | with_reducible refine Ext.drewN_of ?_ _ | with_reducible refine Ext.drew_of ?_ | (with_reducible refine Ext.set_of ?_ ?hsz _; case hsz => ((first | exact Nat.le_refl _ | omega | (simp; omega)))) | with_reducible refine Ext.via (by assumption) ?_))⟩
end Go.Proofs.Ytofglbngnjcpeaa
