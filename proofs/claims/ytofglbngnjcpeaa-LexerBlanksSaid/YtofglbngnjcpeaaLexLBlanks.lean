/- LexerBlanks: the walk. -/
import Derived.Test.YtofglbngnjcpeaaLexJ
import Derived.Test.YtofglbngnjcpeaaLexK
import Derived.Test.YtofglbngnjcpeaaOpenBl
namespace Go.Proofs.Ytofglbngnjcpeaa
set_option maxRecDepth 100000
set_option maxHeartbeats 2000000
set_option linter.unusedVariables false
set_option linter.unusedSimpArgs false
open Go.RowKit

def sepAt (bs : List Bool) (i : Nat) : List UInt8 := 32 :: (if bs.getD i false then [10, 32] else [])
/-- Tokens with blanks behind each, from the i-th on. -/
def blk (bs : List Bool) : List Tk → Nat → List UInt8
  | [], _ => []
  | t :: l, i => t.stands ++ (sepAt bs i ++ blk bs l (i + 1))
theorem laid_blk (bs : List Bool) (l : List Tk) (h : ∀ t ∈ l, t.check = true) : ∀ i, Laid l (blk bs l i) := by
  induction l with
  | nil => intro i; exact .nil
  | cons t l ih =>
    intro i
    refine .cons (check_tok (h t (by simp))) ?_ (.inl (by simp [sepAt])) (ih (fun x hx => h x (List.mem_cons_of_mem _ hx)) _)
    intro c hc
    unfold sepAt at hc
    rcases List.mem_cons.1 hc with rfl | hc
    · decide
    · split at hc
      · simp at hc; rcases hc with rfl | rfl <;> decide
      · simp at hc
theorem blk_len (bs : List Bool) (l : List Tk) (h : ∀ t ∈ l, t.text.size ≤ 1000) : ∀ i, (blk bs l i).length ≤ l.length * 1006 := by
  induction l with
  | nil => intro i; simp [blk]
  | cons t l ih =>
    intro i
    have h1 := stands_size (h t (by simp))
    have h2 := ih (fun x hx => h x (List.mem_cons_of_mem _ hx)) (i + 1)
    have h3 : (sepAt bs i).length ≤ 3 := by unfold sepAt; split <;> simp
    unfold blk
    rw [List.length_append, List.length_append, List.length_cons, Nat.add_mul]
    omega
theorem blk_drop (bs : List Bool) (l : List Tk) (k : Nat) (hk : k < l.length) : blk bs (l.drop k) k = l[k].stands ++ (sepAt bs k ++ blk bs (l.drop (k + 1)) (k + 1)) := by
  rw [List.drop_eq_getElem_cons hk, blk]

theorem blanks_walk (v0 : Value) (x : List Tk) (v1 : Value) (bs : List Bool) (w : World) (h0 : Toks w v0 x ∧ ∀ t ∈ x, t.text.size ≤ 9223372036854775807 ∧ -9223372036854775808 ≤ t.kind ∧ t.kind ≤ 9223372036854775807 ∧ -9223372036854775808 ≤ t.at_ ∧ t.at_ ≤ 9223372036854775807)
    (h1 : Bools w v1 bs) :
    Calls Try.prog 4 #[v0, v1] w fun e w' => e = .returned (.bool true) ∧ Ext w w' := by
  have HX := Lib.hid h0.1
  have HB := Lib.hid h1
  obtain ⟨ab, cb, rfl, hcb1, hcb2⟩ := h1.shape
  clear h0 h1
  go_enter Try.func4, Try.ntmps4
  go_wp2_with fail
  refine (wakes_any _).mono ?_
  rintro e w1 ⟨rfl, hx1⟩
  go_wp2_with fail
  refine (few_any v0 x _ (HX.out.ext (by repeat (first | exact Ext.refl _ | with_reducible assumption | with_reducible refine Ext.alloc_of ?_ _ | with_reducible refine Ext.drewN_of ?_ _ | with_reducible refine Ext.drew_of ?_ | (with_reducible refine Ext.set_of ?_ ?hsz _; case hsz => ((first | exact Nat.le_refl _ | omega | (simp; omega)))) | with_reducible refine Ext.via (by assumption) ?_)))).mono ?_
  rintro e w2 ⟨u, rfl, ho, hx2⟩
  have hL : Toks w2 u (fewL x) := Sl.of_own ho
  have hLn := fewL_len x
  have hLs := fewL_size x
  have HL := Lib.hid hL
  obtain ⟨a, c, rfl, hc1, hc2⟩ := hL.shape
  have HLs := Lib.hid hLs
  generalize fewL x = L at *
  have hxw : Ext w w2 := hx1.trans hx2
  have hbl0 := blk_len bs L (fun t ht => by have := HLs.out t ht; omega) 0
  clear ho hL hLs hx1 hx2
  go_wp2_with fail
  go_loopg [6, 20] L.length (fun g s i wr => ∃ (k : Nat) (o : List UInt8), k ≤ L.length ∧ g = L.length - k ∧ i = .int .i64 k ∧ s = .string (txt o) ∧ o ++ blk bs (L.drop k) k = blk bs L 0 ∧ (∀ t ∈ L.take k, t.check = true) ∧ Ext w2 wr)
  case atStart => exact ⟨0, [], Nat.zero_le _, rfl, rfl, rfl, rfl, fun t h => by simp at h, Ext.refl _⟩
  case round =>
    obtain ⟨k, o, hk, hg, rfl, rfl, hobk, hch, hx⟩ := hrel
    have Hg := Lib.hid hg
    have HO := Lib.hid hobk
    have HC := Lib.hid hch
    have hol : o.length ≤ (blk bs L 0).length := by rw [← hobk, List.length_append]; omega
    have hos : (txt o).size = o.length := txt_size o
    have hos1 : (txt o).size ≤ 60 * 1006 := by
      have := Nat.mul_le_mul_right 1006 hLn
      omega
    clear hg hobk hch hol hos
    by_cases hlt : k < L.length
    · obtain ⟨b, oo, rfl, c0, c1, c2⟩ := (HL.out.ext hx).at_ hlt
      have hbl := cell_lt c0
      have hts := HLs.out _ (List.getElem_mem hlt)
      have hbd := blk_drop bs L k hlt
      have hsn := take_snoc L k hlt
      have Hbd := Lib.hid hbd
      have Hsn := Lib.hid hsn
      have hbk : k < bs.length → ∃ b' o', ab = some ⟨b', o', none⟩ ∧ ∀ w', Ext w w' → w'.cell? ⟨b', o' + k, none⟩ = some (.bool (bs.getD k false)) := fun h => by
        obtain ⟨b', o', e, hc⟩ := HB.out.at_ h
        refine ⟨b', o', e, fun w' hx => ?_⟩
        rw [show bs.getD k false = bs[k] from by simp [List.getD, h]]
        exact ext_cell hx hc
      have Hbk := Lib.hid hbk
      have hge : ¬ k < bs.length → bs.getD k false = false := fun h => by simp [List.getD, List.getElem?_eq_none (show bs.length ≤ k by omega)]
      have Hge := Lib.hid hge
      clear hbd hsn hbk hge
      generalize L[k] = t at *
      have hsz := stands_size (t := t) (by omega)
      have hss : (txt t.stands).size = t.stands.length := txt_size _
      have hss2 : (txt t.stands).size ≤ 1003 := by omega
      clear hss hsz
      cases hck : t.check with
      | true =>
        have hs := fun w => Stands_yes (t := t) w (by omega) hck
        have hC2 : ∀ x ∈ L.take (k + 1), x.check = true := fun x hx => by
          rw [Hsn.out] at hx
          rcases List.mem_append.1 hx with hx | hx
          · exact HC.out x hx
          · simp at hx; subst hx; exact hck
        have HC2 := Lib.hid hC2
        have hT : txt o ++ (txt t.stands ++ ⟨#[32]⟩) = txt (o ++ (t.stands ++ [32])) := by rw [txt_append, txt_append]; rfl
        have hT2 : txt (o ++ (t.stands ++ [32])) ++ ⟨#[10, 32]⟩ = txt (o ++ (t.stands ++ [32, 10, 32])) := by
          rw [show o ++ (t.stands ++ [32, 10, 32]) = (o ++ (t.stands ++ [32])) ++ [10, 32] from by simp, txt_append]; rfl
        have hNo : bs.getD k false = false → (o ++ (t.stands ++ [32])) ++ blk bs (L.drop (k + 1)) (k + 1) = blk bs L 0 := fun h => by
          rw [← HO.out, Hbd.out]; unfold sepAt; rw [h]; simp
        have hYes : bs.getD k false = true → (o ++ (t.stands ++ [32, 10, 32])) ++ blk bs (L.drop (k + 1)) (k + 1) = blk bs L 0 := fun h => by
          rw [← HO.out, Hbd.out]; unfold sepAt; rw [h]; simp
        have HNo := Lib.hid hNo
        have HYes := Lib.hid hYes
        have HT := Lib.hid hT
        have HT2 := Lib.hid hT2
        unfold tkV at hs
        have HS := Lib.hid hs
        clear hs hck hC2 hT hT2 hNo hYes
        go_wp2_with fail
        refine (HS.out _).mono ?_
        rintro e w4 ⟨rfl, hx4⟩
        have hx : Ext w2 w4 := (by repeat (first | exact Ext.refl _ | with_reducible assumption | with_reducible refine Ext.alloc_of ?_ _ | with_reducible refine Ext.drewN_of ?_ _ | with_reducible refine Ext.drew_of ?_ | (with_reducible refine Ext.set_of ?_ ?hsz _; case hsz => ((first | exact Nat.le_refl _ | omega | (simp; omega)))) | with_reducible refine Ext.via (by assumption) ?_))
        have hxw4 : Ext w w4 := hxw.trans hx
        by_cases hkb : k < bs.length
        · obtain ⟨b', o', rfl, hcell⟩ := Hbk.out hkb
          have hcb := hcell w4 hxw4
          cases hbv : bs.getD k false with
          | true =>
            rw [hbv] at hcb
            have HF := Lib.hid (HYes.out hbv)
            clear hbv hcell
            go_wp2_with fail
            go_roundg (L.length - (k + 1))
            case measure => have := Hg.out; omega
            case rel => exact ⟨k + 1, _, by omega, rfl, by go_num, by rw [HT.out, HT2.out], HF.out, HC2.out, (by repeat (first | exact Ext.refl _ | with_reducible assumption | with_reducible refine Ext.alloc_of ?_ _ | with_reducible refine Ext.drewN_of ?_ _ | with_reducible refine Ext.drew_of ?_ | (with_reducible refine Ext.set_of ?_ ?hsz _; case hsz => ((first | exact Nat.le_refl _ | omega | (simp; omega)))) | with_reducible refine Ext.via (by assumption) ?_))⟩
          | false =>
            rw [hbv] at hcb
            have HF := Lib.hid (HNo.out hbv)
            clear hbv hcell
            go_wp2_with fail
            go_roundg (L.length - (k + 1))
            case measure => have := Hg.out; omega
            case rel => exact ⟨k + 1, _, by omega, rfl, by go_num, by rw [HT.out], HF.out, HC2.out, (by repeat (first | exact Ext.refl _ | with_reducible assumption | with_reducible refine Ext.alloc_of ?_ _ | with_reducible refine Ext.drewN_of ?_ _ | with_reducible refine Ext.drew_of ?_ | (with_reducible refine Ext.set_of ?_ ?hsz _; case hsz => ((first | exact Nat.le_refl _ | omega | (simp; omega)))) | with_reducible refine Ext.via (by assumption) ?_))⟩
        · have HF := Lib.hid (HNo.out (Hge.out hkb))
          go_wp2_with fail
          go_roundg (L.length - (k + 1))
          case measure => have := Hg.out; omega
          case rel => exact ⟨k + 1, _, by omega, rfl, by go_num, by rw [HT.out], HF.out, HC2.out, (by repeat (first | exact Ext.refl _ | with_reducible assumption | with_reducible refine Ext.alloc_of ?_ _ | with_reducible refine Ext.drewN_of ?_ _ | with_reducible refine Ext.drew_of ?_ | (with_reducible refine Ext.set_of ?_ ?hsz _; case hsz => ((first | exact Nat.le_refl _ | omega | (simp; omega)))) | with_reducible refine Ext.via (by assumption) ?_))⟩
      | false =>
        have hs := fun w => Stands_no (t := t) w (by omega) hck
        unfold tkV at hs
        have HS := Lib.hid hs
        clear hs hck
        go_wp2_with fail
        refine (HS.out _).mono ?_
        rintro e w4 ⟨rfl, hx4⟩
        go_wp2_with fail
        go_ret
        exact ⟨rfl, (by repeat (first | exact Ext.refl _ | with_reducible assumption | with_reducible refine Ext.alloc_of ?_ _ | with_reducible refine Ext.drewN_of ?_ _ | with_reducible refine Ext.drew_of ?_ | (with_reducible refine Ext.set_of ?_ ?hsz _; case hsz => ((first | exact Nat.le_refl _ | omega | (simp; omega)))) | with_reducible refine Ext.via (by assumption) ?_))⟩
    · have hob := HO.out
      rw [List.drop_eq_nil_of_le (by omega), blk, List.append_nil] at hob
      have hch := HC.out
      rw [List.take_of_length_le (by omega)] at hch
      subst hob
      have hlaid := laid_blk bs L hch 0
      generalize blk bs L 0 = o at *
      have hra := read_any (txt o)
      rw [bts_txt] at hra
      have hos2 : (txt o).size = o.length := txt_size o
      have HRA := Lib.hid hra
      have HS := Lib.hid hos2
      clear hch hra hos2
      by_cases h5 : 500 < o.length
      · have hR : readF o = ([], 500, 3) := by unfold readF; rw [if_pos h5]
        have HR := Lib.hid hR
        have hd : (500 : Int) < ((txt o).size : Int) := by have := HS.out; omega
        clear hR hlaid
        go_wp2_with fail
        refine (HRA.out _ (by omega)).mono ?_
        rintro e w4 hp
        rw [HR.out] at hp
        obtain ⟨v, rfl, _, hx4⟩ := hp.toks
        dsimp only
        clear hp
        go_wp2_with fail
        go_ret
        exact ⟨rfl, (by repeat (first | exact Ext.refl _ | with_reducible assumption | with_reducible refine Ext.alloc_of ?_ _ | with_reducible refine Ext.drewN_of ?_ _ | with_reducible refine Ext.drew_of ?_ | (with_reducible refine Ext.set_of ?_ ?hsz _; case hsz => ((first | exact Nat.le_refl _ | omega | (simp; omega)))) | with_reducible refine Ext.via (by assumption) ?_))⟩
      · obtain ⟨back, hR, hsame⟩ := hlaid.reads (by omega)
        have HR := Lib.hid hR
        have HSm := Lib.hid hsame
        have hd : ((txt o).size : Int) ≤ (500 : Int) := by have := HS.out; omega
        clear hR hsame hlaid
        go_wp2_with fail
        refine (HRA.out _ (by omega)).mono ?_
        rintro e w4 hp
        rw [HR.out] at hp
        obtain ⟨v, rfl, ht, hx4⟩ := hp.toks
        dsimp only at ht ⊢
        have HTB := Lib.hid ht
        clear hp ht
        go_wp2_with fail
        refine (same_any _ _ back L _ HTB.out (HL.out.ext (by repeat (first | exact Ext.refl _ | with_reducible assumption | with_reducible refine Ext.alloc_of ?_ _ | with_reducible refine Ext.drewN_of ?_ _ | with_reducible refine Ext.drew_of ?_ | (with_reducible refine Ext.set_of ?_ ?hsz _; case hsz => ((first | exact Nat.le_refl _ | omega | (simp; omega)))) | with_reducible refine Ext.via (by assumption) ?_)))).mono ?_
        rintro e w5 ⟨rfl, hx5⟩
        rw [HSm.out]
        go_wp2_with fail
        go_ret
        exact ⟨rfl, (by repeat (first | exact Ext.refl _ | with_reducible assumption | with_reducible refine Ext.alloc_of ?_ _ | with_reducible refine Ext.drewN_of ?_ _ | with_reducible refine Ext.drew_of ?_ | (with_reducible refine Ext.set_of ?_ ?hsz _; case hsz => ((first | exact Nat.le_refl _ | omega | (simp; omega)))) | with_reducible refine Ext.via (by assumption) ?_))⟩
end Go.Proofs.Ytofglbngnjcpeaa
