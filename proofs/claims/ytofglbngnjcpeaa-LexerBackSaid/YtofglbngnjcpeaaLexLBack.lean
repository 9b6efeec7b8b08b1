/- LexerBack: the walk. -/
import Derived.Test.YtofglbngnjcpeaaLexJ
import Derived.Test.YtofglbngnjcpeaaLexK
namespace Go.Proofs.Ytofglbngnjcpeaa
set_option maxRecDepth 100000
set_option maxHeartbeats 2000000
set_option linter.unusedVariables false
set_option linter.unusedSimpArgs false
open Go.RowKit

/-- What Plain comes to: a text that is read as the same tokens, or an error. -/
theorem plain_cases (L : List Tk) : (∃ u, plainF L = (txt u, 0) ∧ ∃ back, readF u = (back, (u.length : Int), 0) ∧ sameL back L = true ∧ u.length ≤ 500) ∨ (∃ e, plainF L = (⟨#[]⟩, e) ∧ ((e == 0) = false) ∧ (e != 0) = true ∧ ((∀ t ∈ L, t.check = true) → e = 3)) := by
  unfold plainF
  cases hall : L.all Tk.check with
  | true =>
    have hch := List.all_eq_true.1 hall
    rw [if_pos rfl]
    by_cases h5 : 500 < (joinT L).length
    · rw [if_pos h5]; exact .inr ⟨3, rfl, rfl, rfl, fun _ => rfl⟩
    · rw [if_neg h5]
      obtain ⟨back, h1, h2⟩ := (laid_join L hch).reads (by omega)
      exact .inl ⟨_, rfl, back, h1, h2, by omega⟩
  | false =>
    rw [if_neg (by simp)]
    refine .inr ⟨250, rfl, rfl, rfl, fun h => ?_⟩
    rw [List.all_eq_true.2 h] at hall; cases hall

theorem back_walk (v0 : Value) (x : List Tk) (s : ByteArray) (w : World) (h0 : Toks w v0 x ∧ ∀ t ∈ x, t.text.size ≤ 9223372036854775807 ∧ -9223372036854775808 ≤ t.kind ∧ t.kind ≤ 9223372036854775807 ∧ -9223372036854775808 ≤ t.at_ ∧ t.at_ ≤ 9223372036854775807)
    (hs : s.size ≤ 9223372036854775807) :
    Calls Try.prog 6 #[v0, .string s] w fun e w' => e = .returned (.bool true) ∧ Ext w w' := by
  have HX := Lib.hid h0.1
  clear h0
  go_enter Try.func6, Try.ntmps6
  go_wp2_with fail
  refine (wakes_any _).mono ?_
  rintro e w1 ⟨rfl, hx1⟩
  go_wp2_with fail
  refine (few_any v0 x _ (HX.out.ext (by repeat (first | exact Ext.refl _ | with_reducible assumption | with_reducible refine Ext.alloc_of ?_ _ | with_reducible refine Ext.drewN_of ?_ _ | with_reducible refine Ext.drew_of ?_ | (with_reducible refine Ext.set_of ?_ ?hsz _; case hsz => ((first | exact Nat.le_refl _ | omega | (simp; omega)))) | with_reducible refine Ext.via (by assumption) ?_)))).mono ?_
  rintro e w2 ⟨u, rfl, ho, hx2⟩
  have hL : Toks w2 u (fewL x) := Sl.of_own ho
  have hLn := fewL_len x
  have hLs := fewL_size x
  have HL := Lib.hid hL
  obtain ⟨a, c, rfl, hc1, hc2⟩ := hL.shape
  have HLs := Lib.hid hLs
  generalize fewL x = L at *
  have hpl := fun w' (h : Ext w2 w') => plain_any (.slice a L.length c) L w' (HL.out.ext h) (by omega) (fun t ht => by have := HLs.out t ht; omega)
  have hcs : (s.extract 0 (min (s.size : Int) 600).toNat).size ≤ 600 := by simp; omega
  generalize hcut : s.extract 0 (min (s.size : Int) 600).toNat = s' at hcs
  have Hcut := Lib.hid hcut
  have hpc := plain_cases L
  clear ho hL hLs hcut
  rcases hpc with ⟨t, hp, back, hr, hsame, ht5⟩ | ⟨er, hp, hd1, hd2, _⟩
  · rw [hp] at hpl
    have HPL := Lib.hid hpl
    have hts : (txt t).size = t.length := txt_size t
    have hra := read_any (txt t)
    rw [bts_txt, hr] at hra
    have HRA := Lib.hid hra
    have HS := Lib.hid hsame
    have hts1 : (txt t).size ≤ 500 := by omega
    clear hp hpl hr hra hsame hts
    go_wp2_with fail
    refine (HPL.out _ (Ext.refl _)).mono ?_
    rintro e w3 ⟨rfl, hx3⟩
    dsimp only
    go_wp2_with fail
    refine (HRA.out _ (by omega)).mono ?_
    rintro e w4 hp
    obtain ⟨v, rfl, ht, hx4⟩ := hp.toks
    dsimp only at ht ⊢
    have HTB := Lib.hid ht
    clear hp ht
    go_wp2_with fail
    refine (same_any _ _ back L _ HTB.out (HL.out.ext (by repeat (first | exact Ext.refl _ | with_reducible assumption | with_reducible refine Ext.alloc_of ?_ _ | with_reducible refine Ext.drewN_of ?_ _ | with_reducible refine Ext.drew_of ?_ | (with_reducible refine Ext.set_of ?_ ?hsz _; case hsz => ((first | exact Nat.le_refl _ | omega | (simp; omega)))) | with_reducible refine Ext.via (by assumption) ?_)))).mono ?_
    rintro e w5 ⟨rfl, hx5⟩
    rw [HS.out]
    go_wp2_with fail
    rw [Hcut.out]
    have hxz : Hid (Ext w w5) := Lib.hid (by repeat (first | exact Ext.refl _ | with_reducible assumption | with_reducible refine Ext.alloc_of ?_ _ | with_reducible refine Ext.drewN_of ?_ _ | with_reducible refine Ext.drew_of ?_ | (with_reducible refine Ext.set_of ?_ ?hsz _; case hsz => ((first | exact Nat.le_refl _ | omega | (simp; omega)))) | with_reducible refine Ext.via (by assumption) ?_))
    generalize w5 = wz at *
    have hra := read_any s'
    rcases readF_cases (bts s') with ⟨h5, hr⟩ | ⟨h5, p, hp0, hp1, hr⟩ | ⟨h5, l, hr, hly, _, hck⟩
    · rw [bts_len] at h5
      rw [hr] at hra
      have HRA2 := Lib.hid hra
      clear hr hra
      refine (HRA2.out _ (by omega)).mono ?_
      rintro e wr hp
      obtain ⟨v2, rfl, ht2, hxr⟩ := hp.toks
      dsimp only at ht2 ⊢
      obtain ⟨av, cv, rfl, hcv1, hcv2⟩ := ht2.shape
      clear hp
      go_wp2_with fail
      go_ret
      exact ⟨ret_bool (decide_eq_true (by omega)), hxz.out.trans hxr⟩
    · rw [bts_len] at h5 hp1
      rw [hr] at hra
      have HRA2 := Lib.hid hra
      clear hr hra
      refine (HRA2.out _ (by omega)).mono ?_
      rintro e wr hp
      obtain ⟨v2, rfl, ht2, hxr⟩ := hp.toks
      dsimp only at ht2 ⊢
      obtain ⟨av, cv, rfl, hcv1, hcv2⟩ := ht2.shape
      clear hp
      go_wp2_with fail
      go_ret
      exact ⟨ret_bool (decide_eq_true (by omega)), hxz.out.trans hxr⟩
    · rw [bts_len] at h5
      rw [hr, bts_len] at hra
      have hyl := yields_len (bts s')
      rw [← hly, bts_len] at hyl
      have HRA2 := Lib.hid hra
      have HCK := Lib.hid hck
      have hpc2 := plain_cases l
      clear hr hra hck hly
      refine (HRA2.out _ (by omega)).mono ?_
      rintro e wr hp
      obtain ⟨v2, rfl, ht2, hxr⟩ := hp.toks
      dsimp only at ht2 ⊢
      obtain ⟨av, cv, rfl, hcv1, hcv2⟩ := ht2.shape
      clear hp
      have HTL := Lib.hid ht2
      clear ht2
      rcases hpc2 with ⟨t2, hp2, back2, hr2, hsame2, ht52⟩ | ⟨er2, hp2, hd3, hd4, he3⟩
      · have hpl2 := fun w' (h : Ext wr w') => plain_any (.slice av l.length cv) l w' (HTL.out.ext h) (by omega) (fun t ht => by have := (HCK.out t ht).2; rw [bts_len] at this; omega)
        rw [hp2] at hpl2
        have HPL2 := Lib.hid hpl2
        have hts2 : (txt t2).size = t2.length := txt_size t2
        have hra2 := read_any (txt t2)
        rw [bts_txt, hr2] at hra2
        have HRA3 := Lib.hid hra2
        have HS2 := Lib.hid hsame2
        have hts3 : (txt t2).size ≤ 500 := by omega
        clear hp2 hpl2 hr2 hra2 hsame2 hts2
        go_wp2_with fail
        refine (HPL2.out _ (Ext.refl _)).mono ?_
        rintro e wa ⟨rfl, hxa⟩
        dsimp only
        go_wp2_with fail
        refine (HRA3.out _ (by omega)).mono ?_
        rintro e wb hp
        obtain ⟨v3, rfl, ht3, hxb⟩ := hp.toks
        dsimp only at ht3 ⊢
        have HTB3 := Lib.hid ht3
        clear hp ht3
        go_wp2_with fail
        refine (same_any _ _ back2 l _ HTB3.out (HTL.out.ext (by repeat (first | exact Ext.refl _ | with_reducible assumption | with_reducible refine Ext.alloc_of ?_ _ | with_reducible refine Ext.drewN_of ?_ _ | with_reducible refine Ext.drew_of ?_ | (with_reducible refine Ext.set_of ?_ ?hsz _; case hsz => ((first | exact Nat.le_refl _ | omega | (simp; omega)))) | with_reducible refine Ext.via (by assumption) ?_)))).mono ?_
        rintro e wc ⟨rfl, hxc⟩
        rw [HS2.out]
        go_wp2_with fail
        go_ret
        exact ⟨rfl, hxz.out.trans (by repeat (first | exact Ext.refl _ | with_reducible assumption | with_reducible refine Ext.alloc_of ?_ _ | with_reducible refine Ext.drewN_of ?_ _ | with_reducible refine Ext.drew_of ?_ | (with_reducible refine Ext.set_of ?_ ?hsz _; case hsz => ((first | exact Nat.le_refl _ | omega | (simp; omega)))) | with_reducible refine Ext.via (by assumption) ?_))⟩
      · have hpl2 := fun w' (h : Ext wr w') => plain_any (.slice av l.length cv) l w' (HTL.out.ext h) (by omega) (fun t ht => by have := (HCK.out t ht).2; rw [bts_len] at this; omega)
        obtain rfl := he3 (fun t ht => (HCK.out t ht).1)
        rw [hp2] at hpl2
        have HPL2 := Lib.hid hpl2
        clear hp2 hpl2
        go_wp2_with fail
        refine (HPL2.out _ (Ext.refl _)).mono ?_
        rintro e wa ⟨rfl, hxa⟩
        dsimp only
        go_wp2_with fail
        go_ret
        exact ⟨rfl, hxz.out.trans (by repeat (first | exact Ext.refl _ | with_reducible assumption | with_reducible refine Ext.alloc_of ?_ _ | with_reducible refine Ext.drewN_of ?_ _ | with_reducible refine Ext.drew_of ?_ | (with_reducible refine Ext.set_of ?_ ?hsz _; case hsz => ((first | exact Nat.le_refl _ | omega | (simp; omega)))) | with_reducible refine Ext.via (by assumption) ?_))⟩
  · rw [hp] at hpl
    have HPL := Lib.hid hpl
    clear hp hpl
    go_wp2_with fail
    refine (HPL.out _ (Ext.refl _)).mono ?_
    rintro e w3 ⟨rfl, hx3⟩
    dsimp only
    go_wp2_with fail
    rw [Hcut.out]
    have hxz : Hid (Ext w w3) := Lib.hid (by repeat (first | exact Ext.refl _ | with_reducible assumption | with_reducible refine Ext.alloc_of ?_ _ | with_reducible refine Ext.drewN_of ?_ _ | with_reducible refine Ext.drew_of ?_ | (with_reducible refine Ext.set_of ?_ ?hsz _; case hsz => ((first | exact Nat.le_refl _ | omega | (simp; omega)))) | with_reducible refine Ext.via (by assumption) ?_))
    generalize w3 = wz at *
    have hra := read_any s'
    rcases readF_cases (bts s') with ⟨h5, hr⟩ | ⟨h5, p, hp0, hp1, hr⟩ | ⟨h5, l, hr, hly, _, hck⟩
    · rw [bts_len] at h5
      rw [hr] at hra
      have HRA2 := Lib.hid hra
      clear hr hra
      refine (HRA2.out _ (by omega)).mono ?_
      rintro e wr hp
      obtain ⟨v2, rfl, ht2, hxr⟩ := hp.toks
      dsimp only at ht2 ⊢
      obtain ⟨av, cv, rfl, hcv1, hcv2⟩ := ht2.shape
      clear hp
      go_wp2_with fail
      go_ret
      exact ⟨ret_bool (decide_eq_true (by omega)), hxz.out.trans hxr⟩
    · rw [bts_len] at h5 hp1
      rw [hr] at hra
      have HRA2 := Lib.hid hra
      clear hr hra
      refine (HRA2.out _ (by omega)).mono ?_
      rintro e wr hp
      obtain ⟨v2, rfl, ht2, hxr⟩ := hp.toks
      dsimp only at ht2 ⊢
      obtain ⟨av, cv, rfl, hcv1, hcv2⟩ := ht2.shape
      clear hp
      go_wp2_with fail
      go_ret
      exact ⟨ret_bool (decide_eq_true (by omega)), hxz.out.trans hxr⟩
    · rw [bts_len] at h5
      rw [hr, bts_len] at hra
      have hyl := yields_len (bts s')
      rw [← hly, bts_len] at hyl
      have HRA2 := Lib.hid hra
      have HCK := Lib.hid hck
      have hpc2 := plain_cases l
      clear hr hra hck hly
      refine (HRA2.out _ (by omega)).mono ?_
      rintro e wr hp
      obtain ⟨v2, rfl, ht2, hxr⟩ := hp.toks
      dsimp only at ht2 ⊢
      obtain ⟨av, cv, rfl, hcv1, hcv2⟩ := ht2.shape
      clear hp
      have HTL := Lib.hid ht2
      clear ht2
      rcases hpc2 with ⟨t2, hp2, back2, hr2, hsame2, ht52⟩ | ⟨er2, hp2, hd3, hd4, he3⟩
      · have hpl2 := fun w' (h : Ext wr w') => plain_any (.slice av l.length cv) l w' (HTL.out.ext h) (by omega) (fun t ht => by have := (HCK.out t ht).2; rw [bts_len] at this; omega)
        rw [hp2] at hpl2
        have HPL2 := Lib.hid hpl2
        have hts2 : (txt t2).size = t2.length := txt_size t2
        have hra2 := read_any (txt t2)
        rw [bts_txt, hr2] at hra2
        have HRA3 := Lib.hid hra2
        have HS2 := Lib.hid hsame2
        have hts3 : (txt t2).size ≤ 500 := by omega
        clear hp2 hpl2 hr2 hra2 hsame2 hts2
        go_wp2_with fail
        refine (HPL2.out _ (Ext.refl _)).mono ?_
        rintro e wa ⟨rfl, hxa⟩
        dsimp only
        go_wp2_with fail
        refine (HRA3.out _ (by omega)).mono ?_
        rintro e wb hp
        obtain ⟨v3, rfl, ht3, hxb⟩ := hp.toks
        dsimp only at ht3 ⊢
        have HTB3 := Lib.hid ht3
        clear hp ht3
        go_wp2_with fail
        refine (same_any _ _ back2 l _ HTB3.out (HTL.out.ext (by repeat (first | exact Ext.refl _ | with_reducible assumption | with_reducible refine Ext.alloc_of ?_ _ | with_reducible refine Ext.drewN_of ?_ _ | with_reducible refine Ext.drew_of ?_ | (with_reducible refine Ext.set_of ?_ ?hsz _; case hsz => ((first | exact Nat.le_refl _ | omega | (simp; omega)))) | with_reducible refine Ext.via (by assumption) ?_)))).mono ?_
        rintro e wc ⟨rfl, hxc⟩
        rw [HS2.out]
        go_wp2_with fail
        go_ret
        exact ⟨rfl, hxz.out.trans (by repeat (first | exact Ext.refl _ | with_reducible assumption | with_reducible refine Ext.alloc_of ?_ _ | with_reducible refine Ext.drewN_of ?_ _ | with_reducible refine Ext.drew_of ?_ | (with_reducible refine Ext.set_of ?_ ?hsz _; case hsz => ((first | exact Nat.le_refl _ | omega | (simp; omega)))) | with_reducible refine Ext.via (by assumption) ?_))⟩
      · have hpl2 := fun w' (h : Ext wr w') => plain_any (.slice av l.length cv) l w' (HTL.out.ext h) (by omega) (fun t ht => by have := (HCK.out t ht).2; rw [bts_len] at this; omega)
        obtain rfl := he3 (fun t ht => (HCK.out t ht).1)
        rw [hp2] at hpl2
        have HPL2 := Lib.hid hpl2
        clear hp2 hpl2
        go_wp2_with fail
        refine (HPL2.out _ (Ext.refl _)).mono ?_
        rintro e wa ⟨rfl, hxa⟩
        dsimp only
        go_wp2_with fail
        go_ret
        exact ⟨rfl, hxz.out.trans (by repeat (first | exact Ext.refl _ | with_reducible assumption | with_reducible refine Ext.alloc_of ?_ _ | with_reducible refine Ext.drewN_of ?_ _ | with_reducible refine Ext.drew_of ?_ | (with_reducible refine Ext.set_of ?_ ?hsz _; case hsz => ((first | exact Nat.le_refl _ | omega | (simp; omega)))) | with_reducible refine Ext.via (by assumption) ?_))⟩
end Go.Proofs.Ytofglbngnjcpeaa
