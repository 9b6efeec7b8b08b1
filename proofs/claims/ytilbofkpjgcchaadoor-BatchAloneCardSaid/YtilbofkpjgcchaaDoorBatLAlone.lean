/- The walk of BatchAlone. -/
import Derived.Test.YtilbofkpjgcchaaDoorBatLA
import Derived.Test.YtilbofkpjgcchaaDoorBatTx
namespace Go.Proofs.YtilbofkpjgcchaaDoor
set_option maxRecDepth 100000
set_option maxHeartbeats 2000000
set_option linter.unusedVariables false
set_option linter.unusedSimpArgs false
open Go.RowKit

theorem sl_at {w : World} {b n c : Nat} {ws : List (List UInt8)} (h : Sl w (.slice (some ⟨b, 0, none⟩) n c) ws.length (strsV ws)) {i : Nat} (hi : i < ws.length) : w.cell? ⟨b, i, none⟩ = some (.string (txt ws[i])) := by
  obtain ⟨b', o', e, _, hc⟩ := strs_cell h hi
  simp only [Option.some.injEq, Addr.mk.injEq, and_true] at e
  obtain ⟨rfl, rfl⟩ := e
  rw [Nat.zero_add] at hc
  rw [hc]
  unfold atL
  rw [List.getD_eq_getElem?_getD, List.getElem?_eq_getElem hi]; rfl
theorem okC_fits' {c : Ch} (h : okC c = true) : c.Fits := by
  obtain ⟨_, _, q0, q1, q2, q3⟩ := okC_iff.1 h
  replace q0 := okF_size q0
  replace q1 := okF_size q1
  replace q2 := okF_size q2
  replace q3 := okF_size q3
  exact ⟨by omega, by omega, by omega, by omega⟩
set_option maxHeartbeats 8000000 in
theorem alone_walk (s : ByteArray) (w : World) (hs : s.size ≤ 9223372036854775807) (hm : ∃ m, w.cell? ⟨1, 0, none⟩ = some (.int .i64 m)) (hW : Ways w) :
    Calls Tryd.prog 8 #[.string s] w fun e w' => e = .returned (.bool true) ∧ Ext w w' := by
  obtain ⟨m, hm⟩ := hm
  go_enter Tryd.func8, Tryd.ntmps8
  go_wp2_with fail
  refine (wakes_any _ hW).mono ?_
  rintro e w1 ⟨rfl, hx1⟩
  go_upto_region 4 with fail
  have z1 : (s.extract 0 (min (s.size : Int) 5000).toNat).size ≤ 5000 := by simp; omega
  generalize s.extract 0 (min (s.size : Int) 5000).toNat = s' at *
  obtain ⟨xs, t, hp1, hp2, hp3, hp4, hp5, hp6⟩ := pieces s'
  have hra := fun x w' (h : Ext w1 w') (hx : (x : ByteArray).size ≤ 5000) => read_go x w' (by omega) (hW.ext (hx1.trans h))
  have hsp := fun w' (h : Ext w1 w') => split_any s' w' (by omega) m (ext_cell (hx1.trans h) hm) hp1 hp2
  have hlen : (xs ++ [t]).length ≤ 5001 := by
    have := Lib.countB_le feedS (by decide) _ s' (Nat.le_refl _)
    rw [hp2] at this
    rw [List.length_append]; simp only [List.length_cons, List.length_nil]; omega
  have hpl : (xs ++ [t]).length = xs.length + 1 := by simp
  have hsz := congrArg List.length hp6
  rw [bts_len] at hsz
  have HRA := Lib.hid hra
  have HSP := Lib.hid hsp
  have HX1 := Lib.hid hx1
  have HWAYS := Lib.hid hW
  clear hra hsp hp1 hp2 hW hm hx1
  rcases readF_cases (bts s') with ⟨l, hr, hm64, hmok, hmt, hls⟩ | ⟨hr, hl64⟩ | ⟨k, hk, hk64, hr, hgd, hbd⟩
  · have ht0 : t = [] := by
      by_cases h0 : t = []
      · exact h0
      · exfalso
        rw [linesL_last hp5 h0, hls] at hp3
        have hm : t ∈ l.map (fun c => lineL c ++ [10]) := by rw [hp3]; simp
        obtain ⟨c, hc, e⟩ := List.mem_map.1 hm
        exact feed_not hp5 c e.symm
    subst ht0
    rw [linesL_nil, List.append_nil, hls] at hp3
    have hxl : xs.length = l.length := by rw [← hp3, List.length_map]
    have hPl : (xs ++ [[]]).length = l.length + 1 := by rw [hpl, hxl]
    have hPi : ∀ i (h : i < l.length), ∃ h' : i < (xs ++ [[]]).length, (xs ++ [[]])[i] = lineL l[i] ++ [10] := fun i h => by
      refine ⟨by rw [hPl]; omega, ?_⟩
      rw [List.getElem_append_left (by rw [hxl]; exact h)]
      simp only [← hp3, List.getElem_map]
    have h1 := HRA.out s' w1 (Ext.refl _) z1
    rw [hr] at h1
    have H1 := Lib.hid h1
    have HOK := Lib.hid hmok
    have HAT : Hid (∀ w n b i (h : Sl w (.slice (some ⟨b, 0, none⟩) n n) (xs ++ [[]]).length (strsV (xs ++ [[]]))) (hi : i < l.length), w.cell? ⟨b, i, none⟩ = some (.string (txt (lineL l[i]) ++ ⟨#[10]⟩))) := Lib.hid (fun w n b i h hi => by
      obtain ⟨h', e⟩ := hPi i hi
      rw [sl_at h h', e]
      exact congrArg (fun x => some (Value.string x)) (bts_inj (by rw [bts_txt, bts_append, bts_txt]; rfl)))
    generalize xs ++ [[]] = P at *
    clear h1 hr hp3 hls hmt hPi hp4 hp5 hp6 hmok hsz hpl
    go_wp2_with fail
    refine H1.out.mono ?_
    rintro e wa hp
    obtain ⟨v1, rfl, hb1, hxa⟩ := hp.chs
    clear hp
    dsimp only at hb1 ⊢
    obtain ⟨a1, c1, rfl, hc11, hc12⟩ := hb1.shape
    have HB1 := Lib.hid hb1
    clear hb1
    go_wp2_with fail
    refine (HSP.out _ hxa).mono ?_
    rintro e wb ⟨b, rfl, hsl, hbl, hxb⟩
    have HSL := Lib.hid hsl
    have HX2 := Lib.hid (hxa.trans hxb)
    have HB2 := Lib.hid (HB1.out.ext hxb)
    clear hsl hxa hxb
    go_wp2_with fail
    go_loopg [104] l.length (fun g i wr => ∃ k : Nat, k ≤ l.length ∧ g = l.length - k ∧ i = .int .i64 k ∧ Ext wb wr)
    case atStart => exact ⟨0, Nat.zero_le _, rfl, rfl, Ext.refl _⟩
    case round =>
      obtain ⟨k, hk, hg, rfl, hx⟩ := hrel
      have Hg := Lib.hid hg
      clear hg
      by_cases hlt : k < l.length
      · obtain ⟨bb, oo, rfl, c0, c1', c2, c3, c4⟩ := (HB2.out.ext hx).at_ hlt
        have hok := HOK.out _ (List.getElem_mem hlt)
        have hpc := ext_cell hx (HAT.out _ _ _ k HSL.out hlt)
        have hli := fun w' (h : Ext wb w') => line_any l[k] w' (okC_fits' hok) (HWAYS.out.ext (HX1.out.trans (HX2.out.trans h)))
        have hr1 := fun w' (h : Ext wb w') => HRA.out (txt (lineL l[k]) ++ ⟨#[10]⟩) w' (HX2.out.trans h) (by have := lineL_len hok; rw [ByteArray.size_append, txt_size]; have : (⟨#[10]⟩ : ByteArray).size = 1 := rfl; omega)
        have hbt : bts (txt (lineL l[k]) ++ ⟨#[10]⟩) = textF [l[k]] := by rw [bts_append, bts_txt]; simp [textF, bts]
        have htl : (txt (lineL l[k])).size ≤ 250 := by rw [txt_size]; exact lineL_len hok
        rw [hbt, readF_text (l := [l[k]]) (fun c hc => by rw [List.mem_singleton] at hc; subst hc; exact hok) (by simp)] at hr1
        unfold lineE at hli
        rw [hok] at hli
        simp only [if_true] at hli
        clear hbt hok
        generalize txt (lineL l[k]) = tl at *
        generalize l[k] = x at *
        have hq := fun w => ch_neq x x w
        rw [(x.eqB_iff x).2 rfl, Bool.not_true] at hq
        obtain ⟨kd, key, name, val, to_⟩ := x
        unfold Ch.v at hli
        dsimp only at hli hq c0 c1' c2 c3 c4
        have HLI := Lib.hid hli
        have HR1 := Lib.hid hr1
        have HBX := Lib.hid (RowAt.new wr 27 [.int .i64 kd, .string key, .string name, .string val, .string to_])
        have hst := str_yes (x := tl ++ (⟨#[10]⟩ : ByteArray)) rfl
        have s10 : (⟨#[10]⟩ : ByteArray).size = 1 := rfl
        clear hli hr1
        go_upto_region 18 with fail
        have hxc := Ext.alloc wr (.cells #[.int .i64 kd, .string key, .string name, .string val, .string to_] 27)
        generalize wr.alloc (.cells #[.int .i64 kd, .string key, .string name, .string val, .string to_] 27) = wc at *
        clear c0 c1' c2 c3 c4
        have hpc2 := ext_cell hxc hpc
        go_wp2_with fail
        refine (HR1.out _ (hx.trans hxc)).mono ?_
        rintro e wd hp
        obtain ⟨v2, rfl, hb2, hxd⟩ := hp.chs
        clear hp
        dsimp only at hb2 ⊢
        obtain ⟨a2, c2, rfl, hc21, hc22⟩ := hb2.shape
        obtain ⟨c0, c1', c2', c3, c4, f0, f1, f2, f3, f4⟩ := (HBX.out.ext hxd).facts5
        have HB3 := Lib.hid hb2
        clear hb2
        go_wp2_with fail
        refine (HLI.out _ (hx.trans (hxc.trans hxd))).mono ?_
        rintro e we ⟨rfl, hxe⟩
        obtain ⟨c0, c1', c2', c3, c4, f0, f1, f2, f3, f4⟩ := ((HBX.out.ext hxd).ext hxe).facts5
        obtain ⟨b3, o3, rfl, d0, d1, d2, d3, d4⟩ := (HB3.out.ext hxe).at_ (k := 0) (by simp)
        have hpc3 := ext_cell (hxd.trans hxe) hpc2
        simp only [List.getElem_cons_zero, Nat.zero_mul, Nat.add_zero] at d0 d1 d2 d3 d4
        simp only [List.length_cons, List.length_nil, Nat.zero_add] at *
        go_wp2_with fail
        go_quiet (fail)
        go_wp2_with fail
        go_roundg (l.length - (k + 1))
        case measure => have := Hg.out; omega
        case rel => exact ⟨k + 1, by omega, rfl, by go_num, hx.trans (hxc.trans (hxd.trans (hxe.trans (Ext.drewN _ _))))⟩
      · go_wp2_with fail
        go_ret
        exact ⟨rfl, HX1.out.trans (HX2.out.trans hx)⟩
  · have h64 : 64 < (xs ++ [t]).length := by
      rw [hp3, List.length_append] at hl64
      rw [hpl]
      have : (linesL t).length ≤ 1 := by
        by_cases h0 : t = []
        · subst h0; simp [linesL_nil]
        · rw [linesL_last hp5 h0]; simp
      omega
    have h1 := HRA.out s' w1 (Ext.refl _) z1
    rw [hr] at h1
    have H1 := Lib.hid h1
    generalize xs ++ [t] = P at *
    clear h1 hr hp3 hl64 hpl hsz hp6 hp4 hp5
    go_wp2_with fail
    refine H1.out.mono ?_
    rintro e wa hp
    obtain ⟨v1, rfl, hb1, hxa⟩ := hp.chs
    clear hp
    dsimp only at hb1 ⊢
    obtain ⟨a1, c1, rfl, hc11, hc12⟩ := hb1.shape
    clear hb1
    go_wp2_with fail
    refine (HSP.out _ hxa).mono ?_
    rintro e wb ⟨b, rfl, hsl, hbl, hxb⟩
    clear hsl
    go_wp2_with fail
    go_ret
    exact ⟨ret_bool (decide_eq_true (by omega)), HX1.out.trans (hxa.trans hxb)⟩
  · obtain ⟨l', hl', hr'⟩ := readF_ahead hk hk64 hgd
    have hk' := hk
    rw [hp3] at hk'
    obtain ⟨hkP, hPk⟩ := pieces_at (xs := xs) hp5 hk'
    have hkd : FeedLine ((linesL (bts s'))[k]) ∨ (NoFeed ((linesL (bts s'))[k]) ∧ (linesL (bts s'))[k] ≠ []) := kinds_at hp4 hp5 (hp3 ▸ List.getElem_mem hk)
    have hone := readF_one hkd hbd
    have htk : (xs ++ [t]).take k = (linesL (bts s')).take k := by
      rw [hp3]
      have hkx : k ≤ xs.length := by rw [hpl] at hkP; omega
      rw [List.take_append_of_le_length hkx, List.take_append_of_le_length hkx]
    have hPk' : (xs ++ [t])[k] = (linesL (bts s'))[k] := by rw [hPk]; simp only [hp3]
    rw [← htk] at hr'
    rw [← hPk'] at hone
    have hfl : ((xs ++ [t]).take k).flatten.length ≤ 5000 := by
      have h1 : (xs ++ [t]).flatten.length = s'.size := by rw [hsz, List.flatten_append]; simp
      have h2 : (xs ++ [t]).flatten = ((xs ++ [t]).take k).flatten ++ ((xs ++ [t]).drop k).flatten := by rw [← List.flatten_append, List.take_append_drop]
      rw [h2, List.length_append] at h1
      omega
    have hel : ((xs ++ [t])[k]).length ≤ 5000 := by
      rw [hPk']
      have := (linesL_mem _ (bts s') (Nat.le_refl _) _ (List.getElem_mem hk)).1
      rw [bts_len] at this; omega
    have h1 := HRA.out s' w1 (Ext.refl _) z1
    rw [hr] at h1
    have h2 := fun w' (h : Ext w1 w') => HRA.out (txt ((xs ++ [t]).take k).flatten) w' h (by rw [txt_size]; omega)
    have h3 := fun w' (h : Ext w1 w') => HRA.out (txt (xs ++ [t])[k]) w' h (by rw [txt_size]; omega)
    rw [bts_txt, hr'] at h2
    rw [bts_txt, hone] at h3
    have H1 := Lib.hid h1
    have H2 := Lib.hid h2
    have H3 := Lib.hid h3
    have HFL := Lib.hid hfl
    have HJ := Lib.hid (fun w n b (h : Sl w (.slice (some ⟨b, 0, none⟩) n n) (xs ++ [t]).length (strsV (xs ++ [t]))) (hn : n = (xs ++ [t]).length) (hb : b < w.heap.size) => join_any h k (by omega) hb (by omega) (by omega) (by omega))
    have HAT := Lib.hid (fun w n b (h : Sl w (.slice (some ⟨b, 0, none⟩) n n) (xs ++ [t]).length (strsV (xs ++ [t]))) => sl_at h hkP)
    generalize txt ((xs ++ [t]).take k).flatten = jt at *
    generalize txt (xs ++ [t])[k] = pk at *
    have hPn : k < (xs ++ [t]).length := hkP
    generalize hPP : xs ++ [t] = P at *
    clear h1 h2 h3 hr hone hr' hgd hbd hk hk' htk hPk hPk' hkd hfl hel hp3 hp4 hp5 hp6 hpl hsz hPP hkP
    go_wp2_with fail
    refine H1.out.mono ?_
    rintro e wa hp
    obtain ⟨v1, rfl, hb1, hxa⟩ := hp.chs
    clear hp
    dsimp only at hb1 ⊢
    obtain ⟨a1, c1, rfl, hc11, hc12⟩ := hb1.shape
    clear hb1
    go_wp2_with fail
    refine (HSP.out _ hxa).mono ?_
    rintro e wb ⟨b, rfl, hsl, hbl, hxb⟩
    have HSL := Lib.hid hsl
    clear hsl
    go_wp2_with fail
    refine (HJ.out _ _ _ HSL.out rfl hbl).mono ?_
    rintro e wc ⟨rfl, hxc⟩
    go_wp2_with fail
    refine (H2.out _ (hxa.trans (hxb.trans hxc))).mono ?_
    rintro e wd hp
    obtain ⟨v2, rfl, hb2, hxd⟩ := hp.chs
    clear hp
    dsimp only at hb2 ⊢
    obtain ⟨a2, c2, rfl, hc21, hc22⟩ := hb2.shape
    rw [hl'] at *
    clear hb2
    have hat := ext_cell (hxc.trans hxd) (HAT.out _ _ _ HSL.out)
    go_wp2_with fail
    refine (H3.out _ (hxa.trans (hxb.trans (hxc.trans hxd)))).mono ?_
    rintro e we hp
    obtain ⟨v3, rfl, hb3, hxe⟩ := hp.chs
    clear hp
    dsimp only at hb3 ⊢
    clear hb3
    go_wp2_with fail
    go_ret
    exact ⟨rfl, HX1.out.trans (hxa.trans (hxb.trans (hxc.trans (hxd.trans hxe))))⟩
end Go.Proofs.YtilbofkpjgcchaaDoor
