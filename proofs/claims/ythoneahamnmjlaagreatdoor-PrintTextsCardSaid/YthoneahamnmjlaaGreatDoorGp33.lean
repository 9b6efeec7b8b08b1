/- A pattern with other names; whether patterns are alike: the walks. -/
import Derived.Test.YthoneahamnmjlaaGreatDoorGp32
import Derived.Test.YthoneahamnmjlaaGreatDoorGp16
import Derived.Test.YthoneahamnmjlaaGreatDoorGp17
namespace Go.Proofs.YthoneahamnmjlaaGreatDoor
set_option maxRecDepth 100000
set_option maxHeartbeats 2000000
set_option linter.unusedSimpArgs false
open Go.RowKit Go.Shelf Go.Sort
attribute [local go_sem] Oper.semAt_some wide_fn wide_depth
set_option linter.unusedVariables false

theorem namesB_snoc (n : Nat) (l : List ByteArray) (k : Nat) (hk : k < l.length) (h : (l.take k).all wordB = true ∧ (l.take k).Nodup) :
    (wordB l[k] = false → namesB n l = false) ∧ (hasB l[k] (l.take k) = true → namesB n l = false) ∧ (wordB l[k] = true → hasB l[k] (l.take k) = false → (l.take (k + 1)).all wordB = true ∧ (l.take (k + 1)).Nodup) := by
  refine ⟨fun hw => ?_, fun hh => ?_, fun hw hh => ?_⟩
  · unfold namesB
    rw [show l.all wordB = false from by
      rw [← Bool.not_eq_true, List.all_eq_true]
      intro ha
      have := ha _ (List.getElem_mem hk)
      rw [hw] at this; cases this]
    rfl
  · unfold namesB
    rw [show decide l.Nodup = false from decide_eq_false (fun hn => by
      have hm := hasB_iff.1 hh
      obtain ⟨j, hj, e⟩ := List.getElem_of_mem hm
      rw [List.length_take] at hj
      rw [List.getElem_take] at e
      have := (List.getElem_inj hn).1 e
      omega)]
    simp
  · rw [List.take_succ_eq_append_getElem hk]
    refine ⟨by rw [List.all_append, h.1]; simp [hw], ?_⟩
    rw [List.nodup_append]
    refine ⟨h.2, by simp, ?_⟩
    intro x hx y hy e
    rw [List.mem_singleton] at hy
    subst hy; subst e
    exact hasB_no.1 hh hx
theorem namesB_end (n : Nat) (l : List ByteArray) (h : l.all wordB = true ∧ l.Nodup) : namesB n l = decide (l.length = n) := by
  unfold namesB
  rw [h.1, decide_eq_true h.2]; rfl
set_option maxRecDepth 100000 in
set_option maxHeartbeats 4000000 in
theorem Rename_any (v nv : Value) (P : Pat) (N : List ByteArray) (w : World) (h : PatAt w v P) (hf : P.Fits) (hn : Strs w nv N) (hs : ∀ s ∈ N, s.size ≤ 9223372036854775800) :
    Calls Tryz.prog 26 #[v, nv] w fun e w' => ∃ u, e = .returned (.tuple #[u, .int .i64 (renE P N).2]) ∧ PatIn w.heap.size w' u (renE P N).1 ∧ Ext w w' := by
  have hck := fun w' (hx : Ext w w') => checkP_any v P w' (h.ext hx) hf
  have hvs := fun w' (hx : Ext w w') => varsP_any v P w' (h.ext hx) hf
  have htn := fun (w' : World) (M : Nat) (hx : Ext w w') (hm : MapAt .string w' M (kvN (varsS P.atoms) N)) (hl : P.atoms.length ≤ 100000 ∧ P.ret.length ≤ 100000 ∧ P.hint.length ≤ 100000) (hle : N.length = (varsS P.atoms).length) => turned_any v P (varsS P.atoms) N M w' (h.ext hx) hm hle hl.1 hl.2.1 hl.2.2
  obtain ⟨av, rv, hv, rfl, ha, hr, hh⟩ := h
  obtain ⟨na, nc, rfl, hnc1, hnc2⟩ := Sl.shape hn
  have HNM := Lib.hid hn
  have HSZ := Lib.hid hs
  clear ha hr hh hn hs
  cases hk : P.okB with
  | false =>
    have hF : renE P N = (noPat, 261) := by unfold renE; rw [if_neg (by rw [hk]; decide)]
    unfold checkE at hck
    rw [if_neg (by rw [hk]; decide)] at hck
    have HC := Lib.hid hck
    rw [hF]
    unfold patV patL at *
    clear hk hck hF hvs htn
    -- a function with two boxes at its head: colander/print.Rename its name, [av, rv, .bool P.count, .bool P.distinct, .bool P.limited, .int .i64 P.limit, .int .i64 P.offset, hv] [.slice none 0 0, .slice none 0 0, .bool false, .bool false, .bool false, .int .i64 0, .int .i64 0, .slice none 0 0] their cells (lists), api.Pattern api.Pattern their types' names
    have hbx := boxes2 w ([av, rv, .bool P.count, .bool P.distinct, .bool P.limited, .int .i64 P.limit, .int .i64 P.offset, hv]) 25 ([.slice none 0 0, .slice none 0 0, .bool false, .bool false, .bool false, .int .i64 0, .int .i64 0, .slice none 0 0]) 25
    have HBX := Lib.hid hbx
    clear hbx
    go_enter Tryz.func26, Tryz.ntmps26
    go_upto_region 1 with fail
    generalize (w.alloc (.cells ([av, rv, .bool P.count, .bool P.distinct, .bool P.limited, .int .i64 P.limit, .int .i64 P.offset, hv]).toArray 25)).alloc (.cells ([.slice none 0 0, .slice none 0 0, .bool false, .bool false, .bool false, .int .i64 0, .int .i64 0, .slice none 0 0]).toArray 25) = w1 at *
    obtain ⟨y0, hy0⟩ : ∃ x, w.heap.size = x := ⟨_, rfl⟩
    obtain ⟨y1, hy1⟩ : ∃ x, y0 + 1 = x := ⟨_, rfl⟩
    rw [hy0, hy1] at HBX
    simp only [hy0, hy1]
    have HN := Lib.hid (show w.heap.size = y0 ∧ y0 + 1 = y1 from ⟨hy0, hy1⟩)
    have HX := Lib.hid HBX.out.1
    have H0 := Lib.hid HBX.out.2.1
    have H1 := Lib.hid HBX.out.2.2
    clear hy0 hy1 HBX
    obtain ⟨d0, d1, d2, d3, d4, d5, d6, d7⟩ := row8_facts H0.out
    go_wp2_with fail
    go_step3
    go_wp2_with fail
    refine (HC.out _ HX.out).mono ?_
    rintro e w2 ⟨rfl, hx2⟩
    have HX2 := Lib.hid (HX.out.trans hx2)
    have K1 := Lib.hid (H1.out.ext hx2)
    clear d0 d1 d2 d3 d4 d5 d6 d7 hx2 HX H0 H1 HC
    go_upto_region 3 with fail
    apply wp_region_lit
    refine wpList_built rfl _ _ rfl #[.slice none 0 0, .slice none 0 0, .bool false, .bool false, .bool false, .int .i64 0, .int .i64 0, .slice none 0 0] (by kernel_rfl) ?_
    refine wpList_plain rfl fun K1 hK1 => ?_
    go_simp
    refine hK1 _ _ ?_
    clear hK1 K1
    -- as STEND2, with one more result in a slot
    refine plain_store rfl _ _ _ rfl y1 ([.slice none 0 0, .slice none 0 0, .bool false, .bool false, .bool false, .int .i64 0, .int .i64 0, .slice none 0 0]) rfl rfl (K1.out) (by kernel_rfl) rfl ((by simp [Value.oneCell'])) ?_
    have HRR := Lib.hid ((K1.out).setRow ([.slice none 0 0, .slice none 0 0, .bool false, .bool false, .bool false, .int .i64 0, .int .i64 0, .slice none 0 0]))
    have HXX := Lib.hid (show Ext w ((w2).setRow y1 ([.slice none 0 0, .slice none 0 0, .bool false, .bool false, .bool false, .int .i64 0, .int .i64 0, .slice none 0 0]).toArray) from below_setRow (HX2.out) ((by have := HN.out; omega)) _)
    go_simp
    generalize (w2).setRow y1 ([.slice none 0 0, .slice none 0 0, .bool false, .bool false, .bool false, .int .i64 0, .int .i64 0, .slice none 0 0]).toArray = wend at *
    refine wpList_plain rfl fun K1 hK1 => ?_
    go_simp
    refine hK1 _ _ ?_
    clear hK1 K1
    apply wpList_nil
    go_wp2_with fail
    rw [Exit.noGoto_ret]
    exact bodyPost_ret (results_row1 rfl rfl HRR.out Tryz.underlying25 rfl (by kernel_rfl)) rfl (⟨_, rfl, noPat_in _ _, HXX.out⟩)
  | true =>
    have hF : renE P N = if namesB (varsS P.atoms).length N = true then (renP P N, 0) else (noPat, 2) := by unfold renE; rw [if_pos hk]
    unfold checkE at hck
    rw [if_pos hk] at hck
    have hve : varsE P = varsS P.atoms := by unfold varsE; rw [if_pos hk]
    rw [hve] at hvs
    obtain ⟨l1, l2, l3, l4⟩ := okB_few4 hk
    have HC := Lib.hid hck
    have HVS := Lib.hid hvs
    have HTN := Lib.hid (fun w' M hx hm hle => htn w' M hx hm ⟨l1, l2, l3⟩ hle)
    have HND := Lib.hid (varsS_nodup P.atoms)
    have hpl : renP P N = turnP (nameAt (varsS P.atoms) N) P := rfl
    rw [hpl] at hF
    generalize turnP (nameAt (varsS P.atoms) N) P = Q at *
    generalize varsS P.atoms = V at *
    generalize renE P N = RES at *
    have HRES := Lib.hid hF
    unfold patV patL at *
    clear hk hck hF hvs htn hve hpl l1 l2 l3
    -- a function with two boxes at its head: colander/print.Rename its name, [av, rv, .bool P.count, .bool P.distinct, .bool P.limited, .int .i64 P.limit, .int .i64 P.offset, hv] [.slice none 0 0, .slice none 0 0, .bool false, .bool false, .bool false, .int .i64 0, .int .i64 0, .slice none 0 0] their cells (lists), api.Pattern api.Pattern their types' names
    have hbx := boxes2 w ([av, rv, .bool P.count, .bool P.distinct, .bool P.limited, .int .i64 P.limit, .int .i64 P.offset, hv]) 25 ([.slice none 0 0, .slice none 0 0, .bool false, .bool false, .bool false, .int .i64 0, .int .i64 0, .slice none 0 0]) 25
    have HBX := Lib.hid hbx
    clear hbx
    go_enter Tryz.func26, Tryz.ntmps26
    go_upto_region 1 with fail
    generalize (w.alloc (.cells ([av, rv, .bool P.count, .bool P.distinct, .bool P.limited, .int .i64 P.limit, .int .i64 P.offset, hv]).toArray 25)).alloc (.cells ([.slice none 0 0, .slice none 0 0, .bool false, .bool false, .bool false, .int .i64 0, .int .i64 0, .slice none 0 0]).toArray 25) = w1 at *
    obtain ⟨y0, hy0⟩ : ∃ x, w.heap.size = x := ⟨_, rfl⟩
    obtain ⟨y1, hy1⟩ : ∃ x, y0 + 1 = x := ⟨_, rfl⟩
    rw [hy0, hy1] at HBX
    simp only [hy0, hy1]
    have HN := Lib.hid (show w.heap.size = y0 ∧ y0 + 1 = y1 from ⟨hy0, hy1⟩)
    have HX := Lib.hid HBX.out.1
    have H0 := Lib.hid HBX.out.2.1
    have H1 := Lib.hid HBX.out.2.2
    clear hy0 hy1 HBX
    obtain ⟨d0, d1, d2, d3, d4, d5, d6, d7⟩ := row8_facts H0.out
    go_wp2_with fail
    go_step3
    go_wp2_with fail
    refine (HC.out _ HX.out).mono ?_
    rintro e w2 ⟨rfl, hx2⟩
    have HX2 := Lib.hid (HX.out.trans hx2)
    have K0 := Lib.hid (H0.out.ext hx2)
    have K1 := Lib.hid (H1.out.ext hx2)
    clear d0 d1 d2 d3 d4 d5 d6 d7 hx2 HX H0 H1 HC
    obtain ⟨d0, d1, d2, d3, d4, d5, d6, d7⟩ := row8_facts K0.out
    go_wp2_with fail
    refine (HVS.out w2 HX2.out).mono ?_
    rintro e w3 ⟨u, rfl, ho, hx3⟩
    have HX3 := Lib.hid (HX2.out.trans hx3)
    have J0 := Lib.hid (K0.out.ext hx3)
    have J1 := Lib.hid (K1.out.ext hx3)
    obtain ⟨ua, uc, rfl⟩ := own_vw ho
    have HU := Lib.hid (show Strs w3 (.slice ua V.length uc) V from Sl.of_own ho)
    clear d0 d1 d2 d3 d4 d5 d6 d7 hx3 ho HX2 K0 K1 HVS
    obtain ⟨b0, hb0⟩ : ∃ b, ((V.length : Int) == (N.length : Int)) = b := ⟨_, rfl⟩
    have hmm := @run_makeMap Tryz.prog
    go_upto_region 7 with fail
    clear hmm
    have HB0 := Lib.hid hb0
    have hxa := Ext.alloc w3 (.map #[] 0)
    have NI := Lib.hid (show NamI w y0 y1 w3.heap.size [av, rv, .bool P.count, .bool P.distinct, .bool P.limited, .int .i64 P.limit, .int .i64 P.offset, hv] ((kvN V N).take 0) (.slice ua V.length uc) V (w3.alloc (.map #[] 0)) from ⟨HX3.out.trans hxa, J0.out.ext hxa, J1.out.ext hxa, MapAt.new .string w3, HX3.out.size, Strs.ext HU.out hxa⟩)
    clear hxa HX3 J0 J1 HU hb0
    generalize w3.alloc (.map #[] 0) = w4 at *
    obtain ⟨M, hM⟩ : ∃ M, w3.heap.size = M := ⟨_, rfl⟩
    rw [hM] at NI
    simp only [hM]
    clear hM
    go_wp2_with fail
    go_step3
    go_wp2_with fail
    go_loopg [8, 28] N.length (fun g ok i wr => ∃ k : Nat, k ≤ N.length ∧ g = N.length - k ∧ i = .int .i64 k ∧ ok = .bool b0 ∧ Hid (k = 0 ∨ b0 = true) ∧ Hid ((N.take k).all wordB = true ∧ (N.take k).Nodup) ∧ NamI w y0 y1 M [av, rv, .bool P.count, .bool P.distinct, .bool P.limited, .int .i64 P.limit, .int .i64 P.offset, hv] ((kvN V N).take k) (.slice ua V.length uc) V wr)
    case atStart => exact ⟨0, Nat.zero_le _, rfl, rfl, rfl, Lib.hid (.inl rfl), Lib.hid ⟨by simp, by simp⟩, NI.out⟩
    case round =>
      obtain ⟨k, hk, hg, rfl, rfl, Hk0, Hwn, hni⟩ := hrel
      have Hg := Lib.hid hg
      have HI := Lib.hid hni
      clear hg hni NI
      by_cases hlt : k < N.length
      · obtain ⟨b, o, rfl, c0⟩ := Strs.at_ (Strs.ext HNM.out HI.out.ext) hlt
        have hsn := namesB_snoc V.length N k hlt Hwn.out
        have hsz := HSZ.out _ (List.getElem_mem hlt)
        have HS := Lib.hid hsn
        clear hsn
        obtain ⟨s, hs⟩ : ∃ s, N[k] = s := ⟨_, rfl⟩
        rw [hs] at c0 HS hsz
        have HSE := Lib.hid hs
        clear hs
        cases b0 with
        | false =>
          -- Rename: the names are not good: wr the world now, HI.out fact NamI there, (show RES = (noPat, 2) from by rw [HRES.out, if_neg]; unfold namesB; have := HB0.out; rw [show decide (N.length = V.length) = false from decide_eq_false (by intro e; rw [e] at this; simp at this)]; simp) proof of RES = (noPat, 2)
          have HRB := Lib.hid (show RES = (noPat, 2) from by rw [HRES.out, if_neg]; unfold namesB; have := HB0.out; rw [show decide (N.length = V.length) = false from decide_eq_false (by intro e; rw [e] at this; simp at this)]; simp)
          have HBR := Lib.hid ((HI.out).res)
          have HBX := Lib.hid ((HI.out).ext)
          go_upto_region 15 with fail
          apply wp_region_lit
          refine wpList_built rfl _ _ rfl #[.slice none 0 0, .slice none 0 0, .bool false, .bool false, .bool false, .int .i64 0, .int .i64 0, .slice none 0 0] (by kernel_rfl) ?_
          -- as STEND2, with one more result in a slot
          refine plain_store rfl _ _ _ rfl y1 ([.slice none 0 0, .slice none 0 0, .bool false, .bool false, .bool false, .int .i64 0, .int .i64 0, .slice none 0 0]) rfl rfl (HBR.out) (by kernel_rfl) rfl ((by simp [Value.oneCell'])) ?_
          have HRR := Lib.hid ((HBR.out).setRow ([.slice none 0 0, .slice none 0 0, .bool false, .bool false, .bool false, .int .i64 0, .int .i64 0, .slice none 0 0]))
          have HXX := Lib.hid (show Ext w ((wr).setRow y1 ([.slice none 0 0, .slice none 0 0, .bool false, .bool false, .bool false, .int .i64 0, .int .i64 0, .slice none 0 0]).toArray) from below_setRow (HBX.out) ((by have := HN.out; omega)) _)
          go_simp
          generalize (wr).setRow y1 ([.slice none 0 0, .slice none 0 0, .bool false, .bool false, .bool false, .int .i64 0, .int .i64 0, .slice none 0 0]).toArray = wend at *
          refine wpList_plain rfl fun K1 hK1 => ?_
          go_simp
          refine hK1 _ _ ?_
          clear hK1 K1
          apply wpList_nil
          go_wp2_with fail
          rw [Exit.noGoto_ret]
          exact bodyPost_ret (results_row1 rfl rfl HRR.out Tryz.underlying25 rfl (by kernel_rfl)) rfl (⟨pnoV, by rw [HRB.out]; rfl, by rw [HRB.out]; exact noPat_in _ _, HXX.out⟩)
        | true =>
          have hlen : N.length = V.length := by have := HB0.out; simp at this; omega
          have HWD := Lib.hid (fun w' => wordP_any s w' hsz)
          have hkv : k < V.length := by omega
          have hkt := kvN_take hlen hkv
          have hkn := kvN_new (N := N) HND.out hkv
          rw [HSE.out] at hkt
          obtain ⟨vk, hvk⟩ : ∃ x, V[k] = x := ⟨_, rfl⟩
          rw [hvk] at hkt hkn
          have HVK := Lib.hid hvk
          have HKT := Lib.hid hkt
          have HKN := Lib.hid hkn
          have HLE := Lib.hid hlen
          clear hkt hkn hvk hlen
          cases hwb : wordB s with
          | false =>
            rw [hwb] at HWD
            have HR1 := Lib.hid (HS.out.1 hwb)
            clear hwb HS
            go_wp2_with fail
            refine (HWD.out _).mono ?_
            rintro e w5 ⟨rfl, hx5⟩
            have HI5 := Lib.hid (HI.out.more hx5)
            clear c0 hx5 HI
            -- Rename: the names are not good: w5 the world now, HI5.out fact NamI there, (show RES = (noPat, 2) from by rw [HRES.out, if_neg (by rw [HR1.out]; decide)]) proof of RES = (noPat, 2)
            have HRB := Lib.hid (show RES = (noPat, 2) from by rw [HRES.out, if_neg (by rw [HR1.out]; decide)])
            have HBR := Lib.hid ((HI5.out).res)
            have HBX := Lib.hid ((HI5.out).ext)
            go_upto_region 15 with fail
            apply wp_region_lit
            refine wpList_built rfl _ _ rfl #[.slice none 0 0, .slice none 0 0, .bool false, .bool false, .bool false, .int .i64 0, .int .i64 0, .slice none 0 0] (by kernel_rfl) ?_
            -- as STEND2, with one more result in a slot
            refine plain_store rfl _ _ _ rfl y1 ([.slice none 0 0, .slice none 0 0, .bool false, .bool false, .bool false, .int .i64 0, .int .i64 0, .slice none 0 0]) rfl rfl (HBR.out) (by kernel_rfl) rfl ((by simp [Value.oneCell'])) ?_
            have HRR := Lib.hid ((HBR.out).setRow ([.slice none 0 0, .slice none 0 0, .bool false, .bool false, .bool false, .int .i64 0, .int .i64 0, .slice none 0 0]))
            have HXX := Lib.hid (show Ext w ((w5).setRow y1 ([.slice none 0 0, .slice none 0 0, .bool false, .bool false, .bool false, .int .i64 0, .int .i64 0, .slice none 0 0]).toArray) from below_setRow (HBX.out) ((by have := HN.out; omega)) _)
            go_simp
            generalize (w5).setRow y1 ([.slice none 0 0, .slice none 0 0, .bool false, .bool false, .bool false, .int .i64 0, .int .i64 0, .slice none 0 0]).toArray = wend at *
            refine wpList_plain rfl fun K1 hK1 => ?_
            go_simp
            refine hK1 _ _ ?_
            clear hK1 K1
            apply wpList_nil
            go_wp2_with fail
            rw [Exit.noGoto_ret]
            exact bodyPost_ret (results_row1 rfl rfl HRR.out Tryz.underlying25 rfl (by kernel_rfl)) rfl (⟨pnoV, by rw [HRB.out]; rfl, by rw [HRB.out]; exact noPat_in _ _, HXX.out⟩)
          | true =>
            rw [hwb] at HWD
            have HHP := Lib.hid (fun w' (hx : Ext w w') => hasP_any s _ (N.take k) w' (strs_take (Strs.ext HNM.out hx) k hk))
            obtain ⟨hb, hhb⟩ : ∃ x, hasB s (N.take k) = x := ⟨_, rfl⟩
            rw [hhb] at HHP HS
            have hS := HS.out
            clear hhb
            cases hb with
            | true =>
              have HR1 := Lib.hid (hS.2.1 rfl)
              clear hwb HS hS
              go_wp2_with fail
              refine (HWD.out _).mono ?_
              rintro e w5 ⟨rfl, hx5⟩
              have HI5 := Lib.hid (HI.out.more hx5)
              clear c0 hx5 HI
              go_wp2_with fail
              refine (HHP.out _ HI5.out.ext).mono ?_
              rintro e w6 ⟨rfl, hw6⟩
              rw [hw6]
              clear hw6
              -- Rename: the names are not good: w5 the world now, HI5.out fact NamI there, (show RES = (noPat, 2) from by rw [HRES.out, if_neg (by rw [HR1.out]; decide)]) proof of RES = (noPat, 2)
              have HRB := Lib.hid (show RES = (noPat, 2) from by rw [HRES.out, if_neg (by rw [HR1.out]; decide)])
              have HBR := Lib.hid ((HI5.out).res)
              have HBX := Lib.hid ((HI5.out).ext)
              go_upto_region 15 with fail
              apply wp_region_lit
              refine wpList_built rfl _ _ rfl #[.slice none 0 0, .slice none 0 0, .bool false, .bool false, .bool false, .int .i64 0, .int .i64 0, .slice none 0 0] (by kernel_rfl) ?_
              -- as STEND2, with one more result in a slot
              refine plain_store rfl _ _ _ rfl y1 ([.slice none 0 0, .slice none 0 0, .bool false, .bool false, .bool false, .int .i64 0, .int .i64 0, .slice none 0 0]) rfl rfl (HBR.out) (by kernel_rfl) rfl ((by simp [Value.oneCell'])) ?_
              have HRR := Lib.hid ((HBR.out).setRow ([.slice none 0 0, .slice none 0 0, .bool false, .bool false, .bool false, .int .i64 0, .int .i64 0, .slice none 0 0]))
              have HXX := Lib.hid (show Ext w ((w5).setRow y1 ([.slice none 0 0, .slice none 0 0, .bool false, .bool false, .bool false, .int .i64 0, .int .i64 0, .slice none 0 0]).toArray) from below_setRow (HBX.out) ((by have := HN.out; omega)) _)
              go_simp
              generalize (w5).setRow y1 ([.slice none 0 0, .slice none 0 0, .bool false, .bool false, .bool false, .int .i64 0, .int .i64 0, .slice none 0 0]).toArray = wend at *
              refine wpList_plain rfl fun K1 hK1 => ?_
              go_simp
              refine hK1 _ _ ?_
              clear hK1 K1
              apply wpList_nil
              go_wp2_with fail
              rw [Exit.noGoto_ret]
              exact bodyPost_ret (results_row1 rfl rfl HRR.out Tryz.underlying25 rfl (by kernel_rfl)) rfl (⟨pnoV, by rw [HRB.out]; rfl, by rw [HRB.out]; exact noPat_in _ _, HXX.out⟩)
            | false =>
              have HR1 := Lib.hid (hS.2.2 hwb rfl)
              clear hwb HS hS
              go_wp2_with fail
              refine (HWD.out _).mono ?_
              rintro e w5 ⟨rfl, hx5⟩
              have HI5 := Lib.hid (HI.out.more hx5)
              clear c0 hx5 HI
              go_wp2_with fail
              refine (HHP.out _ HI5.out.ext).mono ?_
              rintro e w6 ⟨rfl, hw6⟩
              rw [hw6]
              clear hw6
              obtain ⟨b2, o2, rfl, c2⟩ := Strs.at_ HI5.out.vars hkv
              rw [HVK.out] at c2
              go_wp2_with (refine wpList_put_new (b := M) (k := .string vk) (v := .agg #[.string s]) _ rfl _ _ _ _ rfl Tryz.underlying55 Tryz.underlying9 rfl rfl rfl HI5.out.map (isKey_str vk) HKN.out ?_; intro w7 hM7 hg7 hs7; have HI7 := Lib.hid (HI5.out.put hM7 hg7); clear hM7 hg7 hs7)
              go_roundg (N.length - (k + 1))
              case measure => have := Hg.out; omega
              case rel => exact ⟨k + 1, by omega, rfl, by go_num, rfl, Lib.hid (.inr (by first | rfl | trivial)), HR1, by rw [HKT.out]; exact HI7.out⟩
      · have he : k = N.length := by omega
        have hwn := Hwn.out
        rw [List.take_of_length_le (by omega)] at hwn
        have HNB := Lib.hid (namesB_end V.length N hwn)
        clear hwn
        cases b0 with
        | false =>
          -- Rename: the names are not good: wr the world now, HI.out fact NamI there, (show RES = (noPat, 2) from by rw [HRES.out, if_neg]; rw [HNB.out]; have := HB0.out; rw [show decide (N.length = V.length) = false from decide_eq_false (by intro e; rw [e] at this; simp at this)]; decide) proof of RES = (noPat, 2)
          have HRB := Lib.hid (show RES = (noPat, 2) from by rw [HRES.out, if_neg]; rw [HNB.out]; have := HB0.out; rw [show decide (N.length = V.length) = false from decide_eq_false (by intro e; rw [e] at this; simp at this)]; decide)
          have HBR := Lib.hid ((HI.out).res)
          have HBX := Lib.hid ((HI.out).ext)
          go_upto_region 15 with fail
          apply wp_region_lit
          refine wpList_built rfl _ _ rfl #[.slice none 0 0, .slice none 0 0, .bool false, .bool false, .bool false, .int .i64 0, .int .i64 0, .slice none 0 0] (by kernel_rfl) ?_
          -- as STEND2, with one more result in a slot
          refine plain_store rfl _ _ _ rfl y1 ([.slice none 0 0, .slice none 0 0, .bool false, .bool false, .bool false, .int .i64 0, .int .i64 0, .slice none 0 0]) rfl rfl (HBR.out) (by kernel_rfl) rfl ((by simp [Value.oneCell'])) ?_
          have HRR := Lib.hid ((HBR.out).setRow ([.slice none 0 0, .slice none 0 0, .bool false, .bool false, .bool false, .int .i64 0, .int .i64 0, .slice none 0 0]))
          have HXX := Lib.hid (show Ext w ((wr).setRow y1 ([.slice none 0 0, .slice none 0 0, .bool false, .bool false, .bool false, .int .i64 0, .int .i64 0, .slice none 0 0]).toArray) from below_setRow (HBX.out) ((by have := HN.out; omega)) _)
          go_simp
          generalize (wr).setRow y1 ([.slice none 0 0, .slice none 0 0, .bool false, .bool false, .bool false, .int .i64 0, .int .i64 0, .slice none 0 0]).toArray = wend at *
          refine wpList_plain rfl fun K1 hK1 => ?_
          go_simp
          refine hK1 _ _ ?_
          clear hK1 K1
          apply wpList_nil
          go_wp2_with fail
          rw [Exit.noGoto_ret]
          exact bodyPost_ret (results_row1 rfl rfl HRR.out Tryz.underlying25 rfl (by kernel_rfl)) rfl (⟨pnoV, by rw [HRB.out]; rfl, by rw [HRB.out]; exact noPat_in _ _, HXX.out⟩)
        | true =>
          have hlen : N.length = V.length := by have := HB0.out; simp at this; omega
          have HRS := Lib.hid (show RES = (Q, 0) from by rw [HRES.out, if_pos]; rw [HNB.out, decide_eq_true hlen])
          have hni := HI.out
          rw [List.take_of_length_le (by rw [kvN_len _ _ hlen]; omega)] at hni
          have HI2 := Lib.hid hni
          have HTN2 := Lib.hid (HTN.out wr M HI2.out.ext HI2.out.map hlen)
          clear HI hni hlen HTN
          go_upto_region 16 with fail
          apply wp_region_lit
          -- a load of a whole row: y0 block, HI2.out.row fact RowAt, api.Pattern the type's name
          refine plain_load rfl _ _ rfl y0 rfl _ _ (HI2.out.row) Tryz.underlying25 rfl (by kernel_rfl) ?_
          go_simp
          refine wpList_plain rfl fun K1 hK1 => ?_
          go_simp
          refine hK1 _ _ ?_
          clear hK1 K1
          -- a call in a plain region: refine HTN2.out.mono ?_; rintro e w7 ⟨u7, rfl, hpi, hx7⟩ the contract taken, and its results named
          refine wpList_plain rfl fun K1 hK1 => ?_
          go_simp
          refine HTN2.out.mono ?_; rintro e w7 ⟨u7, rfl, hpi, hx7⟩
          go_simp
          refine hK1 _ _ ?_
          clear hK1 K1
          have HI7 := Lib.hid (HI2.out.more hx7)
          obtain ⟨pa, pr, ph, rfl, o1, o2, o3⟩ := hpi
          have hlo7 := HI2.out.ext.size
          have HP1 := Lib.hid (fun arr => own_turn (own_base o1 hlo7) HI7.out.res (by decide) (setRow_grown w7 y1 arr))
          have HP2 := Lib.hid (fun arr => own_turn (own_base o2 hlo7) HI7.out.res (by decide) (setRow_grown w7 y1 arr))
          have HP3 := Lib.hid (fun arr => own_turn (own_base o3 hlo7) HI7.out.res (by decide) (setRow_grown w7 y1 arr))
          obtain ⟨z1, z2, rfl⟩ := own_vw o1
          obtain ⟨z3, z4, rfl⟩ := own_vw o2
          obtain ⟨z5, z6, rfl⟩ := own_vw o3
          clear o1 o2 o3 hx7 HI2
          unfold patV
          -- as STEND1, with facts HP1 to HP3 on owned rows that go over the store (HQ1 to HQ3)
          refine plain_store rfl _ _ _ rfl y1 ((patL (.slice z1 Q.atoms.length z2) (.slice z3 Q.ret.length z4) (.slice z5 Q.hint.length z6) Q)) rfl rfl (HI7.out.res) (by kernel_rfl) rfl ((by simp [patL, Value.oneCell'])) ?_
          have HRR := Lib.hid ((HI7.out.res).setRow ((patL (.slice z1 Q.atoms.length z2) (.slice z3 Q.ret.length z4) (.slice z5 Q.hint.length z6) Q)))
          have HXX := Lib.hid (show Ext w ((w7).setRow y1 ((patL (.slice z1 Q.atoms.length z2) (.slice z3 Q.ret.length z4) (.slice z5 Q.hint.length z6) Q)).toArray) from below_setRow (HI7.out.ext) ((by have := HN.out; omega)) _)
          have HQ1 := Lib.hid (HP1.out ((patL (.slice z1 Q.atoms.length z2) (.slice z3 Q.ret.length z4) (.slice z5 Q.hint.length z6) Q)).toArray)
          have HQ2 := Lib.hid (HP2.out ((patL (.slice z1 Q.atoms.length z2) (.slice z3 Q.ret.length z4) (.slice z5 Q.hint.length z6) Q)).toArray)
          have HQ3 := Lib.hid (HP3.out ((patL (.slice z1 Q.atoms.length z2) (.slice z3 Q.ret.length z4) (.slice z5 Q.hint.length z6) Q)).toArray)
          clear HP1 HP2 HP3
          go_simp
          generalize (w7).setRow y1 ((patL (.slice z1 Q.atoms.length z2) (.slice z3 Q.ret.length z4) (.slice z5 Q.hint.length z6) Q)).toArray = wend at *
          refine wpList_plain rfl fun K1 hK1 => ?_
          go_simp
          refine hK1 _ _ ?_
          clear hK1 K1
          apply wpList_nil
          go_wp2_with fail
          exact bodyPost_ret (results_row1 rfl rfl HRR.out Tryz.underlying25 rfl (by kernel_rfl)) rfl (⟨_, by rw [HRS.out]; rfl, by rw [HRS.out]; exact ⟨_, _, _, rfl, HQ1.out, HQ2.out, HQ3.out⟩, HXX.out⟩)
end Go.Proofs.YthoneahamnmjlaaGreatDoor

/- Whether patterns are alike: the walk. -/
namespace Go.Proofs.YthoneahamnmjlaaGreatDoor
set_option maxRecDepth 100000
set_option maxHeartbeats 2000000
set_option linter.unusedSimpArgs false
open Go.RowKit Go.Shelf Go.Sort
attribute [local go_sem] Oper.semAt_some wide_fn wide_depth
set_option linter.unusedVariables false

theorem PatAt.shape {w : World} {v : Value} {P : Pat} (h : PatAt w v P) : ∃ a1 c1 a2 c2 a3 c3, v = .agg #[.slice a1 P.atoms.length c1, .slice a2 P.ret.length c2, .bool P.count, .bool P.distinct, .bool P.limited, .int .i64 P.limit, .int .i64 P.offset, .slice a3 P.hint.length c3] := by
  obtain ⟨av, rv, hv, rfl, ha, hr, hh⟩ := h
  obtain ⟨a1, c1, rfl, _⟩ := ha.shape
  obtain ⟨a2, c2, rfl, _⟩ := Sl.shape hr
  obtain ⟨a3, c3, rfl, _⟩ := Sl.shape hh
  exact ⟨a1, c1, a2, c2, a3, c3, rfl⟩
theorem plainE_fits {P : Pat} : (plainE P).1.atoms.length ≤ 1000000000 := by
  unfold plainE
  split
  · rename_i h
    show (P.atoms.map _).length ≤ _
    rw [List.length_map]
    have := (okB_facts h).2.1; omega
  · decide
theorem alikeB_eq (P Q : Pat) : alikeB P Q = (((plainE P).2 == 0) && (((plainE Q).2 == 0) && sameB (plainE P).1 (plainE Q).1)) := by
  unfold alikeB plainE
  cases P.okB <;> cases Q.okB <;> simp
set_option maxRecDepth 100000 in
set_option maxHeartbeats 2000000 in
theorem Alike_any (v u : Value) (P Q : Pat) (w : World) (h : PatAt w v P) (h2 : PatAt w u Q) (hf : P.Fits) (hf2 : Q.Fits) (hW : Pows w) :
    Calls Tryz.prog 11 #[v, u] w fun e w' => e = .returned (.bool (alikeB P Q)) ∧ Ext w w' := by
  rw [alikeB_eq]
  have hp := fun w' (hx : Ext w w') => Plain_any v P w' (h.ext hx) hf (hW.ext hx)
  have hq := fun w' (hx : Ext w w') => Plain_any u Q w' (h2.ext hx) hf2 (hW.ext hx)
  have hpf := plainE_fits (P := P)
  have hqf := plainE_fits (P := Q)
  have hpc : (plainE P).2 = 0 ∨ (plainE P).2 = 261 := by unfold plainE; split <;> simp
  have hqc : (plainE Q).2 = 0 ∨ (plainE Q).2 = 261 := by unfold plainE; split <;> simp
  obtain ⟨a1, c1, a2, c2, a3, c3, rfl⟩ := h.shape
  obtain ⟨b1, e1, b2, e2, b3, e3, rfl⟩ := h2.shape
  clear h h2 hW hf hf2
  generalize plainE P = X at *
  generalize plainE Q = Y at *
  obtain ⟨X, x⟩ := X
  obtain ⟨Y, y⟩ := Y
  dsimp only at *
  have HP := Lib.hid hp
  have HQ := Lib.hid hq
  have HPF := Lib.hid hpf
  have HQF := Lib.hid hqf
  clear hp hq hpf hqf
  -- a function with two boxes at its head: colander/print.Alike its name, [.slice a1 P.atoms.length c1, .slice a2 P.ret.length c2, .bool P.count, .bool P.distinct, .bool P.limited, .int .i64 P.limit, .int .i64 P.offset, .slice a3 P.hint.length c3] [.slice b1 Q.atoms.length e1, .slice b2 Q.ret.length e2, .bool Q.count, .bool Q.distinct, .bool Q.limited, .int .i64 Q.limit, .int .i64 Q.offset, .slice b3 Q.hint.length e3] their cells (lists), api.Pattern api.Pattern their types' names
  have hbx := boxes2 w ([.slice a1 P.atoms.length c1, .slice a2 P.ret.length c2, .bool P.count, .bool P.distinct, .bool P.limited, .int .i64 P.limit, .int .i64 P.offset, .slice a3 P.hint.length c3]) 25 ([.slice b1 Q.atoms.length e1, .slice b2 Q.ret.length e2, .bool Q.count, .bool Q.distinct, .bool Q.limited, .int .i64 Q.limit, .int .i64 Q.offset, .slice b3 Q.hint.length e3]) 25
  have HBX := Lib.hid hbx
  clear hbx
  go_enter Tryz.func11, Tryz.ntmps11
  go_upto_region 1 with fail
  generalize (w.alloc (.cells ([.slice a1 P.atoms.length c1, .slice a2 P.ret.length c2, .bool P.count, .bool P.distinct, .bool P.limited, .int .i64 P.limit, .int .i64 P.offset, .slice a3 P.hint.length c3]).toArray 25)).alloc (.cells ([.slice b1 Q.atoms.length e1, .slice b2 Q.ret.length e2, .bool Q.count, .bool Q.distinct, .bool Q.limited, .int .i64 Q.limit, .int .i64 Q.offset, .slice b3 Q.hint.length e3]).toArray 25) = w1 at *
  obtain ⟨y0, hy0⟩ : ∃ x, w.heap.size = x := ⟨_, rfl⟩
  obtain ⟨y1, hy1⟩ : ∃ x, y0 + 1 = x := ⟨_, rfl⟩
  rw [hy0, hy1] at HBX
  simp only [hy0, hy1]
  have HN := Lib.hid (show w.heap.size = y0 ∧ y0 + 1 = y1 from ⟨hy0, hy1⟩)
  have HX := Lib.hid HBX.out.1
  have H0 := Lib.hid HBX.out.2.1
  have H1 := Lib.hid HBX.out.2.2
  clear hy0 hy1 HBX
  obtain ⟨d0, d1, d2, d3, d4, d5, d6, d7⟩ := row8_facts H0.out
  go_wp2_with fail
  refine (HP.out _ HX.out).mono ?_
  rintro e w2 ⟨ux, rfl, hux, hx2⟩
  obtain ⟨f1, g1, f2, g2, f3, g3, rfl⟩ := hux.at_.shape
  have HX2 := Lib.hid (HX.out.trans hx2)
  have K1 := Lib.hid (H1.out.ext hx2)
  have HU := Lib.hid hux.at_
  clear d0 d1 d2 d3 d4 d5 d6 d7 hx2 hux HX H0 H1 HP
  go_upto_region 2 with fail
  have hxa := Ext.alloc w2 (.cells #[.slice f1 X.atoms.length g1, .slice f2 X.ret.length g2, .bool X.count, .bool X.distinct, .bool X.limited, .int .i64 X.limit, .int .i64 X.offset, .slice f3 X.hint.length g3] 25)
  have R5 := Lib.hid (RowAt.new w2 25 [.slice f1 X.atoms.length g1, .slice f2 X.ret.length g2, .bool X.count, .bool X.distinct, .bool X.limited, .int .i64 X.limit, .int .i64 X.offset, .slice f3 X.hint.length g3])
  have HX3 := Lib.hid (HX2.out.trans hxa)
  have J1 := Lib.hid (K1.out.ext hxa)
  have HU3 := Lib.hid (HU.out.ext hxa)
  clear hxa HX2 K1 HU
  generalize w2.alloc (.cells #[.slice f1 X.atoms.length g1, .slice f2 X.ret.length g2, .bool X.count, .bool X.distinct, .bool X.limited, .int .i64 X.limit, .int .i64 X.offset, .slice f3 X.hint.length g3] 25) = w3 at *
  obtain ⟨y5, hy5⟩ : ∃ y, w2.heap.size = y := ⟨_, rfl⟩
  rw [hy5] at R5
  simp only [hy5]
  clear hy5
  obtain ⟨d0, d1, d2, d3, d4, d5, d6, d7⟩ := row8_facts J1.out
  go_wp2_with fail
  refine (HQ.out _ HX3.out).mono ?_
  rintro e w4 ⟨uy, rfl, huy, hx4⟩
  obtain ⟨k1, l1, k2, l2, k3, l3, rfl⟩ := huy.at_.shape
  have HX4 := Lib.hid (HX3.out.trans hx4)
  have R54 := Lib.hid (R5.out.ext hx4)
  have HU4 := Lib.hid (HU3.out.ext hx4)
  have HV4 := Lib.hid huy.at_
  clear d0 d1 d2 d3 d4 d5 d6 d7 hx4 huy HX3 J1 HQ R5 HU3
  go_upto_region 3 with fail
  have hxa := Ext.alloc w4 (.cells #[.slice k1 Y.atoms.length l1, .slice k2 Y.ret.length l2, .bool Y.count, .bool Y.distinct, .bool Y.limited, .int .i64 Y.limit, .int .i64 Y.offset, .slice k3 Y.hint.length l3] 25)
  have R7 := Lib.hid (RowAt.new w4 25 [.slice k1 Y.atoms.length l1, .slice k2 Y.ret.length l2, .bool Y.count, .bool Y.distinct, .bool Y.limited, .int .i64 Y.limit, .int .i64 Y.offset, .slice k3 Y.hint.length l3])
  have HX5 := Lib.hid (HX4.out.trans hxa)
  have R55 := Lib.hid (R54.out.ext hxa)
  have HU5 := Lib.hid (HU4.out.ext hxa)
  have HV5 := Lib.hid (HV4.out.ext hxa)
  clear hxa HX4 R54 HU4 HV4
  generalize w4.alloc (.cells #[.slice k1 Y.atoms.length l1, .slice k2 Y.ret.length l2, .bool Y.count, .bool Y.distinct, .bool Y.limited, .int .i64 Y.limit, .int .i64 Y.offset, .slice k3 Y.hint.length l3] 25) = w5 at *
  obtain ⟨y7, hy7⟩ : ∃ y, w4.heap.size = y := ⟨_, rfl⟩
  rw [hy7] at R7
  simp only [hy7]
  clear hy7
  obtain ⟨d0, d1, d2, d3, d4, d5, d6, d7⟩ := row8_facts R55.out
  obtain ⟨q0, q1, q2, q3, q4, q5, q6, q7⟩ := row8_facts R7.out
  have HSM := Lib.hid (sameP_any _ _ X Y w5 HU5.out HV5.out HPF.out HQF.out)
  rcases hpc with rfl | rfl
  · rcases hqc with rfl | rfl
    · go_wp2_with fail
      refine HSM.out.mono ?_
      rintro e w6 ⟨rfl, hx6⟩
      go_wp2
      go_ret
      exact ⟨by simp, HX5.out.trans hx6⟩
    · go_wp2_with fail
      go_ret
      exact ⟨by simp, HX5.out⟩
  · go_wp2_with fail
    go_ret
    exact ⟨by simp, HX5.out⟩
end Go.Proofs.YthoneahamnmjlaaGreatDoor
