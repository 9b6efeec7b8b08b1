/- CodecWrites: the walk. -/
import Derived.Test.YtdjkfjaffhboeaaCodecLBack
import Derived.Test.YtdjkfjaffhboeaaOpenC
namespace Go.Proofs.Ytdjkfjaffhboeaa
open Go.RowKit

theorem run_cut_str (s : ByteArray) (n : Nat) (i : Int) (hi : i = n) (h : n ≤ s.size) (w : World) :
    (Instr.slice 9 (.string s) none (some (.int .i64 i)) none).run Try.prog w = .ok (.string (s.extract 0 n)) w := by
  subst hi
  rw [run_slice_string_h w 9 s Try.underlying9 .i64 (n : Int) (by omega) (by omega)]
  rfl
theorem equalU_yes (v u : Value) (l m : List Int) (w : World) (hv : Ints w .u64 v l) (hu : Ints w .u64 u m) (h : l = m) :
    Calls Try.prog 17 #[v, u] w fun e w' => e = .returned (.bool true) ∧ ∃ n, w' = w.drewN n :=
  (equalU v u l m w hv hu).mono fun e w' ⟨he, hx⟩ => ⟨by rw [he, decide_eq_true h], hx⟩
theorem ints_nil (w : World) (k : IntKind) : Ints w k (.slice none 0 0) [] := Sl.nil w
theorem ba_cut_size (s : ByteArray) (n : Nat) (h : n ≤ s.size) : (s.extract 0 n).size = n := by rw [ByteArray.size_extract]; omega

set_option maxRecDepth 100000 in
set_option maxHeartbeats 4000000 in
theorem writes_walk (v1 : Value) (l1 : List Int) (v2 : Value) (ss : List ByteArray) (v3 : Value) (xs : List (Value × List Int)) (w : World) (hv1 : Ints w .u64 v1 l1) (hl1 : U64 l1)
    (hv2 : Strs w v2 ss ∧ ∀ s ∈ ss, s.size ≤ 9223372036854775807) (hv3 : RowsV w .u64 v3 xs ∧ ∀ x ∈ xs, ∀ n ∈ x.2, 0 ≤ n ∧ n < 18446744073709551616) :
    Calls Try.prog 4 #[v1, v2, v3] w fun e w' => e = .returned (.bool true) ∧ Below w.heap.size w w' := by
  obtain ⟨hv2, hs2⟩ := hv2
  obtain ⟨hv3, hx3⟩ := hv3
  have hv1' := hv1
  obtain ⟨a1, cap1, rfl, hcap1, hmax1, _⟩ := hv1'.open_
  obtain ⟨a2, cap2, rfl, hcap2, hmax2⟩ := Sl.shape hv2
  obtain ⟨a3, cap3, rfl, hcap3, hmax3⟩ := Sl.shape hv3.1
  clear hv1'
  go_enter Try.func4, Try.ntmps4
  go_wp2_with fail
  refine (wakes_any _).mono ?_
  rintro e w1 ⟨rfl, hx1⟩
  have i1 := hv1.ext hx1
  have i2 := hv2.ext hx1
  have i3 := hv3.ext hx1
  clear hv1 hv2 hv3
  go_wp2_with fail
  go_loopw [21] (fun i wr => ∃ k : Nat, k ≤ l1.length ∧ i = .int .i64 k ∧ Ext w1 wr) (fun i _ => l1.length - (intOf i).toNat)
  case atStart => exact ⟨0, Nat.zero_le _, rfl, Ext.refl _⟩
  case round =>
    obtain ⟨k, hk, rfl, hxr⟩ := hrel
    by_cases hlt : k < l1.length
    · have iAr := i1.ext hxr
      obtain ⟨_, _, e1, _, _, hc⟩ := iAr.open_
      simp only [Value.slice.injEq] at e1
      obtain ⟨rfl, _, rfl⟩ := e1
      obtain ⟨b, o, rfl, hcell⟩ := hc k hlt
      have hck := hcell k hlt
      obtain ⟨g0, g1⟩ := hl1.get hlt
      clear hc hcell
      by_cases h20 : k < 20
      · go_wp2_with fail
        refine (number_any l1[k] _ g0 g1).mono ?_
        rintro e wa ⟨ua, rfl, hoa, hxa⟩
        go_wp2_with fail
        refine (refNumber_any l1[k] _ g0 g1).mono ?_
        rintro e wb ⟨ub, rfl, hob, hxb⟩
        go_wp2_with fail
        refine (equalB_yes _ _ _ _ _ ((Own.ints hoa).ext hxb) (Own.ints hob) rfl).mono ?_
        rintro e wc ⟨rfl, nc, rfl⟩
        go_wp2
        go_roundw
        case rel => exact ⟨k + 1, by omega, by go_num, ((hxr.trans hxa).trans hxb).trans (Ext.drewN _ _)⟩
        case measure => simp [intOf]; omega
      · go_wp2
        go_roundw
        case rel => exact ⟨k + 1, by omega, by go_num, hxr⟩
        case measure => simp [intOf]; omega
    · replace i2 := i2.ext hxr
      replace i3 := i3.ext hxr
      replace hx1 := hx1.trans hxr
      clear i1 hl1
      go_wp2_with fail
      go_loopw [39] (fun i wx => ∃ k : Nat, k ≤ ss.length ∧ i = .int .i64 k ∧ Ext wr wx) (fun i _ => ss.length - (intOf i).toNat)
      case atStart => exact ⟨0, Nat.zero_le _, rfl, Ext.refl _⟩
      case round =>
        obtain ⟨k, hk, rfl, hxr⟩ := hrel
        by_cases hlt : k < ss.length
        · obtain ⟨b, o, rfl, hck⟩ := (i2.ext hxr).at_ hlt
          by_cases h6 : k = 6
          · have t6 : ((k : Int) == 6) = true := by simp; omega
            clear h6
            replace i3 := i3.ext hxr
            replace hx1 := hx1.trans hxr
            clear hxr
            go_wp2_with fail
            clear i2
            go_loopw [73] (fun i wx => ∃ k : Nat, k ≤ xs.length ∧ i = .int .i64 k ∧ Ext wr wx) (fun i _ => xs.length - (intOf i).toNat)
            case atStart => exact ⟨0, Nat.zero_le _, rfl, Ext.refl _⟩
            case round =>
              obtain ⟨k, hk, rfl, hxr⟩ := hrel
              by_cases hlt : k < xs.length
              · obtain ⟨⟨b, o, rfl, hck⟩, hirow⟩ := (i3.ext hxr).at_ hlt
                have hqU := hx3 _ (List.getElem_mem hlt)
                obtain ⟨ar, cr, hrv, hcr1, hcr2⟩ := Sl.shape hirow
                rw [hrv] at hck hirow
                clear hrv
                generalize xs[k].2 = q at hck hirow hqU hcr1
                by_cases h6 : k = 6
                · have t6 : ((k : Int) == 6) = true := by simp; omega
                  clear h6
                  go_wp2
                  go_ret
                  exact ⟨rfl, hx1.trans hxr⟩
                · have t6 : ((k : Int) == 6) = false := by simp; omega
                  clear h6
                  by_cases h40 : 40 < q.length
                  · go_wp2_with fail
                    refine (cloneU _ (q.take (40)) _ (hirow.cut (40) (by omega)) (by simp; omega)).mono ?_
                    rintro e wa ⟨ua, rfl, hoa, hxa⟩
                    have hU : U64 (q.take (40)) := fun c hc => hqU c (List.mem_of_mem_take hc)
                    have hle : (q.take (40)).length = 40 := by rw [List.length_take]; omega
                    have icut := (hirow.cut (40) (by omega)).ext hxa
                    have hck2 := (hxa.cell (p := ⟨b, o + k, none⟩) (cell_lt hck)).trans hck
                    generalize q.take (40) = L at hoa hU hle icut
                    have iL := Own.ints hoa
                    obtain ⟨pl, nl, cl, rfl⟩ := own_shape hoa
                    have hnl : nl = 40 := by
                      obtain ⟨_, _, e1, _⟩ := id iL
                      simp only [Value.slice.injEq] at e1
                      omega
                    subst hnl
                    clear hoa
                    go_wp2_with fail
                    refine (row_any _ L _ hU (by omega) iL).mono ?_
                    rintro e wb ⟨ub, rfl, hob, hxb⟩
                    have hck3 := (hxb.cell (p := ⟨b, o + k, none⟩) (cell_lt hck2)).trans hck2
                    go_wp2_with fail
                    refine (refRow_any _ L _ hU (by omega) (iL.ext hxb)).mono ?_
                    rintro e wc ⟨uc, rfl, hoc, hxc⟩
                    have hck4 := (hxc.cell (p := ⟨b, o + k, none⟩) (cell_lt hck3)).trans hck3
                    go_wp2_with fail
                    refine (equalB_yes _ _ _ _ _ ((Own.ints hob).ext hxc) (Own.ints hoc) rfl).mono ?_
                    rintro e wd ⟨rfl, nd, rfl⟩
                    go_wp2_with fail
                    refine (equalU_yes _ _ L L _ (((iL.ext hxb).ext hxc).ext (Ext.drewN _ _)) (((icut.ext hxb).ext hxc).ext (Ext.drewN _ _)) rfl).mono ?_
                    rintro e we ⟨rfl, ne, rfl⟩
                    go_wp2
                    go_roundw
                    case rel => exact ⟨k + 1, by omega, by go_num, (((hxr.trans hxa).trans hxb).trans hxc).trans (Ext.drewN _ _)⟩
                    case measure => simp [intOf]; omega
                  · go_wp2_with fail
                    refine (cloneU _ (q.take (q.length)) _ (hirow.cut (q.length) (by omega)) (by simp; omega)).mono ?_
                    rintro e wa ⟨ua, rfl, hoa, hxa⟩
                    have hU : U64 (q.take (q.length)) := fun c hc => hqU c (List.mem_of_mem_take hc)
                    have hle : (q.take (q.length)).length = q.length := by rw [List.length_take]; omega
                    have icut := (hirow.cut (q.length) (by omega)).ext hxa
                    have hck2 := (hxa.cell (p := ⟨b, o + k, none⟩) (cell_lt hck)).trans hck
                    generalize q.take (q.length) = L at hoa hU hle icut
                    have iL := Own.ints hoa
                    obtain ⟨pl, nl, cl, rfl⟩ := own_shape hoa
                    have hnl : nl = q.length := by
                      obtain ⟨_, _, e1, _⟩ := id iL
                      simp only [Value.slice.injEq] at e1
                      omega
                    subst hnl
                    clear hoa
                    go_wp2_with fail
                    refine (row_any _ L _ hU (by omega) iL).mono ?_
                    rintro e wb ⟨ub, rfl, hob, hxb⟩
                    have hck3 := (hxb.cell (p := ⟨b, o + k, none⟩) (cell_lt hck2)).trans hck2
                    go_wp2_with fail
                    refine (refRow_any _ L _ hU (by omega) (iL.ext hxb)).mono ?_
                    rintro e wc ⟨uc, rfl, hoc, hxc⟩
                    have hck4 := (hxc.cell (p := ⟨b, o + k, none⟩) (cell_lt hck3)).trans hck3
                    go_wp2_with fail
                    refine (equalB_yes _ _ _ _ _ ((Own.ints hob).ext hxc) (Own.ints hoc) rfl).mono ?_
                    rintro e wd ⟨rfl, nd, rfl⟩
                    go_wp2_with fail
                    refine (equalU_yes _ _ L L _ (((iL.ext hxb).ext hxc).ext (Ext.drewN _ _)) (((icut.ext hxb).ext hxc).ext (Ext.drewN _ _)) rfl).mono ?_
                    rintro e we ⟨rfl, ne, rfl⟩
                    go_wp2
                    go_roundw
                    case rel => exact ⟨k + 1, by omega, by go_num, (((hxr.trans hxa).trans hxb).trans hxc).trans (Ext.drewN _ _)⟩
                    case measure => simp [intOf]; omega
              · go_wp2
                go_ret
                exact ⟨rfl, hx1.trans hxr⟩
          · have t6 : ((k : Int) == 6) = false := by simp; omega
            clear h6
            have hsk := hs2 _ (List.getElem_mem hlt)
            generalize ss[k] = s at hck hsk
            by_cases h5 : 5000 < s.size
            · have hmin : min s.size 5000 = 5000 := by omega
              have hcs := run_cut_str s (5000) (5000) (by omega) (by omega)
              have hsz := ba_cut_size s (5000) (by omega)
              generalize s.extract 0 (5000) = S at hcs hsz
              have hSb : S.size ≤ 5000 := by omega
              clear hsz
              by_cases hlong : S.size ≤ 4000
              · have hd : decide (4000 < S.size) = false := by simp; omega
                go_wp2_with fail
                refine (text_ok S _ hlong).mono ?_
                rintro e wa ⟨ua, rfl, hoa, hxa⟩
                go_wp2_with fail
                refine (refText_any S _ (by omega)).mono ?_
                rintro e wb ⟨ub, rfl, hob, hxb⟩
                go_wp2_with fail
                refine (equalB_yes _ _ _ _ _ ((Own.ints hoa).ext hxb) (Own.ints hob) rfl).mono ?_
                rintro e wc ⟨rfl, nc, rfl⟩
                go_wp2
                go_roundw
                case rel => exact ⟨k + 1, by omega, by go_num, ((hxr.trans hxa).trans hxb).trans (Ext.drewN _ _)⟩
                case measure => simp [intOf]; omega
              · have hd : decide (4000 < S.size) = true := by simp; omega
                go_wp2_with fail
                refine (text_long S _ (by omega) (by omega)).mono ?_
                rintro e wa ⟨rfl, rfl⟩
                go_wp2_with fail
                refine (refText_any S _ (by omega)).mono ?_
                rintro e wb ⟨ub, rfl, hob, hxb⟩
                go_wp2_with fail
                refine (equalB_yes _ _ _ _ _ (ints_nil _ _) (ints_nil _ _) rfl).mono ?_
                rintro e wc ⟨rfl, nc, rfl⟩
                go_wp2
                go_roundw
                case rel => exact ⟨k + 1, by omega, by go_num, (hxr.trans hxb).trans (Ext.drewN _ _)⟩
                case measure => simp [intOf]; omega
            · skip
              have hcs := run_cut_str s (s.size) ((s.size : Int)) (by omega) (by omega)
              have hsz := ba_cut_size s (s.size) (by omega)
              generalize s.extract 0 (s.size) = S at hcs hsz
              have hSb : S.size ≤ 5000 := by omega
              clear hsz
              by_cases hlong : S.size ≤ 4000
              · have hd : decide (4000 < S.size) = false := by simp; omega
                go_wp2_with fail
                refine (text_ok S _ hlong).mono ?_
                rintro e wa ⟨ua, rfl, hoa, hxa⟩
                go_wp2_with fail
                refine (refText_any S _ (by omega)).mono ?_
                rintro e wb ⟨ub, rfl, hob, hxb⟩
                go_wp2_with fail
                refine (equalB_yes _ _ _ _ _ ((Own.ints hoa).ext hxb) (Own.ints hob) rfl).mono ?_
                rintro e wc ⟨rfl, nc, rfl⟩
                go_wp2
                go_roundw
                case rel => exact ⟨k + 1, by omega, by go_num, ((hxr.trans hxa).trans hxb).trans (Ext.drewN _ _)⟩
                case measure => simp [intOf]; omega
              · have hd : decide (4000 < S.size) = true := by simp; omega
                go_wp2_with fail
                refine (text_long S _ (by omega) (by omega)).mono ?_
                rintro e wa ⟨rfl, rfl⟩
                go_wp2_with fail
                refine (refText_any S _ (by omega)).mono ?_
                rintro e wb ⟨ub, rfl, hob, hxb⟩
                go_wp2_with fail
                refine (equalB_yes _ _ _ _ _ (ints_nil _ _) (ints_nil _ _) rfl).mono ?_
                rintro e wc ⟨rfl, nc, rfl⟩
                go_wp2
                go_roundw
                case rel => exact ⟨k + 1, by omega, by go_num, (hxr.trans hxb).trans (Ext.drewN _ _)⟩
                case measure => simp [intOf]; omega
        · replace i3 := i3.ext hxr
          replace hx1 := hx1.trans hxr
          clear hxr
          go_wp2_with fail
          clear i2
          go_loopw [73] (fun i wx => ∃ k : Nat, k ≤ xs.length ∧ i = .int .i64 k ∧ Ext wr wx) (fun i _ => xs.length - (intOf i).toNat)
          case atStart => exact ⟨0, Nat.zero_le _, rfl, Ext.refl _⟩
          case round =>
            obtain ⟨k, hk, rfl, hxr⟩ := hrel
            by_cases hlt : k < xs.length
            · obtain ⟨⟨b, o, rfl, hck⟩, hirow⟩ := (i3.ext hxr).at_ hlt
              have hqU := hx3 _ (List.getElem_mem hlt)
              obtain ⟨ar, cr, hrv, hcr1, hcr2⟩ := Sl.shape hirow
              rw [hrv] at hck hirow
              clear hrv
              generalize xs[k].2 = q at hck hirow hqU hcr1
              by_cases h6 : k = 6
              · have t6 : ((k : Int) == 6) = true := by simp; omega
                clear h6
                go_wp2
                go_ret
                exact ⟨rfl, hx1.trans hxr⟩
              · have t6 : ((k : Int) == 6) = false := by simp; omega
                clear h6
                by_cases h40 : 40 < q.length
                · go_wp2_with fail
                  refine (cloneU _ (q.take (40)) _ (hirow.cut (40) (by omega)) (by simp; omega)).mono ?_
                  rintro e wa ⟨ua, rfl, hoa, hxa⟩
                  have hU : U64 (q.take (40)) := fun c hc => hqU c (List.mem_of_mem_take hc)
                  have hle : (q.take (40)).length = 40 := by rw [List.length_take]; omega
                  have icut := (hirow.cut (40) (by omega)).ext hxa
                  have hck2 := (hxa.cell (p := ⟨b, o + k, none⟩) (cell_lt hck)).trans hck
                  generalize q.take (40) = L at hoa hU hle icut
                  have iL := Own.ints hoa
                  obtain ⟨pl, nl, cl, rfl⟩ := own_shape hoa
                  have hnl : nl = 40 := by
                    obtain ⟨_, _, e1, _⟩ := id iL
                    simp only [Value.slice.injEq] at e1
                    omega
                  subst hnl
                  clear hoa
                  go_wp2_with fail
                  refine (row_any _ L _ hU (by omega) iL).mono ?_
                  rintro e wb ⟨ub, rfl, hob, hxb⟩
                  have hck3 := (hxb.cell (p := ⟨b, o + k, none⟩) (cell_lt hck2)).trans hck2
                  go_wp2_with fail
                  refine (refRow_any _ L _ hU (by omega) (iL.ext hxb)).mono ?_
                  rintro e wc ⟨uc, rfl, hoc, hxc⟩
                  have hck4 := (hxc.cell (p := ⟨b, o + k, none⟩) (cell_lt hck3)).trans hck3
                  go_wp2_with fail
                  refine (equalB_yes _ _ _ _ _ ((Own.ints hob).ext hxc) (Own.ints hoc) rfl).mono ?_
                  rintro e wd ⟨rfl, nd, rfl⟩
                  go_wp2_with fail
                  refine (equalU_yes _ _ L L _ (((iL.ext hxb).ext hxc).ext (Ext.drewN _ _)) (((icut.ext hxb).ext hxc).ext (Ext.drewN _ _)) rfl).mono ?_
                  rintro e we ⟨rfl, ne, rfl⟩
                  go_wp2
                  go_roundw
                  case rel => exact ⟨k + 1, by omega, by go_num, (((hxr.trans hxa).trans hxb).trans hxc).trans (Ext.drewN _ _)⟩
                  case measure => simp [intOf]; omega
                · go_wp2_with fail
                  refine (cloneU _ (q.take (q.length)) _ (hirow.cut (q.length) (by omega)) (by simp; omega)).mono ?_
                  rintro e wa ⟨ua, rfl, hoa, hxa⟩
                  have hU : U64 (q.take (q.length)) := fun c hc => hqU c (List.mem_of_mem_take hc)
                  have hle : (q.take (q.length)).length = q.length := by rw [List.length_take]; omega
                  have icut := (hirow.cut (q.length) (by omega)).ext hxa
                  have hck2 := (hxa.cell (p := ⟨b, o + k, none⟩) (cell_lt hck)).trans hck
                  generalize q.take (q.length) = L at hoa hU hle icut
                  have iL := Own.ints hoa
                  obtain ⟨pl, nl, cl, rfl⟩ := own_shape hoa
                  have hnl : nl = q.length := by
                    obtain ⟨_, _, e1, _⟩ := id iL
                    simp only [Value.slice.injEq] at e1
                    omega
                  subst hnl
                  clear hoa
                  go_wp2_with fail
                  refine (row_any _ L _ hU (by omega) iL).mono ?_
                  rintro e wb ⟨ub, rfl, hob, hxb⟩
                  have hck3 := (hxb.cell (p := ⟨b, o + k, none⟩) (cell_lt hck2)).trans hck2
                  go_wp2_with fail
                  refine (refRow_any _ L _ hU (by omega) (iL.ext hxb)).mono ?_
                  rintro e wc ⟨uc, rfl, hoc, hxc⟩
                  have hck4 := (hxc.cell (p := ⟨b, o + k, none⟩) (cell_lt hck3)).trans hck3
                  go_wp2_with fail
                  refine (equalB_yes _ _ _ _ _ ((Own.ints hob).ext hxc) (Own.ints hoc) rfl).mono ?_
                  rintro e wd ⟨rfl, nd, rfl⟩
                  go_wp2_with fail
                  refine (equalU_yes _ _ L L _ (((iL.ext hxb).ext hxc).ext (Ext.drewN _ _)) (((icut.ext hxb).ext hxc).ext (Ext.drewN _ _)) rfl).mono ?_
                  rintro e we ⟨rfl, ne, rfl⟩
                  go_wp2
                  go_roundw
                  case rel => exact ⟨k + 1, by omega, by go_num, (((hxr.trans hxa).trans hxb).trans hxc).trans (Ext.drewN _ _)⟩
                  case measure => simp [intOf]; omega
            · go_wp2
              go_ret
              exact ⟨rfl, hx1.trans hxr⟩
end Go.Proofs.Ytdjkfjaffhboeaa
