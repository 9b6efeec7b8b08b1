/- CodecOne: the walk. -/
import Derived.Test.YtdjkfjaffhboeaaCodecLSums
import Derived.Deep.RegionHeld3
import Derived.Deep.DeepCutAuto
namespace Go.Proofs.Ytdjkfjaffhboeaa
open Go.RowKit

/-- From a place on, what was read stands there. -/
theorem rdAt_ok {α : Type} {k : Int} {l : List Int} {f : List Int → Rd α} {x : α} {u : Nat} (h : rdAt k l f = .ok x u) : ∃ n : Nat, k = n ∧ n ≤ l.length ∧ f (l.drop n) = .ok x u := by
  unfold rdAt at h
  split at h
  · cases h
  · exact ⟨k.toNat, by omega, by omega, h⟩
theorem Ints.between {w : World} {kd : IntKind} {a : Option Addr} {len cap : Nat} {l : List Int} (h : Ints w kd (.slice a len cap) l) (k m : Nat) (hk : k ≤ m) (hm : m ≤ l.length) :
    Ints w kd (.slice (if cap = k then a else a.map (fun x => x.add k)) (m - k) (cap - k)) ((l.drop k).take (m - k)) := by
  have h' := h
  obtain ⟨a', cap', e, h1, h2, h3⟩ := h'
  simp only [Value.slice.injEq] at e
  obtain ⟨rfl, rfl, rfl⟩ := e
  rcases Nat.eq_zero_or_pos (m - k) with h0 | h0
  · rw [h0, List.take_zero]
    exact ints_zero _ _ _ (by omega)
  · rw [if_neg (by omega)]
    exact h.sub k (m - k) (cap - k) h0 (by omega) (by omega) (by omega)

/-- A cut of a slice, its address not looked into. -/
def cutV (a : Option Addr) (cap l h : Nat) : Value := .slice (if cap = l then a else a.map (fun x => x.add l)) (h - l) (cap - l)
theorem run_cutB (a : Option Addr) (len cap l h : Nat) (i j : Int) (hi : i = l) (hj : j = h) (h1 : l ≤ h) (h2 : h ≤ cap) (w : World) :
    (Instr.slice 24 (.slice a len cap) (some (.int .i64 i)) (some (.int .i64 j)) none).run Try.prog w = .ok (cutV a cap l h) w := by
  subst hi hj
  rw [run_slice_lh w 24 a len cap (by kernel_rfl) .i64 .i64 (l : Int) (h : Int) (by omega) (by omega) (by omega)]
  obtain ⟨i, hi, hz, hsz, hby⟩ := elB.info
  have he : Try.prog.elem 24 = 5 := by kernel_rfl
  rw [he]
  simp [sizeOf, typeInfo, hi, hsz, sliced, cutV]

theorem rdn_no0 (l : List Int) (i : Nat) (acc c : Int) (h : rdn l i acc = .no c) : c ≠ 0 := by
  induction l generalizing i acc with
  | nil => unfold rdn at h; split at h <;> cases h <;> decide
  | cons x l ih =>
    unfold rdn at h
    split at h
    · cases h; decide
    · split at h
      · exact ih _ _ h
      · split at h
        · cases h
        · cases h; decide
theorem rdNum_no {k c : Int} {l : List Int} (h : rdAt k l rdNum = .no c) : ¬ c = 0 := by
  unfold rdAt at h
  split at h
  · cases h; decide
  · exact rdn_no0 _ _ _ _ h
theorem rdText_no {k c : Int} {l : List Int} (h : rdAt k l rdText = .no c) : ¬ c = 0 := by
  unfold rdAt at h
  split at h
  · cases h; decide
  · unfold rdText at h
    generalize hnn : rdNum (l.drop k.toNat) = r at h
    cases r with
    | no e => cases h; exact rdn_no0 _ _ _ _ hnn
    | ok n w =>
      simp only [] at h
      split at h
      · split at h <;> cases h; decide
      · cases h; decide
theorem rdRows_no0 (m : Nat) (l : List Int) (u : Nat) (acc : List Int) (c : Int) (h : rdRows m l u acc = .no c) : ¬ c = 0 := by
  induction m generalizing l u acc with
  | zero => cases h
  | succ m ih =>
    rw [rdRows_succ] at h
    generalize hnn : rdNum l = r at h
    cases r with
    | no e => cases h; exact rdn_no0 _ _ _ _ hnn
    | ok n w => exact ih _ _ _ h
theorem rdRow_no {k c : Int} {l : List Int} (h : rdAt k l rdRow = .no c) : ¬ c = 0 := by
  unfold rdAt at h
  split at h
  · cases h; decide
  · unfold rdRow at h
    generalize hnn : rdNum (l.drop k.toNat) = r at h
    cases r with
    | no e => cases h; exact rdn_no0 _ _ _ _ hnn
    | ok n w =>
      simp only [] at h
      split at h
      · exact rdRows_no0 _ _ _ _ _ h
      · cases h; decide
theorem rdFrame_no {k c : Int} {l : List Int} (h : rdAt k l rdFrame = .no c) : ¬ c = 0 := by
  unfold rdAt at h
  split at h
  · cases h; decide
  · unfold rdFrame at h
    generalize hnn : rdNum (l.drop k.toNat) = r at h
    cases r with
    | no e => cases h; exact rdn_no0 _ _ _ _ hnn
    | ok n w =>
      simp only [] at h
      split at h
      · split at h
        · split at h <;> cases h; decide
        · cases h; decide
      · cases h; decide

set_option maxRecDepth 100000 in
set_option maxHeartbeats 2000000 in
theorem one_walk (v : Value) (l : List Int) (k0 : Int) (w : World) (hv : Ints w .u8 v l) (hl : Byt l) (hk0 : -9223372036854775808 ≤ k0 ∧ k0 ≤ 9223372036854775807) :
    Calls Try.prog 7 #[v, .int .i64 k0] w fun e w' => e = .returned (.bool true) ∧ Below w.heap.size w w' := by
  obtain ⟨hk1, hk2⟩ := hk0
  go_enter Try.func7, Try.ntmps7
  go_wp2_with fail
  refine (wakes_any _).mono ?_
  rintro e w1 ⟨rfl, hx1⟩
  go_wp2_with fail
  refine (few_any _ l _ (hv.ext hx1)).mono ?_
  rintro e w2 ⟨u, rfl, ho2, hx2⟩
  have hb : Byt (l.take 300) := hl.take 300
  have hbl : (l.take 300).length ≤ 300 := List.length_take_le _ _
  have hx12 := hx1.trans hx2
  have hv2 := hv.ext hx12
  generalize hbb : l.take 300 = b at ho2 hb hbl
  have Hbb := Lib.hid hbb
  clear hx1 hx2 hbb
  have hi2 := Own.ints ho2
  have hi2' := hi2
  obtain ⟨a, cap, rfl, hcap, hmax, _⟩ := hi2'.open_
  clear hi2'
  dsimp only
  iterate 8 go_step
  go_cut [6] (fun _ wx => Ext w2 wx)
  case first =>
    go_wp2_with fail
    generalize hr1 : rdAt k0 b rdNum = r1
    refine (readNumber_any _ b k0 _ hb hi2 (by omega)).mono ?_
    rintro e w3 ⟨hx3, hm3⟩
    rw [hr1] at hm3
    cases r1 with
    | ok x used =>
      obtain ⟨u3, rfl, hu3⟩ := hm3
      obtain rfl := vnum_shape hu3
      obtain ⟨n, rfl, hn, hf⟩ := rdAt_ok hr1
      have hin := rdNum_inv (hb.drop n) hf
      have hle : used ≤ b.length - n := by have := hin.2; first | (rw [List.length_drop] at this; omega) | (have := this.1; rw [List.length_drop] at this; omega)
      have hcut := hi2.between n (n + used) (by omega) (by omega)
      rw [Nat.add_sub_cancel_left, hin.1] at hcut
      have hcut : Ints w2 .u8 (cutV a cap n (n + used)) (num 9 x) := by unfold cutV; rw [Nat.add_sub_cancel_left]; exact hcut
      have Hf := Lib.hid hf
      have Hin := Lib.hid hin
      have hub : n + used ≤ b.length := by omega
      have hsl := run_cutB a b.length cap n (n + used) n (n + used) rfl (by omega) (by omega) (by omega)
      clear hr1 hf hin
      have hok := rdNum_ok (hb.drop n) Hf.out
      obtain ⟨hxb0, hxb1⟩ := hok.2.2
      clear hok
      go_wp2_with fail
      go_region_held3 (fun _ => True) (trivial) (first
        | (go_at_call 9; refine (number_any x _ hxb0 hxb1).mono ?_; rintro e w4 ⟨u4, rfl, ho4, hx4⟩)
        | (go_at_call 10; refine (equalB_yes _ _ _ _ _ (Own.ints ho4) (((Ints.ext hcut hx3).ext (Ext.drewN _ 1)).ext hx4) rfl).mono ?_; rintro e w5 ⟨rfl, n5, rfl⟩))
      go_wp2_with fail
      go_meet
      exact ((hx3.trans (Ext.drewN _ 1)).trans hx4).trans (Ext.drewN _ _)
    | no c =>
      obtain rfl := hm3
      have hc : (c == 0) = false := by simp; exact rdNum_no hr1
      go_wp2_with fail
      go_quiet (fail)
      go_wp2_with fail
      go_meet
      exact hx3.trans (Ext.drewN _ _)
  case rest =>
    have hw := hcut
    have hiw := hi2.ext hw
    iterate 2 go_step
    go_cut [9] (fun _ wx => Ext w2 wx)
    case first =>
      go_wp2_with fail
      generalize hr1 : rdAt k0 b rdText = r1
      refine (readText_any _ b k0 _ hb hiw (by omega)).mono ?_
      rintro e w3 ⟨hx3', hm3⟩
      have hx3 := hw.trans hx3'
      rw [hr1] at hm3
      cases r1 with
      | ok x used =>
        obtain ⟨u3, rfl, s3, rfl, hsx⟩ := hm3
        obtain ⟨n, rfl, hn, hf⟩ := rdAt_ok hr1
        have hin := rdText_inv (hb.drop n) hf
        have hle : used ≤ b.length - n := by have := hin.2; first | (rw [List.length_drop] at this; omega) | (have := this.1; rw [List.length_drop] at this; omega)
        have hcut := hi2.between n (n + used) (by omega) (by omega)
        rw [Nat.add_sub_cancel_left, hin.1] at hcut
        have hcut : Ints w2 .u8 (cutV a cap n (n + used)) (textB x) := by unfold cutV; rw [Nat.add_sub_cancel_left]; exact hcut
        have Hf := Lib.hid hf
        have Hin := Lib.hid hin
        have hub : n + used ≤ b.length := by omega
        have hsl := run_cutB a b.length cap n (n + used) n (n + used) rfl (by omega) (by omega) (by omega)
        clear hr1 hf hin
        have hsz : s3.size ≤ 4000 := by have := Hin.out.2.2.1; rwa [← hsx, sb_len] at this
        have Hsx := Lib.hid hsx
        clear hsx
        go_wp2_with fail
        refine (text_ok s3 _ hsz).mono ?_
        rintro e w4 ⟨u4, rfl, ho4, hx4⟩
        go_wp2_with fail
        refine (equalB_yes _ _ _ _ _ (Own.ints ho4) ((Ints.ext hcut hx3).ext hx4) (by rw [Hsx.out])).mono ?_
        rintro e w5 ⟨rfl, n5, rfl⟩
        go_wp2_with fail
        go_meet
        exact (hx3.trans hx4).trans (Ext.drewN _ _)
      | no c =>
        obtain rfl := hm3
        have hc : (c == 0) = false := by simp; exact rdText_no hr1
        go_wp2_with fail
        go_meet
        exact hx3
    case rest =>
      clear hw hiw
      have hw := hcut
      have hiw := hi2.ext hw
      iterate 2 go_step
      go_cut [14] (fun _ wx => Ext w2 wx)
      case first =>
        go_wp2_with fail
        generalize hr1 : rdAt k0 b rdRow = r1
        refine (readRow_any _ b k0 _ hb hiw (by omega)).mono ?_
        rintro e w3 ⟨hx3', hm3⟩
        have hx3 := hw.trans hx3'
        rw [hr1] at hm3
        cases r1 with
        | ok x used =>
          obtain ⟨u3, rfl, hu3⟩ := hm3
          obtain ⟨n, rfl, hn, hf⟩ := rdAt_ok hr1
          have hin := rdRow_inv (hb.drop n) hf
          have hle : used ≤ b.length - n := by have := hin.2; first | (rw [List.length_drop] at this; omega) | (have := this.1; rw [List.length_drop] at this; omega)
          have hcut := hi2.between n (n + used) (by omega) (by omega)
          rw [Nat.add_sub_cancel_left, hin.1] at hcut
          have hcut : Ints w2 .u8 (cutV a cap n (n + used)) (rowB x) := by unfold cutV; rw [Nat.add_sub_cancel_left]; exact hcut
          have Hf := Lib.hid hf
          have Hin := Lib.hid hin
          have hub : n + used ≤ b.length := by omega
          have hsl := run_cutB a b.length cap n (n + used) n (n + used) rfl (by omega) (by omega) (by omega)
          clear hr1 hf hin
          have hU := Hin.out.2.2.1
          have hlx := Hin.out.2.2.2
          rw [List.length_drop] at hlx
          have hi3 : Ints w3 .u64 u3 x := Own.ints hu3
          go_wp2_with fail
          go_region_held3 (fun _ => True) (trivial) (first
            | (go_at_call 15; refine (row_any u3 x _ hU (by omega) (hi3.ext (Ext.drewN _ 1))).mono ?_; rintro e w4 ⟨u4, rfl, ho4, hx4⟩)
            | (go_at_call 10; refine (equalB_yes _ _ _ _ _ (Own.ints ho4) (((Ints.ext hcut hx3).ext (Ext.drewN _ 1)).ext hx4) rfl).mono ?_; rintro e w5 ⟨rfl, n5, rfl⟩))
          go_wp2_with fail
          go_meet
          exact ((hx3.trans (Ext.drewN _ 1)).trans hx4).trans (Ext.drewN _ _)
        | no c =>
          obtain rfl := hm3
          have hc : (c == 0) = false := by simp; exact rdRow_no hr1
          go_wp2_with fail
          go_quiet (fail)
          go_wp2_with fail
          go_meet
          exact hx3.trans (Ext.drewN _ _)
      case rest =>
        clear hw hiw
        have hw := hcut
        have hiw := hi2.ext hw
        iterate 2 go_step
        go_cut [17] (fun _ wx => Ext w2 wx)
        case first =>
          go_wp2_with fail
          generalize hr1 : rdAt k0 b rdFrame = r1
          refine (readFrame_any _ b k0 _ hb hiw (by omega)).mono ?_
          rintro e w3 ⟨hx3', hm3⟩
          have hx3 := hw.trans hx3'
          rw [hr1] at hm3
          cases r1 with
          | ok x used =>
            obtain ⟨u3, rfl, hu3⟩ := hm3
            obtain ⟨n, rfl, hn, hf⟩ := rdAt_ok hr1
            have hin := rdFrame_inv (hb.drop n) hf
            have hle : used ≤ b.length - n := by have := hin.2; first | (rw [List.length_drop] at this; omega) | (have := this.1; rw [List.length_drop] at this; omega)
            have hcut := hi2.between n (n + used) (by omega) (by omega)
            rw [Nat.add_sub_cancel_left, hin.1] at hcut
            have hcut : Ints w2 .u8 (cutV a cap n (n + used)) (frameB x) := by unfold cutV; rw [Nat.add_sub_cancel_left]; exact hcut
            have Hf := Lib.hid hf
            have Hin := Lib.hid hin
            have hub : n + used ≤ b.length := by omega
            have hsl := run_cutB a b.length cap n (n + used) n (n + used) rfl (by omega) (by omega) (by omega)
            clear hr1 hf hin
            have hi3 : Ints w3 .u8 u3 x := Own.ints hu3
            go_wp2_with fail
            refine (frame_any u3 x _ Hin.out.2.2.2 hi3 Hin.out.2.2.1).mono ?_
            rintro e w4 ⟨u4, rfl, ho4, hx4⟩
            go_wp2_with fail
            refine (equalB_yes _ _ _ _ _ (Own.ints ho4) ((Ints.ext hcut hx3).ext hx4) rfl).mono ?_
            rintro e w5 ⟨rfl, n5, rfl⟩
            go_wp2_with fail
            go_meet
            exact (hx3.trans hx4).trans (Ext.drewN _ _)
          | no c =>
            obtain rfl := hm3
            have hc : (c == 0) = false := by simp; exact rdFrame_no hr1
            go_wp2_with fail
            go_meet
            exact hx3
        case rest =>
          clear hw hiw
          have hw := hcut
          have hiw := hi2.ext hw
          go_wp2_with fail
          refine (few_any _ l _ (hv2.ext hw)).mono ?_
          rintro e w4 ⟨u4, rfl, ho4, hx4⟩
          rw [Hbb.out] at ho4
          go_wp2_with fail
          refine (equalB_yes _ _ _ _ _ (hiw.ext hx4) (Own.ints ho4) rfl).mono ?_
          rintro e w5 ⟨rfl, n5, rfl⟩
          go_wp2_with fail
          go_ret
          exact ⟨rfl, ((hx12.trans hw).trans hx4).trans (Ext.drewN _ _)⟩
end Go.Proofs.Ytdjkfjaffhboeaa
