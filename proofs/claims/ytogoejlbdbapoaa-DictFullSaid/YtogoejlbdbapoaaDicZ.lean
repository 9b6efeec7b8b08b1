/- The reference's bytes. -/
import Derived.Test.YtogoejlbdbapoaaDicX
namespace Go.Proofs.Ytogoejlbdbapoaa
set_option maxRecDepth 100000
set_option maxHeartbeats 2000000
set_option linter.unusedSimpArgs false
open Go.RowKit Go.Shelf Go.Sort
attribute [local go_sem] Oper.semAt_some wide_fn wide_depth
set_option linter.unusedVariables false

theorem own_app {w' : World} {B : Nat} {v : Value} {L M : List Int} (h : w'.ownsRow B 5 1 v (L.length + M.length) (L.map (Value.int .u8) ++ M.map (Value.int .u8))) : Own w' B 5 .u8 v (L ++ M) := by
  unfold Own
  rw [List.length_append, List.map_append]
  exact h
set_option maxHeartbeats 2000000 in
theorem refBytes_any (ns : Nat → Value) (N : Nms) (w : World) (hN : NamV w ns N) (hsm : SmallN N) :
    Calls Try.prog 26 #[nv ns] w fun e w' => ∃ u, e = .returned u ∧ Own w' w.heap.size 5 .u8 u (bytesTo N 5) ∧ Ext w w' := by
  have hd0 : RowAt (w.alloc (.cells (ncells ns).toArray 37)) w.heap.size 37 (ncells ns) := RowAt.new w _ (ncells ns)
  have hdc : ∀ ns : Nat → Value, (ncells ns).toArray = #[ns 0, ns 1, ns 2, ns 3, ns 4] := fun _ => rfl
  have hx1 : Ext w (w.alloc (.cells (ncells ns).toArray 37)) := Ext.alloc _ _
  have HIX := Lib.hid (nix_any ns)
  unfold nv
  simp only [hdc] at hd0 hx1 ⊢
  have HN := Lib.hid hN
  have HD0 := Lib.hid hd0
  have HX1 := Lib.hid hx1
  have HSM := Lib.hid hsm
  clear hd0 hx1 hdc hN hsm
  go_enter Try.func26, Try.ntmps26
  go_upto_region 2 with fail
  replace HD0 := HD0.out
  replace HX1 := HX1.out
  generalize w.alloc (.cells #[ns 0, ns 1, ns 2, ns 3, ns 4] 37) = w1 at *
  obtain ⟨c0, c1, c2, c3, c4⟩ := HD0.facts5
  go_wp2_with fail
  clear c0 c1 c2 c3 c4 HD0
  go_loopg [3, 9] 5 (fun g o i wr => ∃ (k : Nat), k ≤ 5 ∧ g = 5 - k ∧ i = .int .i64 k ∧ Ext w wr ∧ Own wr w.heap.size 5 .u8 o (bytesTo N k))
  case atStart => exact ⟨0, Nat.zero_le _, rfl, rfl, HX1, World.ownsRow_nil _ _ _ _⟩
  case round =>
    obtain ⟨k, hk, hg, rfl, hxr, hown⟩ := hrel
    have Hg := Lib.hid hg
    clear hg
    obtain ⟨ao, co, rfl⟩ := own_sl hown
    by_cases hlt : k < 5
    · have hix := HIX.out k hlt
      have h1 := HN.out k hlt
      obtain ⟨hl128, hs40⟩ := HSM.out k hlt
      have hbl := bytesTo_len HSM.out k (by omega)
      obtain ⟨a, c, e1, _, _⟩ := Sl.shape h1
      rw [e1] at hix h1
      have hnl := num_len 9 ((N k).length : Int)
      have HS40 := Lib.hid hs40
      have hwn : IntKind.u64.wrap ((N k).length : Int) = ((N k).length : Int) := IntWalk.u64_in _ (by omega)
      have hki : (k : Int) < 5 := by omega
      have HBK : Hid (bytesTo N (k + 1) = bytesTo N k ++ (num 9 ((N k).length : Int) ++ (N k).flatMap (fun s => textB (sb s)))) := Lib.hid rfl
      generalize bytesTo N k = Lk at *
      have HT := Lib.hid h1
      clear h1 e1 hs40
      go_wp2_with fail
      refine (refNumber_any ((N k).length : Int) _ (by omega) (by omega)).mono ?_
      rintro e wn ⟨un, rfl, hun, hxn⟩
      have hsl := Sl.of_own hun
      obtain ⟨an, cn, rfl⟩ := own_sl hun
      have hown2 := own_ext hown hxn
      have hsz := hxr.size
      have hsz2 := hxn.size
      clear hun hown
      go_wp2_with (at_builtin; refine wpList_append_sl _ rfl _ _ 51 rfl elB rfl hown2 rfl hsl (by simp) (ints_one _ _) (by omega) (by unfold maxLen; omega) (by omega) ?_)
      intro v5 w5 hown5 hb5 hg5 _
      have ho5 := own_app hown5
      have hx5 : Ext w w5 := Below.trans (hxr.trans hxn) hb5
      have HO5 := Lib.hid ho5
      obtain ⟨a5, c5, rfl⟩ := own_sl hown5
      have HX5 := Lib.hid hx5
      have hlen5 : (Lk ++ num 9 ((N k).length : Int)).length = Lk.length + (num 9 ((N k).length : Int)).length := List.length_append
      clear hown5 hb5 hg5 hown2 hsl ho5 hx5 hxn hxr HX1
      go_wp2_with fail
      go_loopg [3, 20] (N k).length (fun g o i wr => ∃ (j : Nat), j ≤ (N k).length ∧ g = (N k).length - j ∧ i = .int .i64 j ∧ Ext w wr ∧ Own wr w.heap.size 5 .u8 o (Lk ++ (num 9 ((N k).length : Int) ++ ((N k).take j).flatMap (fun s => textB (sb s)))))
      case atStart => exact ⟨0, Nat.zero_le _, rfl, rfl, HX5.out, by simpa using HO5.out⟩
      case round =>
        obtain ⟨j, hj, hg2, rfl, hxj, hoj⟩ := hrel
        have Hg2 := Lib.hid hg2
        clear hg2 HO5 HX5
        obtain ⟨aj, cj, rfl⟩ := own_sl hoj
        by_cases hlj : j < (N k).length
        · obtain ⟨bl, ol, rfl, c0⟩ := (HT.out.ext hxj).at_ hlj
          have hs := HS40.out _ (List.getElem_mem hlj)
          have htl := texts_len (T := (N k).take j) (fun s h => HS40.out s (List.mem_of_mem_take h))
          have hfs : Hid (((N k).take (j + 1)).flatMap (fun s => textB (sb s)) = ((N k).take j).flatMap (fun s => textB (sb s)) ++ textB (sb (N k)[j])) := Lib.hid (by rw [take_snoc _ j hlj, List.flatMap_append]; simp)
          have hll : (Lk ++ (num 9 ((N k).length : Int) ++ ((N k).take j).flatMap (fun s => textB (sb s)))).length ≤ 100000 := by
            have : ((N k).take j).length ≤ j := List.length_take_le _ _
            simp only [List.length_append]; omega
          generalize hacc : Lk ++ (num 9 ((N k).length : Int) ++ ((N k).take j).flatMap (fun s => textB (sb s))) = acc at *
          have HACC := Lib.hid hacc
          have htb := textB_len hs
          generalize (N k)[j] = s at *
          have HTX := Lib.hid (fun w' => refText_any s w' (by omega))
          clear hacc htl
          go_wp2_with fail
          refine (HTX.out _).mono ?_
          rintro e wt ⟨ut, rfl, hut, hxt⟩
          have hsl := Sl.of_own hut
          obtain ⟨at_, ct, rfl⟩ := own_sl hut
          have hown2 := own_ext hoj hxt
          have hsz3 := hxj.size
          have hsz4 := hxt.size
          clear hut hoj
          go_wp2_with (at_builtin; refine wpList_append_sl _ rfl _ _ 51 rfl elB rfl hown2 rfl hsl (by simp) (ints_one _ _) (by omega) (by unfold maxLen; omega) (by omega) ?_)
          intro v7 w7 hown7 hb7 hg7 _
          have ho7 := own_app hown7
          have hx7 : Ext w w7 := Below.trans (hxj.trans hxt) hb7
          obtain ⟨a7, c7, rfl⟩ := own_sl hown7
          have HO7 : Hid (Own w7 w.heap.size 5 .u8 (.slice a7 (acc.length + (textB (sb s)).length) c7) (Lk ++ (num 9 ((N k).length : Int) ++ ((N k).take (j + 1)).flatMap (fun s => textB (sb s))))) := Lib.hid (by
            rw [hfs.out, ← List.append_assoc (num 9 ((N k).length : Int)), ← List.append_assoc Lk, HACC.out]
            exact ho7)
          clear hown7 hb7 hg7 hown2 hsl ho7
          go_wp2_with fail
          go_roundg ((N k).length - (j + 1))
          case measure => have := Hg2.out; omega
          case rel => exact ⟨j + 1, by omega, rfl, by go_num, hx7, HO7.out⟩
        · have hT' : (N k).take j = N k := List.take_of_length_le (by omega)
          have hto : ∀ v, Own wr w.heap.size 5 .u8 v (Lk ++ (num 9 ((N k).length : Int) ++ ((N k).take j).flatMap (fun s => textB (sb s)))) → Own wr w.heap.size 5 .u8 v (bytesTo N (k + 1)) := fun v h => by
            rw [hT', ← HBK.out] at h; exact h
          have hlk := Lib.hid (hto _ hoj)
          clear hoj
          go_wp2_with fail
          go_roundg (5 - (k + 1))
          case measure => have := Hg.out; omega
          case rel => exact ⟨k + 1, by omega, rfl, by go_num, hxj, hlk.out⟩
    · obtain rfl : k = 5 := by omega
      have HO := Lib.hid hown
      clear hown
      go_wp2_with fail
      go_ret
      exact ⟨_, rfl, HO.out, hxr⟩
end Go.Proofs.Ytogoejlbdbapoaa
