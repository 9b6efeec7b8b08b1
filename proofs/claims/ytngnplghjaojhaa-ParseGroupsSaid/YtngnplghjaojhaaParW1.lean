/- What the two texts come to by which the layer wakes: reckoned. -/
import Derived.Test.YtngnplghjaojhaaParZ4
import Derived.Test.YtngnplghjaojhaaParY3
namespace Go.Proofs.Ytngnplghjaojhaa
set_option maxRecDepth 100000
set_option maxHeartbeats 2000000
set_option linter.unusedSimpArgs false
set_option linter.unusedVariables false

theorem ParsR.same {s : ByteArray} {r r' : Except Int Pat} (h : ParsR s r) (h' : ParsR s r') : r = r' := by
  unfold ParsR at h h'
  split at h
  · rename_i hz
    rw [if_pos hz] at h'
    obtain ⟨x, h1, rfl⟩ := h
    obtain ⟨y, h2, rfl⟩ := h'
    rw [h1.same h2]
  · rename_i hz
    rw [if_neg hz] at h'
    rw [h, h']
def wkS : ByteArray := ⟨#[40, 120, 41, 45, 91, 107, 110, 111, 119, 115, 93, 45, 62, 40, 121, 41, 44, 32, 40, 40, 120, 58, 112, 41, 44, 32, 40, 121, 46, 97, 103, 101, 61, 34, 55, 34, 41, 41, 32, 114, 101, 116, 117, 114, 110, 32, 121, 32, 108, 105, 109, 105, 116, 32, 51]⟩
def wkX : ByteArray := ⟨#[120]⟩
def wkY : ByteArray := ⟨#[121]⟩
def wkP : Pat := ⟨[⟨4, false, wkX, ⟨#[107, 110, 111, 119, 115]⟩, nilB, false, wkY⟩, ⟨2, false, wkX, ⟨#[112]⟩, nilB, false, nilB⟩, ⟨3, false, wkY, ⟨#[97, 103, 101]⟩, ⟨#[55]⟩, false, nilB⟩], [wkY], false, false, true, 3, 0, []⟩
def wkT : ByteArray := ⟨#[40, 120, 41, 32, 114, 101, 116, 117, 114, 110, 32, 121]⟩
theorem pars_of {s : ByteArray} (f : Nat) (x : Except Nat PS) (r : Except Int Pat) (h0 : (readF (bts s)).2.2 = 0) (h1 : itemsF (readF (bts s)).1 f 0 ⟨0, [], []⟩ = some x)
    (h2 : tokR (readF (bts s)).1 s.size (x.bind fun st => (toldP (readF (bts s)).1 st).bind fun (P, p) => if p < (readF (bts s)).1.length then .error p else .ok P) = r) : ParsR s r := by
  unfold ParsR
  rw [if_pos h0]
  exact ⟨_, ⟨x, ⟨f, h1⟩, rfl⟩, h2.symm⟩
theorem wk1 : ParsR wkS (.ok wkP) := pars_of 20 ((itemsF (readF (bts wkS)).1 20 0 ⟨0, [], []⟩).getD (.error 0)) _ (by kernel_rfl) (by kernel_rfl) (by kernel_rfl)
theorem wk2 : ParsR wkT (.error 11) := pars_of 20 ((itemsF (readF (bts wkT)).1 20 0 ⟨0, [], []⟩).getD (.error 0)) _ (by kernel_rfl) (by kernel_rfl) (by kernel_rfl)
theorem wk3 : wkP.okB = true := by kernel_rfl
theorem wk4 : varsS wkP.atoms = [wkX, wkY] := by kernel_rfl
end Go.Proofs.Ytngnplghjaojhaa

/- Does the layer do anything? It does. -/
namespace Go.Proofs.Ytngnplghjaojhaa
set_option maxRecDepth 100000
set_option maxHeartbeats 2000000
set_option linter.unusedSimpArgs false
open Go.RowKit Go.Shelf Go.Sort
attribute [local go_sem] Oper.semAt_some wide_fn wide_depth
set_option linter.unusedVariables false

theorem PatIn.at_ {B : Nat} {W : World} {v : Value} {P : Pat} (h : PatIn B W v P) : PatAt W v P := by
  obtain ⟨av, rv, hv, e, h1, h2, h3⟩ := h
  exact ⟨av, rv, hv, e, Sl.of_own h1, Sl.of_own h2, Sl.of_own h3⟩
theorem wkFits : wkP.Fits := ⟨fun a ha => by
  simp only [wkP, List.mem_cons, List.not_mem_nil, or_false] at ha
  rcases ha with rfl | rfl | rfl
  all_goals refine ⟨?_, ?_, ?_, ?_⟩ <;> decide, by decide⟩
set_option maxRecDepth 100000 in
set_option maxHeartbeats 2000000 in
theorem wakesP_any (w : World) : Calls Try.prog 9 #[] w fun e w' => e = .returned (.bool true) ∧ Ext w w' := by
  have HR1 := Lib.hid (parse_any wkS w (by decide))
  have HR2 := Lib.hid (fun w => parse_any wkT w (by decide))
  go_enter Try.func9, Try.ntmps9
  go_upto_region 1 with fail
  apply wp_region_lit
  refine wpList_plain rfl fun K1 hK1 => ?_
  go_simp
  refine HR1.out.mono ?_
  rintro e w1 ⟨r, hr, hx1, hrr⟩
  obtain rfl := hr.same wk1
  obtain ⟨v, rfl, av, rv, hv, rfl, ho, hor, hoh⟩ := hrr
  have HA1 := Lib.hid (show PatAt w1 (patV av rv hv wkP) wkP from ⟨_, _, _, rfl, Sl.of_own ho, Sl.of_own hor, Sl.of_own hoh⟩)
  obtain ⟨ava, avc, rfl⟩ := own_vw ho
  obtain ⟨rva, rvc, rfl⟩ := own_vw hor
  have HRT := Lib.hid (show Strs w1 (.slice rva 1 rvc) [wkY] from Sl.of_own hor)
  obtain ⟨hva, hvc, rfl⟩ := own_vw hoh
  have HX1 := Lib.hid hx1
  clear hr hx1 ho hor hoh HR1
  rw [show patV (.slice ava wkP.atoms.length avc) (.slice rva wkP.ret.length rvc) (.slice hva wkP.hint.length hvc) wkP = .agg #[.slice ava 3 avc, .slice rva 1 rvc, .bool false, .bool false, .bool true, .int .i64 3, .int .i64 0, .slice hva 0 hvc] from rfl] at HA1 ⊢
  rw [show ((wkS.size : Nat) : Int) = 55 from rfl]
  -- behind a call of Read: its results, the box of the pattern: w1 the world before, w2 the world behind, b the box's name, [.slice ava 3 avc, .slice rva 1 rvc, .bool false, .bool false, .bool true, .int .i64 3, .int .i64 0, .slice hva 0 hvc] its cells
  go_simp
  refine hK1 _ _ ?_
  clear hK1 K1
  refine wpList_plain rfl fun K1 hK1 => ?_
  go_simp
  refine hK1 _ _ ?_
  clear hK1 K1
  refine wpList_plain rfl fun K1 hK1 => ?_
  go_simp
  refine hK1 _ _ ?_
  clear hK1 K1
  refine wpList_plain rfl fun K1 hK1 => ?_
  go_simp
  refine hK1 _ _ ?_
  clear hK1 K1
  refine wpList_plain rfl fun K1 hK1 => ?_
  go_simp
  refine hK1 _ _ ?_
  clear hK1 K1
  refine wpList_plain rfl fun K1 hK1 => ?_
  go_simp
  refine hK1 _ _ ?_
  clear hK1 K1
  have hxb := Ext.alloc w1 (.cells #[.slice none 0 0, .slice none 0 0, .bool false, .bool false, .bool false, .int .i64 0, .int .i64 0, .slice none 0 0] 26)
  have hnb : RowAt (w1.alloc (.cells #[.slice none 0 0, .slice none 0 0, .bool false, .bool false, .bool false, .int .i64 0, .int .i64 0, .slice none 0 0] 26)) w1.heap.size 26 [.slice none 0 0, .slice none 0 0, .bool false, .bool false, .bool false, .int .i64 0, .int .i64 0, .slice none 0 0] := RowAt.new _ _ _
  refine plain_store rfl _ _ _ rfl w1.heap.size [.slice ava 3 avc, .slice rva 1 rvc, .bool false, .bool false, .bool true, .int .i64 3, .int .i64 0, .slice hva 0 hvc] rfl rfl hnb (by kernel_rfl) rfl (by simp [Value.oneCell']) ?_
  have hxs : Ext w1 ((w1.alloc (.cells #[.slice none 0 0, .slice none 0 0, .bool false, .bool false, .bool false, .int .i64 0, .int .i64 0, .slice none 0 0] 26)).setRow w1.heap.size ([.slice ava 3 avc, .slice rva 1 rvc, .bool false, .bool false, .bool true, .int .i64 3, .int .i64 0, .slice hva 0 hvc]).toArray) := below_setRow hxb (Nat.le_refl _) _
  have HNb := Lib.hid (hnb.setRow [.slice ava 3 avc, .slice rva 1 rvc, .bool false, .bool false, .bool true, .int .i64 3, .int .i64 0, .slice hva 0 hvc])
  have HEb := Lib.hid hxs
  clear hxb hnb hxs
  generalize (w1.alloc (.cells #[.slice none 0 0, .slice none 0 0, .bool false, .bool false, .bool false, .int .i64 0, .int .i64 0, .slice none 0 0] 26)).setRow w1.heap.size ([.slice ava 3 avc, .slice rva 1 rvc, .bool false, .bool false, .bool true, .int .i64 3, .int .i64 0, .slice hva 0 hvc]).toArray = w2 at *
  obtain ⟨b, hb⟩ : ∃ z, w1.heap.size = z := ⟨_, rfl⟩
  rw [hb] at HNb
  simp only [hb]
  clear hb
  go_simp
  refine wpList_plain rfl fun K1 hK1 => ?_
  go_simp
  refine hK1 _ _ ?_
  clear hK1 K1
  refine wpList_plain rfl fun K1 hK1 => ?_
  go_simp
  refine hK1 _ _ ?_
  clear hK1 K1
  apply wpList_nil
  have HX2 := Lib.hid (HX1.out.trans HEb.out)
  have HXY := Lib.hid HEb.out
  replace HA1 := Lib.hid (HA1.out.ext HEb.out)
  clear HX1 HEb
  go_upto_region 2 with fail
  apply wp_region_lit
  refine wpList_plain rfl fun K1 hK1 => ?_
  go_simp
  refine (HR2.out w2).mono ?_
  rintro e w3 ⟨r, hr, hx3, hrr⟩
  obtain rfl := hr.same wk2
  obtain rfl := hrr
  unfold noV
  have HX3 := Lib.hid (HX2.out.trans hx3)
  have HB3 := Lib.hid (HNb.out.ext hx3)
  have HXZ := Lib.hid (HXY.out.trans hx3)
  replace HA1 := Lib.hid (HA1.out.ext hx3)
  clear hr hx3 HX2 HNb HR2
  -- behind a call of Read: its results, the box of the pattern: w3 the world before, w4 the world behind, c the box's name, [.slice none 0 0, .slice none 0 0, .bool false, .bool false, .bool false, .int .i64 0, .int .i64 0, .slice none 0 0] its cells
  go_simp
  refine hK1 _ _ ?_
  clear hK1 K1
  refine wpList_plain rfl fun K1 hK1 => ?_
  go_simp
  refine hK1 _ _ ?_
  clear hK1 K1
  refine wpList_plain rfl fun K1 hK1 => ?_
  go_simp
  refine hK1 _ _ ?_
  clear hK1 K1
  refine wpList_plain rfl fun K1 hK1 => ?_
  go_simp
  refine hK1 _ _ ?_
  clear hK1 K1
  refine wpList_plain rfl fun K1 hK1 => ?_
  go_simp
  refine hK1 _ _ ?_
  clear hK1 K1
  refine wpList_plain rfl fun K1 hK1 => ?_
  go_simp
  refine hK1 _ _ ?_
  clear hK1 K1
  have hxb := Ext.alloc w3 (.cells #[.slice none 0 0, .slice none 0 0, .bool false, .bool false, .bool false, .int .i64 0, .int .i64 0, .slice none 0 0] 26)
  have hnb : RowAt (w3.alloc (.cells #[.slice none 0 0, .slice none 0 0, .bool false, .bool false, .bool false, .int .i64 0, .int .i64 0, .slice none 0 0] 26)) w3.heap.size 26 [.slice none 0 0, .slice none 0 0, .bool false, .bool false, .bool false, .int .i64 0, .int .i64 0, .slice none 0 0] := RowAt.new _ _ _
  refine plain_store rfl _ _ _ rfl w3.heap.size [.slice none 0 0, .slice none 0 0, .bool false, .bool false, .bool false, .int .i64 0, .int .i64 0, .slice none 0 0] rfl rfl hnb (by kernel_rfl) rfl (by simp [Value.oneCell']) ?_
  have hxs : Ext w3 ((w3.alloc (.cells #[.slice none 0 0, .slice none 0 0, .bool false, .bool false, .bool false, .int .i64 0, .int .i64 0, .slice none 0 0] 26)).setRow w3.heap.size ([.slice none 0 0, .slice none 0 0, .bool false, .bool false, .bool false, .int .i64 0, .int .i64 0, .slice none 0 0]).toArray) := below_setRow hxb (Nat.le_refl _) _
  have HNc := Lib.hid (hnb.setRow [.slice none 0 0, .slice none 0 0, .bool false, .bool false, .bool false, .int .i64 0, .int .i64 0, .slice none 0 0])
  have HEc := Lib.hid hxs
  clear hxb hnb hxs
  generalize (w3.alloc (.cells #[.slice none 0 0, .slice none 0 0, .bool false, .bool false, .bool false, .int .i64 0, .int .i64 0, .slice none 0 0] 26)).setRow w3.heap.size ([.slice none 0 0, .slice none 0 0, .bool false, .bool false, .bool false, .int .i64 0, .int .i64 0, .slice none 0 0]).toArray = w4 at *
  obtain ⟨c, hc⟩ : ∃ z, w3.heap.size = z := ⟨_, rfl⟩
  rw [hc] at HNc
  simp only [hc]
  clear hc
  go_simp
  refine wpList_plain rfl fun K1 hK1 => ?_
  go_simp
  refine hK1 _ _ ?_
  clear hK1 K1
  refine wpList_plain rfl fun K1 hK1 => ?_
  go_simp
  refine hK1 _ _ ?_
  clear hK1 K1
  apply wpList_nil
  have HX4 := Lib.hid (HX3.out.trans HEc.out)
  have HB4 := Lib.hid (HB3.out.ext HEc.out)
  have HXX := Lib.hid (HXZ.out.trans HEc.out)
  replace HA1 := Lib.hid (HA1.out.ext HEc.out)
  clear HX3 HEc HB3 HNc
  have HV := Lib.hid (fun w' (hx : Ext w4 w') => varsP_any _ wkP w' (HA1.out.ext hx) wkFits)
  have HC := Lib.hid (fun w' (hx : Ext w4 w') => checkP_any _ wkP w' (HA1.out.ext hx) wkFits)
  replace HRT := Lib.hid (Strs.ext HRT.out HXX.out)
  obtain ⟨d0, d1, d2, d3, d4, d5, d6, d7⟩ := row8_facts HB4.out
  have hve : varsE wkP = [wkX, wkY] := by unfold varsE; rw [if_pos wk3, wk4]
  rw [hve] at HV
  have hce : checkE wkP = 0 := by unfold checkE; rw [if_pos wk3]
  rw [hce] at HC
  clear hve hce
  go_wp2_with fail
  refine (HV.out w4 (Ext.refl _)).mono ?_
  rintro e w5 ⟨u, rfl, ho, hx5⟩
  obtain ⟨ua, uc, rfl⟩ := own_vw ho
  have hu := Strs.ext (show Strs w5 (.slice ua 2 uc) [wkX, wkY] from Sl.of_own ho) (Ext.alloc w5 (.cells #[.string wkX, .string wkY] 9))
  have hl : Strs (w5.alloc (.cells #[.string wkX, .string wkY] 9)) (.slice (some ⟨w5.heap.size, 0, none⟩) 2 2) [wkX, wkY] := Sl.new w5 #[.string wkX, .string wkY] 9 2 2 (Nat.le_refl _) (by unfold maxLen; omega)
  have HEQ := Lib.hid (eqStrs_any _ _ _ _ _ hu hl)
  have hxq := hx5.trans (Ext.alloc w5 (.cells #[.string wkX, .string wkY] 9))
  rw [decide_eq_true rfl] at HEQ
  have HX5 := Lib.hid hxq
  have HB5 := Lib.hid (HB4.out.ext hxq)
  clear ho hx5 hu hl hxq d0 d1 d2 d3 d4 d5 d6 d7 HV
  unfold wkX wkY at HEQ HB5 HX5
  go_wp2_with fail
  refine HEQ.out.mono ?_
  rintro e w6 ⟨rfl, hx6⟩
  have HX6 := Lib.hid (HX5.out.trans hx6)
  have HB6 := Lib.hid (HB5.out.ext hx6)
  clear HEQ hx6 HX5 HB5
  obtain ⟨d0, d1, d2, d3, d4, d5, d6, d7⟩ := row8_facts HB6.out
  have hu := Strs.ext (Strs.ext HRT.out HX6.out) (Ext.alloc w6 (.cells #[.string wkY] 9))
  have hl : Strs (w6.alloc (.cells #[.string wkY] 9)) (.slice (some ⟨w6.heap.size, 0, none⟩) 1 1) [wkY] := Sl.new w6 #[.string wkY] 9 1 1 (Nat.le_refl _) (by unfold maxLen; omega)
  have HEQ := Lib.hid (eqStrs_any _ _ _ _ _ hu hl)
  rw [decide_eq_true rfl] at HEQ
  have HX7 := Lib.hid (HX6.out.trans (Ext.alloc w6 (.cells #[.string wkY] 9)))
  have HB7 := Lib.hid (HB6.out.ext (Ext.alloc w6 (.cells #[.string wkY] 9)))
  clear hu hl
  unfold wkY at HEQ HB7 HX7
  go_wp2_with fail
  refine HEQ.out.mono ?_
  rintro e w8 ⟨rfl, hx8⟩
  have HX8 := Lib.hid (HX7.out.trans hx8)
  have HB8 := Lib.hid (HB7.out.ext hx8)
  clear HEQ hx8 HX7 HB7 d0 d1 d2 d3 d4 d5 d6 d7 HX6 HB6
  obtain ⟨d0, d1, d2, d3, d4, d5, d6, d7⟩ := row8_facts HB8.out
  go_wp2_with fail
  refine (HC.out w8 HX8.out).mono ?_
  rintro e w9 ⟨rfl, hx9⟩
  have HX9 := Lib.hid (HX4.out.trans (HX8.out.trans hx9))
  clear hx9 d0 d1 d2 d3 d4 d5 d6 d7
  go_wp2_with fail
  go_ret
  exact ⟨rfl, HX9.out⟩
end Go.Proofs.Ytngnplghjaojhaa
