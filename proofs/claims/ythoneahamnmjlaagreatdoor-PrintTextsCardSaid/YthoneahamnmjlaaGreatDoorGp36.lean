/- A pattern that an argument holds, opened: with the sizes of the texts in its rows. -/
import Derived.Test.YthoneahamnmjlaaGreatDoorGp17
import Derived.Test.YthoneahamnmjlaaGreatDoorGp32
import Derived.Test.YthoneahamnmjlaaGreatDoorGp22
import Derived.Test.YthoneahamnmjlaaGreatDoorGp33
import Derived.Test.YthoneahamnmjlaaGreatDoorGp30
import Derived.Test.YthoneahamnmjlaaGreatDoorGp25
import Derived.Test.YthoneahamnmjlaaGreatDoorGp35
import Derived.Test.YthoneahamnmjlaaGreatDoorGp26
import Derived.Test.YthoneahamnmjlaaGreatDoorGp23
import Derived.Test.YthoneahamnmjlaaGreatDoorGp02
import Derived.Laws.BytesArg
namespace Go.Proofs.YthoneahamnmjlaaGreatDoor
set_option maxRecDepth 100000
set_option maxHeartbeats 2000000
set_option linter.unusedVariables false
set_option linter.unusedSimpArgs false
open Go.ChangeShapes Go.WideShapes Go.ChangeAt Go.RowKit Go.Deep

theorem open_texts2 {H : Type} {enc : TypeId × Value → H} {w : World} {base : Nat} {spare : Nat → Bool} {held : Bool} {m : Nat} {v : Value} {z : DataW H × List MemPlace}
    (h : DataW.trod enc Tryz.prog w base spare held m 23 [v] = some z) : ∃ l, Strs w v l ∧ ∀ s ∈ l, s.size ≤ 9223372036854775807 := by
  obtain ⟨a, len, cap, rfl⟩ := slice_shape_of Tryz.underlying23 h
  exact open_Strs (d := z.1) (p := z.2) Tryz.underlying23 Tryz.underlying9 (by kernel_rfl) ⟨m, by simpa [Value.cells] using h⟩
theorem open_pattern2 {H : Type} {enc : TypeId × Value → H} {w : World} {M : Reach} {base base' : Nat} {spare : Nat → Bool} {held : Bool} {v : Value} {d : DataW H} {p : List MemPlace}
    (ho : Value.okWide Tryz.prog w M base' 25 v) (h : DataW.Trod enc Tryz.prog w base spare held 25 v d p) (hl : Light Tryz.prog 25 d) :
    ∃ P : Pat, PatAt w v P ∧ P.Near ∧ (∀ s ∈ P.ret, s.size ≤ 9223372036854775807) ∧ ∀ s ∈ P.hint, s.size ≤ 9223372036854775807 := by
  obtain ⟨cs, rfl, hsz⟩ := okWide_struct Tryz.underlying25 ho
  have hC : Tryz.prog.cellsOf 25 = 8 := by kernel_rfl
  obtain ⟨c0, c1, c2, c3, c4, c5, c6, c7, rfl⟩ := eight (hsz.trans hC)
  obtain ⟨fuel, hf0⟩ := h
  obtain ⟨xs, n, _, hz, _, hlen, hf⟩ := DataW.trod_struct Tryz.underlying25 hf0
  obtain ⟨rfl, _⟩ := Prod.mk.inj hz
  have hlen' : xs.length = 8 := hlen
  obtain ⟨x0, x1, x2, x3, x4, x5, x6, x7, rfl⟩ : ∃ x0 x1 x2 x3 x4 x5 x6 x7, xs = [x0, x1, x2, x3, x4, x5, x6, x7] := by
    match xs, hlen' with
    | [x0, x1, x2, x3, x4, x5, x6, x7], _ => exact ⟨x0, x1, x2, x3, x4, x5, x6, x7, rfl⟩
  have h0 : DataW.trod enc Tryz.prog w base spare held n 22 [c0] = some x0 := hf 0 _ rfl
  have h1 : DataW.trod enc Tryz.prog w base spare held n 23 [c1] = some x1 := hf 1 _ rfl
  have h2 : DataW.trod enc Tryz.prog w base spare held n 4 [c2] = some x2 := hf 2 _ rfl
  have h3 : DataW.trod enc Tryz.prog w base spare held n 4 [c3] = some x3 := hf 3 _ rfl
  have h4 : DataW.trod enc Tryz.prog w base spare held n 4 [c4] = some x4 := hf 4 _ rfl
  have h5 : DataW.trod enc Tryz.prog w base spare held n 3 [c5] = some x5 := hf 5 _ rfl
  have h6 : DataW.trod enc Tryz.prog w base spare held n 3 [c6] = some x6 := hf 6 _ rfl
  have h7 : DataW.trod enc Tryz.prog w base spare held n 23 [c7] = some x7 := hf 7 _ rfl
  have l0 : Light Tryz.prog 22 x0.1 := light_part (i := 0) Tryz.underlying25 hl rfl rfl
  obtain ⟨A, hA, hAn⟩ := open_atoms h0 l0
  obtain ⟨R, hR, hRs⟩ := open_texts2 h1
  obtain ⟨K, hK, hKs⟩ := open_texts2 h7
  obtain ⟨b2, e2, _⟩ := DataW.trod_bool Tryz.underlying4 h2
  obtain ⟨b3, e3, _⟩ := DataW.trod_bool Tryz.underlying4 h3
  obtain ⟨b4, e4, _⟩ := DataW.trod_bool Tryz.underlying4 h4
  obtain ⟨q5, e5, _, w5⟩ := DataW.trod_int Tryz.underlying3 h5
  obtain ⟨q6, e6, _, w6⟩ := DataW.trod_int Tryz.underlying3 h6
  simp at e2 e3 e4 e5 e6
  subst e2 e3 e4 e5 e6
  have b5 := bd_i64 w5
  have b6 := bd_i64 w6
  exact ⟨⟨A, R, b2, b3, b4, q5, q6, K⟩, ⟨_, _, _, rfl, hA, hR, hK⟩, ⟨hAn, b5.1, b5.2, b6.1, b6.2⟩, hRs, hKs⟩
end Go.Proofs.YthoneahamnmjlaaGreatDoor

/- What the text comes to by which the layer wakes: reckoned. -/
namespace Go.Proofs.YthoneahamnmjlaaGreatDoor
set_option maxRecDepth 100000
set_option maxHeartbeats 2000000
set_option linter.unusedSimpArgs false
open Go.Lib
set_option linter.unusedVariables false

def pwS : ByteArray := ⟨#[40, 120, 41, 45, 91, 107, 110, 111, 119, 115, 93, 45, 62, 40, 64, 98, 111, 98, 41, 44, 40, 40, 121, 58, 112, 41, 41, 32, 114, 101, 116, 117, 114, 110, 32, 121, 32, 108, 105, 109, 105, 116, 32, 51, 32, 111, 102, 102, 115, 101, 116, 32, 48, 32, 104, 105, 110, 116, 32, 121, 32, 120]⟩
def pwX : ByteArray := ⟨#[120]⟩
def pwY : ByteArray := ⟨#[121]⟩
def pw0 : ByteArray := ⟨#[118, 48]⟩
def pw1 : ByteArray := ⟨#[118, 49]⟩
def pwA : ByteArray := ⟨#[97]⟩
def pwP : Pat := ⟨[⟨4, false, pwX, ⟨#[107, 110, 111, 119, 115]⟩, nilB, true, ⟨#[98, 111, 98]⟩⟩, ⟨2, false, pwY, ⟨#[112]⟩, nilB, false, nilB⟩], [pwY], false, false, true, 3, 0, [pwY, pwX]⟩
def pwQ : Pat := ⟨[⟨4, false, pw0, ⟨#[107, 110, 111, 119, 115]⟩, nilB, true, ⟨#[98, 111, 98]⟩⟩, ⟨2, false, pw1, ⟨#[112]⟩, nilB, false, nilB⟩], [pw1], false, false, true, 3, 0, [pw1, pw0]⟩
def pwT : ByteArray := ⟨#[40, 120, 41, 45, 91, 107, 110, 111, 119, 115, 93, 45, 62, 40, 64, 98, 111, 98, 41, 44, 32, 40, 121, 58, 112, 41, 32, 114, 101, 116, 117, 114, 110, 32, 121, 32, 108, 105, 109, 105, 116, 32, 51, 32, 104, 105, 110, 116, 32, 121, 32, 120]⟩
def pwU : ByteArray := ⟨#[40, 118, 48, 41, 45, 91, 107, 110, 111, 119, 115, 93, 45, 62, 40, 64, 98, 111, 98, 41, 44, 32, 40, 118, 49, 58, 112, 41, 32, 114, 101, 116, 117, 114, 110, 32, 118, 49, 32, 108, 105, 109, 105, 116, 32, 51, 32, 104, 105, 110, 116, 32, 118, 49, 32, 118, 48]⟩
theorem pw_read : ParsR pwS (.ok pwP) := pars_of 20 ((itemsF (readF (bts pwS)).1 20 0 ⟨0, [], []⟩).getD (.error 0)) _ (by kernel_rfl) (by kernel_rfl) (by kernel_rfl)
theorem pw_okP : pwP.okB = true := by kernel_rfl
theorem pw_okQ : pwQ.okB = true := by kernel_rfl
theorem pw_vars : varsS pwP.atoms = [pwX, pwY] := by kernel_rfl
theorem itoa_3 : itoa 3 = [51] := by rw [itoa_of (by decide), show (3 : Int).toNat = 3 from rfl, decDigits_one (by omega)]; rfl
theorem plainN_2 : plainN 2 = [pw0, pw1] := by
  unfold plainN
  rw [show List.range 2 = [0, 1] from rfl]
  simp only [List.map_cons, List.map_nil]
  rw [decDigits_one (by omega), decDigits_one (by omega)]
  rfl
theorem pw_textP : textX pwP = bts pwT := by
  unfold textX limW
  rw [show pwP.limit = 3 from rfl, itoa_3]
  kernel_rfl
theorem pw_textQ : textX pwQ = bts pwU := by
  unfold textX limW
  rw [show pwQ.limit = 3 from rfl, itoa_3]
  kernel_rfl
theorem pw_plain : plainP pwP = pwQ := by
  unfold plainP
  rw [pw_vars, show [pwX, pwY].length = 2 from rfl, plainN_2]
  unfold renP
  rw [pw_vars]
  kernel_rfl
theorem pw_fP : textF pwP = (pwT, 0) := by
  unfold textF
  rw [if_pos pw_okP, pw_textP, txt_bts, if_neg (by decide)]
theorem pw_fQ : textF pwQ = (pwU, 0) := by
  unfold textF
  rw [if_pos pw_okQ, pw_textQ, txt_bts, if_neg (by decide)]
theorem pw_plainE : plainE pwP = (pwQ, 0) := by unfold plainE; rw [if_pos pw_okP, pw_plain]
theorem pw_ren : renE pwP [pwA, pwA] = (noPat, 2) := by
  unfold renE
  rw [if_pos pw_okP, pw_vars, if_neg (by decide)]
theorem pw_alike : alikeB pwP pwQ = true := by
  have h : plainP pwQ = pwQ := by rw [← pw_plain]; exact plain_plain pw_okP
  unfold alikeB
  rw [pw_okP, pw_okQ, pw_plain, h, (sameB_iff pwQ pwQ).2 rfl]
  rfl
end Go.Proofs.YthoneahamnmjlaaGreatDoor

/- Does the layer do anything? It does. -/
namespace Go.Proofs.YthoneahamnmjlaaGreatDoor
set_option maxRecDepth 100000
set_option maxHeartbeats 2000000
set_option linter.unusedSimpArgs false
open Go.RowKit Go.Shelf Go.Sort
attribute [local go_sem] Oper.semAt_some wide_fn wide_depth
set_option linter.unusedVariables false

theorem pw_fitP : pwP.Fits := ⟨fun a ha => by
  simp only [pwP, List.mem_cons, List.not_mem_nil, or_false] at ha
  rcases ha with rfl | rfl
  all_goals refine ⟨?_, ?_, ?_, ?_⟩ <;> decide, by decide⟩
theorem pw_fitQ : pwQ.Fits := ⟨fun a ha => by
  simp only [pwQ, List.mem_cons, List.not_mem_nil, or_false] at ha
  rcases ha with rfl | rfl
  all_goals refine ⟨?_, ?_, ?_, ?_⟩ <;> decide, by decide⟩
set_option maxRecDepth 100000 in
set_option maxHeartbeats 4000000 in
theorem wakesT_any (w : World) (hW : Pows w) : Calls Tryz.prog 8 #[] w fun e w' => e = .returned (.bool true) ∧ Ext w w' := by
  have HR := Lib.hid (parse_E pwS w (by decide))
  have HW := Lib.hid hW
  clear hW
  go_enter Tryz.func8, Tryz.ntmps8
  go_wp2_with fail
  refine HR.out.mono ?_
  rintro e w1 ⟨r, P, n, c, a1, c1, a2, c2, a3, c3, hr, hpr, rfl, hpa, hx1⟩
  have hre := hr.same pw_read
  obtain ⟨hPe, hn, hc⟩ : P = pwP ∧ n = (62 : Int) ∧ c = 0 := by
    rcases hpr with ⟨h1, h2, h3, _⟩ | ⟨h1, _, _⟩
    · rw [hre] at h1
      cases h1
      exact ⟨rfl, h2, h3⟩
    · rw [hre] at h1; cases h1
  subst hPe hn hc
  have HX1 := Lib.hid hx1
  have HP1 := Lib.hid hpa
  clear hr hpr hre hx1 hpa HR
  go_upto_region 2 with fail
  -- a pattern laid in a box: w1 the world, w2 the world behind, y1 the box's name, [.slice a1 pwP.atoms.length c1, .slice a2 pwP.ret.length c2, .bool pwP.count, .bool pwP.distinct, .bool pwP.limited, .int .i64 pwP.limit, .int .i64 pwP.offset, .slice a3 pwP.hint.length c3] its cells. Facts: HEy1 (Ext), HRy1 (the row)
  have hxa := Ext.alloc w1 (.cells #[.slice a1 pwP.atoms.length c1, .slice a2 pwP.ret.length c2, .bool pwP.count, .bool pwP.distinct, .bool pwP.limited, .int .i64 pwP.limit, .int .i64 pwP.offset, .slice a3 pwP.hint.length c3] 25)
  have hra := RowAt.new w1 25 [.slice a1 pwP.atoms.length c1, .slice a2 pwP.ret.length c2, .bool pwP.count, .bool pwP.distinct, .bool pwP.limited, .int .i64 pwP.limit, .int .i64 pwP.offset, .slice a3 pwP.hint.length c3]
  generalize w1.alloc (.cells #[.slice a1 pwP.atoms.length c1, .slice a2 pwP.ret.length c2, .bool pwP.count, .bool pwP.distinct, .bool pwP.limited, .int .i64 pwP.limit, .int .i64 pwP.offset, .slice a3 pwP.hint.length c3] 25) = w2 at *
  obtain ⟨y1, hyn⟩ : ∃ y, w1.heap.size = y := ⟨_, rfl⟩
  rw [hyn] at hra
  try simp only [hyn]
  clear hyn
  have HEy1 := Lib.hid hxa
  have HRy1 := Lib.hid hra
  clear hxa hra
  have HX2 := Lib.hid (HX1.out.trans HEy1.out)
  have HP2 := Lib.hid (HP1.out.ext HEy1.out)
  clear HX1 HP1 HEy1
  have HTX := Lib.hid (Text_any _ pwP w2 HP2.out pw_fitP (HW.out.ext HX2.out))
  rw [pw_fP] at HTX
  dsimp only at HTX
  obtain ⟨d0, d1, d2, d3, d4, d5, d6, d7⟩ := row8_facts HRy1.out
  go_wp2_with fail
  refine HTX.out.mono ?_
  rintro e w3 ⟨rfl, hx3⟩
  have HX3 := Lib.hid (HX2.out.trans hx3)
  have HP3 := Lib.hid (HP2.out.ext hx3)
  have HR3 := Lib.hid (HRy1.out.ext hx3)
  clear d0 d1 d2 d3 d4 d5 d6 d7 hx3 HX2 HP2 HRy1 HTX
  have HPL := Lib.hid (Plain_any _ pwP w3 HP3.out pw_fitP (HW.out.ext HX3.out))
  rw [pw_plainE] at HPL
  dsimp only at HPL
  obtain ⟨d0, d1, d2, d3, d4, d5, d6, d7⟩ := row8_facts HR3.out
  go_wp2_with fail
  refine HPL.out.mono ?_
  rintro e w4 ⟨u4, rfl, hp4, hx4⟩
  have hp4' := hp4.at_
  obtain ⟨b1, e1, b2, e2, b3, e3, rfl⟩ := hp4'.shape
  have HX4 := Lib.hid (HX3.out.trans hx4)
  have HP4 := Lib.hid (HP3.out.ext hx4)
  have HR4 := Lib.hid (HR3.out.ext hx4)
  have HQ4 := Lib.hid hp4'
  clear d0 d1 d2 d3 d4 d5 d6 d7 hx4 hp4 hp4' HX3 HP3 HR3 HPL
  go_upto_region 4 with fail
  -- a pattern laid in a box: w4 the world, w5 the world behind, y6 the box's name, [.slice b1 pwQ.atoms.length e1, .slice b2 pwQ.ret.length e2, .bool pwQ.count, .bool pwQ.distinct, .bool pwQ.limited, .int .i64 pwQ.limit, .int .i64 pwQ.offset, .slice b3 pwQ.hint.length e3] its cells. Facts: HEy6 (Ext), HRy6 (the row)
  have hxa := Ext.alloc w4 (.cells #[.slice b1 pwQ.atoms.length e1, .slice b2 pwQ.ret.length e2, .bool pwQ.count, .bool pwQ.distinct, .bool pwQ.limited, .int .i64 pwQ.limit, .int .i64 pwQ.offset, .slice b3 pwQ.hint.length e3] 25)
  have hra := RowAt.new w4 25 [.slice b1 pwQ.atoms.length e1, .slice b2 pwQ.ret.length e2, .bool pwQ.count, .bool pwQ.distinct, .bool pwQ.limited, .int .i64 pwQ.limit, .int .i64 pwQ.offset, .slice b3 pwQ.hint.length e3]
  generalize w4.alloc (.cells #[.slice b1 pwQ.atoms.length e1, .slice b2 pwQ.ret.length e2, .bool pwQ.count, .bool pwQ.distinct, .bool pwQ.limited, .int .i64 pwQ.limit, .int .i64 pwQ.offset, .slice b3 pwQ.hint.length e3] 25) = w5 at *
  obtain ⟨y6, hyn⟩ : ∃ y, w4.heap.size = y := ⟨_, rfl⟩
  rw [hyn] at hra
  try simp only [hyn]
  clear hyn
  have HEy6 := Lib.hid hxa
  have HRy6 := Lib.hid hra
  clear hxa hra
  have HX5 := Lib.hid (HX4.out.trans HEy6.out)
  have HP5 := Lib.hid (HP4.out.ext HEy6.out)
  have HQ5 := Lib.hid (HQ4.out.ext HEy6.out)
  have HR5 := Lib.hid (HR4.out.ext HEy6.out)
  clear HX4 HP4 HQ4 HR4 HEy6
  have HTX := Lib.hid (Text_any _ pwQ w5 HQ5.out pw_fitQ (HW.out.ext HX5.out))
  rw [pw_fQ] at HTX
  dsimp only at HTX
  obtain ⟨d0, d1, d2, d3, d4, d5, d6, d7⟩ := row8_facts HRy6.out
  go_wp2_with fail
  refine HTX.out.mono ?_
  rintro e w6 ⟨rfl, hx6⟩
  have HX6 := Lib.hid (HX5.out.trans hx6)
  have HP6 := Lib.hid (HP5.out.ext hx6)
  have HQ6 := Lib.hid (HQ5.out.ext hx6)
  have HR6 := Lib.hid (HR5.out.ext hx6)
  have HS6 := Lib.hid (HRy6.out.ext hx6)
  clear d0 d1 d2 d3 d4 d5 d6 d7 hx6 HX5 HP5 HQ5 HR5 HRy6 HTX
  obtain ⟨d0, d1, d2, d3, d4, d5, d6, d7⟩ := row8_facts HR6.out
  have hxn := Ext.alloc w6 (.cells #[.string ⟨#[97]⟩, .string ⟨#[97]⟩] 9)
  have hsl : Strs (w6.alloc (.cells #[.string ⟨#[97]⟩, .string ⟨#[97]⟩] 9)) (.slice (some ⟨w6.heap.size, 0, none⟩) 2 2) [pwA, pwA] := Sl.new w6 #[.string pwA, .string pwA] 9 2 2 (Nat.le_refl _) (by unfold maxLen; omega)
  have HRN := Lib.hid (Rename_any _ _ pwP [pwA, pwA] _ (HP6.out.ext hxn) pw_fitP hsl (by intro s hs; simp only [List.mem_cons, List.not_mem_nil, or_false, or_self] at hs; subst hs; decide))
  rw [pw_ren] at HRN
  dsimp only at HRN
  have HXN := Lib.hid hxn
  clear hsl hxn
  go_wp2_with fail
  refine HRN.out.mono ?_
  rintro e w7 ⟨u7, rfl, hp7, hx7⟩
  have hp7' := hp7.at_
  obtain ⟨f1, g1, f2, g2, f3, g3, rfl⟩ := hp7'.shape
  have hxx := HXN.out.trans hx7
  have HX7 := Lib.hid (HX6.out.trans hxx)
  have HP7 := Lib.hid (HP6.out.ext hxx)
  have HQ7 := Lib.hid (HQ6.out.ext hxx)
  have HR7 := Lib.hid (HR6.out.ext hxx)
  have HS7 := Lib.hid (HS6.out.ext hxx)
  clear d0 d1 d2 d3 d4 d5 d6 d7 hx7 hp7 hp7' hxx HXN HX6 HP6 HQ6 HR6 HS6 HRN
  go_upto_region 6 with fail
  -- a pattern laid in a box: w7 the world, w8 the world behind, y10 the box's name, [.slice f1 noPat.atoms.length g1, .slice f2 noPat.ret.length g2, .bool noPat.count, .bool noPat.distinct, .bool noPat.limited, .int .i64 noPat.limit, .int .i64 noPat.offset, .slice f3 noPat.hint.length g3] its cells. Facts: HEy10 (Ext), HRy10 (the row)
  have hxa := Ext.alloc w7 (.cells #[.slice f1 noPat.atoms.length g1, .slice f2 noPat.ret.length g2, .bool noPat.count, .bool noPat.distinct, .bool noPat.limited, .int .i64 noPat.limit, .int .i64 noPat.offset, .slice f3 noPat.hint.length g3] 25)
  have hra := RowAt.new w7 25 [.slice f1 noPat.atoms.length g1, .slice f2 noPat.ret.length g2, .bool noPat.count, .bool noPat.distinct, .bool noPat.limited, .int .i64 noPat.limit, .int .i64 noPat.offset, .slice f3 noPat.hint.length g3]
  generalize w7.alloc (.cells #[.slice f1 noPat.atoms.length g1, .slice f2 noPat.ret.length g2, .bool noPat.count, .bool noPat.distinct, .bool noPat.limited, .int .i64 noPat.limit, .int .i64 noPat.offset, .slice f3 noPat.hint.length g3] 25) = w8 at *
  obtain ⟨y10, hyn⟩ : ∃ y, w7.heap.size = y := ⟨_, rfl⟩
  rw [hyn] at hra
  try simp only [hyn]
  clear hyn
  have HEy10 := Lib.hid hxa
  have HRy10 := Lib.hid hra
  clear hxa hra
  have HX8 := Lib.hid (HX7.out.trans HEy10.out)
  have HP8 := Lib.hid (HP7.out.ext HEy10.out)
  have HQ8 := Lib.hid (HQ7.out.ext HEy10.out)
  have HR8 := Lib.hid (HR7.out.ext HEy10.out)
  have HS8 := Lib.hid (HS7.out.ext HEy10.out)
  clear HX7 HP7 HQ7 HR7 HS7 HEy10 HRy10
  have HAL := Lib.hid (Alike_any _ _ pwP pwQ w8 HP8.out HQ8.out pw_fitP pw_fitQ (HW.out.ext HX8.out))
  rw [pw_alike] at HAL
  obtain ⟨d0, d1, d2, d3, d4, d5, d6, d7⟩ := row8_facts HR8.out
  obtain ⟨q0, q1, q2, q3, q4, q5, q6, q7⟩ := row8_facts HS8.out
  have hs1 : pwT.toList = [40, 120, 41, 45, 91, 107, 110, 111, 119, 115, 93, 45, 62, 40, 64, 98, 111, 98, 41, 44, 32, 40, 121, 58, 112, 41, 32, 114, 101, 116, 117, 114, 110, 32, 121, 32, 108, 105, 109, 105, 116, 32, 51, 32, 104, 105, 110, 116, 32, 121, 32, 120] := by kernel_rfl
  have hs2 : pwU.toList = [40, 118, 48, 41, 45, 91, 107, 110, 111, 119, 115, 93, 45, 62, 40, 64, 98, 111, 98, 41, 44, 32, 40, 118, 49, 58, 112, 41, 32, 114, 101, 116, 117, 114, 110, 32, 118, 49, 32, 108, 105, 109, 105, 116, 32, 51, 32, 104, 105, 110, 116, 32, 118, 49, 32, 118, 48] := by kernel_rfl
  go_wp2_with fail
  refine HAL.out.mono ?_
  rintro e w9 ⟨rfl, hx9⟩
  go_wp2
  go_ret
  exact ⟨rfl, HX8.out.trans hx9⟩
end Go.Proofs.YthoneahamnmjlaaGreatDoor

/- What the laws of print share: a pattern handed in; plain facts. -/
namespace Go.Proofs.YthoneahamnmjlaaGreatDoor
set_option maxRecDepth 100000
set_option maxHeartbeats 2000000
set_option linter.unusedSimpArgs false
open Go.RowKit Go.Shelf Go.Sort
attribute [local go_sem] Oper.semAt_some wide_fn wide_depth
set_option linter.unusedVariables false

/-- A pattern handed in, small enough for memory. -/
structure ArgP (w : World) (v : Value) (P : Pat) : Prop where
  at_ : PatAt w v P
  near : P.Near
  ret : ∀ s ∈ P.ret, s.size ≤ 9223372036854775807
  hint : ∀ s ∈ P.hint, s.size ≤ 9223372036854775807
theorem ArgP.own {w : World} {v : Value} {P : Pat} (h : ArgP w v P) (W : World) (hx : Ext w W) : Calls Tryz.prog 9 #[v] W fun e w' => ∃ u, e = .returned u ∧ PatIn W.heap.size w' u (ownB P) ∧ Ext W w' :=
  own17_any v P W (h.at_.ext hx) (fun a ha => by
    obtain ⟨h1, h2, h3, h4, _, _⟩ := h.near.1 a ha
    unfold reachBytes at h1 h2 h3 h4
    omega) h.ret h.hint
theorem same_self (P : Pat) : sameB P P = true := (sameB_iff P P).2 rfl
theorem ren_fits {P : Pat} {names : List ByteArray} (hP : P.okB = true) (h : NamesR (varsS P.atoms) names) : (renP P names).Fits := by
  have hok := ren_okB hP h
  obtain ⟨h1, h2, _⟩ := okB_facts hok
  have h10 := (okB_facts hok).2.2.2.2.2.2.2.2.2
  refine ⟨fun a ha => ?_, by omega⟩
  obtain ⟨z1, z2, z3, z4⟩ := Atm.size_of (List.all_eq_true.1 h10 a ha)
  exact ⟨by omega, by omega, by omega, by omega⟩
end Go.Proofs.YthoneahamnmjlaaGreatDoor

/- The document: numbers, terms, atoms as texts; names. -/
namespace Go.Proofs.YthoneahamnmjlaaGreatDoor
set_option maxRecDepth 100000
set_option maxHeartbeats 2000000
set_option linter.unusedSimpArgs false
open Go.RowKit Go.Shelf Go.Sort
attribute [local go_sem] Oper.semAt_some wide_fn wide_depth
set_option linter.unusedVariables false

/-- A byte turned into a text. -/
theorem run_conv_one (w : World) (b : Nat) (n : Nat) (h : w.cell? ⟨b, 0, none⟩ = some (.int .u8 n)) : (convert 100 9 (.slice (some ⟨b, 0, none⟩) 1 1)).run Tryz.prog w = .ok (.string (txt [UInt8.ofNat n])) w := by
  refine run_convert_bytes_arg w _ 5 Tryz.underlying100 Tryz.underlying5 b 0 1 1 [(n : Int)] rfl (fun i hi => ?_) _ Tryz.underlying9
  obtain rfl : i = 0 := by simp at hi; omega
  exact h
theorem digit_eq (k : Nat) : UInt8.ofNat (48 + k) = 48 + UInt8.ofNat k := by rw [UInt8.ofNat_add]; rfl
theorem digits_step (n : Nat) (h : 10 ≤ n) : txt (Lib.decDigits n) = txt (Lib.decDigits (n / 10)) ++ txt [48 + UInt8.ofNat (n % 10)] := by
  refine bts_inj ?_
  rw [bts_append, bts_txt, bts_txt, bts_txt, Lib.decDigits, dif_neg (by omega), digit_eq]
theorem digits_last (n : Nat) (h : n < 10) : txt (Lib.decDigits n) = txt [48 + UInt8.ofNat (n % 10)] := by
  rw [Lib.decDigits, dif_pos h, digit_eq, Nat.mod_eq_of_lt h]
theorem digits_len : ∀ (k n : Nat), n < 10 ^ (k + 1) → (Lib.decDigits n).length ≤ k + 1
  | 0, n, h => by rw [Lib.decDigits, dif_pos (by simpa using h)]; simp
  | k + 1, n, h => by
    by_cases h10 : n < 10
    · rw [Lib.decDigits, dif_pos h10]; simp
    · rw [Lib.decDigits, dif_neg h10, List.length_append]
      have := digits_len k (n / 10) (by rw [Nat.pow_succ] at h; omega)
      simp only [List.length_cons, List.length_nil]
      omega
theorem digits_size (n : Nat) (h : n ≤ 9223372036854775807) : (txt (Lib.decDigits n)).size ≤ 100 := by
  have := digits_len 18 n (by omega)
  have h2 : (txt (Lib.decDigits n)).size = (Lib.decDigits n).length := by rw [show (txt (Lib.decDigits n)).size = (bts (txt (Lib.decDigits n))).length from rfl, bts_txt]
  omega
theorem digitsR_any (n : Nat) : n ≤ 9223372036854775807 → ∀ w : World, Calls Tryz.prog 46 #[.int .i64 n] w fun e w' => e = .returned (.string (txt (Lib.decDigits n))) ∧ Ext w w' := by
  induction n using Nat.strongRecOn with
  | _ n ih =>
    intro hn w
    have hcv := fun w' b (h : w'.cell? ⟨b, 0, none⟩ = some (.int .u8 ((48 + n % 10 : Nat) : Int))) => run_conv_one w' b _ h
    have hm0 : 0 ≤ (n : Int) % 10 := by omega
    have hm1 : (n : Int) % 10 < 10 := by omega
    have hcv2 := hcv (w.alloc (.cells #[.int .u8 ((48 + n % 10 : Nat) : Int)] 5)) w.heap.size (RowAt.new w 5 [.int .u8 ((48 + n % 10 : Nat) : Int)]).facts1.1
    rw [show ((48 + n % 10 : Nat) : Int) = 48 + (n : Int) % 10 by omega] at hcv2
    by_cases h10 : 10 ≤ n
    · have HD := Lib.hid (ih (n / 10) (by omega) (by omega))
      have hx := Ext.alloc w (.cells #[.int .u8 (48 + (n : Int) % 10)] 5)
      have HX := Lib.hid hx
      clear ih hcv hx
      go_enter Tryz.func46, Tryz.ntmps46
      have hle : 10 ≤ (n : Int) := by omega
      have hdv : ((n : Int) / 10) = ((n / 10 : Nat) : Int) := by omega
      have Hdv := Lib.hid hdv
      clear hdv
      have hdig : Hid (txt (Lib.decDigits n) = txt (Lib.decDigits (n / 10)) ++ txt [48 + UInt8.ofNat (n % 10)]) := Lib.hid (digits_step n h10)
      have hsz : (txt (Lib.decDigits (n / 10))).size ≤ 100 := digits_size _ (by omega)
      have hs1 : (txt [48 + UInt8.ofNat (n % 10)]).size = 1 := rfl
      have hz : ¬ 9223372036854775807 < (txt (Lib.decDigits (n / 10))).size + (txt [48 + UInt8.ofNat (n % 10)]).size := by omega
      clear hsz hs1
      go_wp2_with fail
      rw [Hdv.out]
      refine (HD.out _).mono fun e w' hq => ?_
      obtain ⟨rfl, hx2⟩ := hq
      have HX2 := Lib.hid hx2
      clear hx2
      go_wp2_with fail
      go_ret
      exact ⟨congrArg (fun z => Ending.returned (.string z)) hdig.out.symm, HX.out.trans HX2.out⟩
    · have hle : ¬ 10 ≤ (n : Int) := by omega
      have hdig : Hid (txt (Lib.decDigits n) = txt [48 + UInt8.ofNat (n % 10)]) := Lib.hid (digits_last n (by omega))
      have HX := Lib.hid (Ext.alloc w (.cells #[.int .u8 (48 + (n : Int) % 10)] 5))
      clear ih hcv
      go_enter Tryz.func46, Tryz.ntmps46
      go_wp2_with fail
      go_ret
      exact ⟨congrArg (fun z => Ending.returned (.string z)) hdig.out.symm, HX.out⟩
theorem termR17_any (k : Bool) (n : ByteArray) (w : World) (hs : n.size ≤ 1000000) :
    Calls Tryz.prog 23 #[.agg #[.bool k, .string n]] w fun e w' => e = .returned (.string (txt (termX k n))) ∧ Ext w w' := by
  have HX := Lib.hid (Ext.alloc w (.cells #[.bool k, .string n] 38))
  have hb0 : RowAt (w.alloc (.cells #[.bool k, .string n] 38)) w.heap.size 38 [.bool k, .string n] := RowAt.new _ _ _
  have c0 := hb0.cell (i := 0) rfl
  have c1 := hb0.cell (i := 1) rfl
  clear hb0
  have hz : ¬ (9223372036854775807 < 1 + n.size) := by omega
  cases k with
  | true =>
    rw [show txt (termX true n) = (⟨#[64]⟩ : ByteArray) ++ n from bts_inj (by rw [bts_txt, bts_append]; rfl)]
    go_enter Tryz.func23, Tryz.ntmps23
    go_upto_region 1 with fail
    generalize w.alloc (.cells #[.bool true, .string n] 38) = w1 at *
    go_wp2
    go_ret
    exact ⟨rfl, HX.out⟩
  | false =>
    rw [show txt (termX false n) = n by simp [termX, txt_bts]]
    go_enter Tryz.func23, Tryz.ntmps23
    go_upto_region 1 with fail
    generalize w.alloc (.cells #[.bool false, .string n] 38) = w1 at *
    go_wp2
    go_ret
    exact ⟨rfl, HX.out⟩
theorem nameR17_any (v u : Value) (vars names : List ByteArray) (s : ByteArray) (w : World) (hv : Strs w v vars) (hu : Strs w u names) (hl : names.length = vars.length) :
    Calls Tryz.prog 54 #[v, u, .string s] w fun e w' => e = .returned (.string (nameAt vars names s)) ∧ w' = w := by
  obtain ⟨a, c, rfl, hc1, hc2⟩ := Sl.shape hv
  obtain ⟨a', c', rfl, hd1, hd2⟩ := Sl.shape hu
  have HV := Lib.hid hv
  have HU := Lib.hid hu
  have HST : Hid (nameAt vars names s = nameAt (vars.drop 0) (names.drop 0) s) := Lib.hid rfl
  generalize nameAt vars names s = R at *
  clear hv hu
  go_enter Tryz.func54, Tryz.ntmps54
  go_wp2_with fail
  go_loopg [11] vars.length (fun g i wr => ∃ k : Nat, k ≤ vars.length ∧ g = vars.length - k ∧ i = .int .i64 k ∧ wr = w ∧ Hid (R = nameAt (vars.drop k) (names.drop k) s))
  case atStart => exact ⟨0, Nat.zero_le _, rfl, rfl, rfl, HST⟩
  case round =>
    obtain ⟨k, hk, hg, rfl, hwr, HR⟩ := hrel
    rw [hwr]
    have Hg := Lib.hid hg
    clear hg hwr HST
    by_cases hlt : k < vars.length
    · obtain ⟨b, o, rfl, c0⟩ := Strs.at_ HV.out hlt
      obtain ⟨b', o', rfl, c1⟩ := Strs.at_ HU.out (show k < names.length by omega)
      have hR := HR.out
      rw [List.drop_eq_getElem_cons hlt, List.drop_eq_getElem_cons (show k < names.length by omega)] at hR
      have hR2 : R = if vars[k] = s then names[k] else nameAt (vars.drop (k + 1)) (names.drop (k + 1)) s := hR
      clear HR hR
      have HR := Lib.hid hR2
      clear hR2
      generalize vars[k] = x at *
      generalize names[k]'(by omega) = y at *
      by_cases hxs : x = s
      · have hys := str_yes hxs
        have HRR : Hid (R = y) := Lib.hid (by rw [HR.out, if_pos hxs])
        clear hxs HR
        go_wp2_with fail
        go_ret
        exact ⟨congrArg (fun z => Ending.returned (.string z)) HRR.out.symm, rfl⟩
      · have hys := str_no hxs
        have HRR : Hid (R = nameAt (vars.drop (k + 1)) (names.drop (k + 1)) s) := Lib.hid (by rw [HR.out, if_neg hxs])
        clear hxs HR
        go_wp2_with fail
        go_roundg (vars.length - (k + 1))
        case measure => have := Hg.out; omega
        case rel => exact ⟨k + 1, by omega, rfl, by go_num, rfl, HRR⟩
    · have he : k = vars.length := by omega
      have hR := HR.out
      rw [List.drop_eq_nil_of_le (by omega)] at hR
      have hR2 : R = nilB := hR
      clear HR hR
      have HRR := Lib.hid hR2
      clear hR2
      go_wp2_with fail
      go_ret
      exact ⟨congrArg (fun z => Ending.returned (.string z)) HRR.out.symm, rfl⟩
end Go.Proofs.YthoneahamnmjlaaGreatDoor
