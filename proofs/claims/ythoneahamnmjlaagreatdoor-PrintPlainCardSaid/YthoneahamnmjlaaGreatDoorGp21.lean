/- The pattern of a text. -/
import Derived.Test.YthoneahamnmjlaaGreatDoorGp20
import Derived.Test.YthoneahamnmjlaaGreatDoorGp07
import Derived.Test.YthoneahamnmjlaaGreatDoorGp08
import Derived.Test.YthoneahamnmjlaaGreatDoorGp16
import Derived.Test.YthoneahamnmjlaaGreatDoorGp15
import Derived.Test.YthoneahamnmjlaaGreatDoorGp10
import Derived.Test.YthoneahamnmjlaaGreatDoorGp17
namespace Go.Proofs.YthoneahamnmjlaaGreatDoor
set_option maxRecDepth 100000
set_option maxHeartbeats 2000000
set_option linter.unusedSimpArgs false
open Go.RowKit Go.Shelf Go.Sort
attribute [local go_sem] Oper.semAt_some wide_fn wide_depth
set_option linter.unusedVariables false

/-- Where a token stands, or the end. -/
def placeOf (ys : List Tk) (n q : Nat) : Int := match ys[q]? with
  | some t => t.at_
  | none => n
def tokR (ys : List Tk) (n : Nat) : Except Nat Pat → Except Int Pat
  | .ok P => .ok P
  | .error q => .error (placeOf ys n q)
/-- What a text comes to: its pattern, or the place of what is wrong. -/
def ParsR (s : ByteArray) (r : Except Int Pat) : Prop := if (readF (bts s)).2.2 = 0 then ∃ x, ToksR (readF (bts s)).1 x ∧ r = tokR (readF (bts s)).1 s.size x else r = .error (readF (bts s)).2.1
def ParsQ (w : World) (s : ByteArray) (e : Ending) (w' : World) : Prop := ∃ r, ParsR s r ∧ Ext w w' ∧ match r with
  | .ok P => ∃ v, e = .returned (.tuple #[v, .int .i64 s.size, .int .i64 0]) ∧ PatIn w.heap.size w' v P
  | .error q => e = .returned (.tuple #[pnoV, .int .i64 q, .int .i64 260])
def groP6 : Nat → Gro
  | 0 => .read
  | 5 => .read
  | 7 => .grow
  | _ => .pure
set_option maxRecDepth 100000 in
set_option maxHeartbeats 2000000 in
theorem parse_any (s : ByteArray) (w : World) (hs : s.size ≤ 9223372036854775807) : Calls Tryz.prog 29 #[.string s] w (ParsQ w s) := by
  have hmo : Tryz.prog.follows .mixedOrders = true := by kernel_rfl
  have hx0 := Ext.alloc w (.cells #[.slice none 0 0, .slice none 0 0, .bool false, .bool false, .bool false, .int .i64 0, .int .i64 0, .slice none 0 0] 25)
  have hA : RowAt (w.alloc (.cells #[.slice none 0 0, .slice none 0 0, .bool false, .bool false, .bool false, .int .i64 0, .int .i64 0, .slice none 0 0] 25)) w.heap.size 25 [.slice none 0 0, .slice none 0 0, .bool false, .bool false, .bool false, .int .i64 0, .int .i64 0, .slice none 0 0] := RowAt.new _ _ _
  have HX := Lib.hid hx0
  have HA := Lib.hid hA
  have hsz : (w.alloc (.cells #[.slice none 0 0, .slice none 0 0, .bool false, .bool false, .bool false, .int .i64 0, .int .i64 0, .slice none 0 0] 25)).heap.size = w.heap.size + 1 := by simp
  have HSZ := Lib.hid hsz
  clear hx0 hA hsz
  have hcs := readF_cases (bts s)
  rw [bts_len] at hcs
  go_enter Tryz.func29, Tryz.ntmps29
  go_upto_region 1 with fail
  generalize (w.alloc (.cells #[.slice none 0 0, .slice none 0 0, .bool false, .bool false, .bool false, .int .i64 0, .int .i64 0, .slice none 0 0] 25)) = w1 at *
  obtain ⟨A, hA⟩ : ∃ A, w.heap.size = A := ⟨_, rfl⟩
  rw [hA] at HA HSZ
  simp only [hA]
  have HN := Lib.hid hA
  clear hA
  have HRD := Lib.hid (read_any s w1 hs)
  have hbad : ∀ at_ c, c ≠ 0 → readF (bts s) = ([], at_, c) → ParsR s (.error at_) := fun at_ c hc h => by
    unfold ParsR; rw [h]; rw [if_neg hc]
  have hcs2 : (∃ at_ c, c ≠ 0 ∧ readF (bts s) = ([], at_, c)) ∨ (s.size ≤ 500 ∧ ∃ l, readF (bts s) = (l, (s.size : Int), 0) ∧ l.length ≤ 500 ∧ ∀ t ∈ l, t.text.size ≤ s.size) := by
    rcases hcs with ⟨_, h⟩ | ⟨_, p, _, _, h⟩ | ⟨h5, l, h, hy, _, ht⟩
    · exact .inl ⟨_, _, by decide, h⟩
    · exact .inl ⟨_, _, by decide, h⟩
    · refine .inr ⟨h5, l, h, ?_, fun t htl => (ht t htl).2⟩
      have := yields_len (bts s)
      rw [bts_len] at this
      rw [hy]
      omega
  clear hcs
  rcases hcs2 with ⟨at_, c, hc, hr⟩ | ⟨h5, l, hr, hll, htl⟩
  · have HB := Lib.hid (hbad at_ c hc hr)
    rw [hr] at HRD
    have hcb : (c != 0) = true := by simp [hc]
    clear hr hbad hc
    go_wp2_with fail
    refine HRD.out.mono ?_
    rintro en w2 ⟨v, rfl, ho, hx2⟩
    dsimp only
    obtain ⟨va, vc, rfl⟩ := own_vw ho
    have HA2 := Lib.hid (HA.out.ext hx2)
    have HX2 := Lib.hid (HX.out.trans hx2)
    clear HRD ho hx2 HA HX
    go_upto_region 3 with fail
    apply wp_region_lit
    refine wpList_plain rfl fun K1 hK1 => ?_
    go_simp
    refine hK1 _ _ ?_
    clear hK1 K1
    refine wpList_plain rfl fun K1 hK1 => ?_
    go_simp
    refine hK1 _ _ ?_
    clear hK1 K1
    refine plain_store rfl _ _ _ rfl A [.slice none 0 0, .slice none 0 0, .bool false, .bool false, .bool false, .int .i64 0, .int .i64 0, .slice none 0 0] rfl rfl HA2.out (by kernel_rfl) rfl (by simp [Value.oneCell']) ?_
    have HA3 := Lib.hid (HA2.out.setRow [.slice none 0 0, .slice none 0 0, .bool false, .bool false, .bool false, .int .i64 0, .int .i64 0, .slice none 0 0])
    have HX3 := Lib.hid (show Ext w (w2.setRow A #[.slice none 0 0, .slice none 0 0, .bool false, .bool false, .bool false, .int .i64 0, .int .i64 0, .slice none 0 0]) from below_setRow HX2.out (Nat.le_of_eq HN.out) _)
    clear HA2 HX2
    generalize w2.setRow A #[.slice none 0 0, .slice none 0 0, .bool false, .bool false, .bool false, .int .i64 0, .int .i64 0, .slice none 0 0] = w3 at *
    go_simp
    refine wpList_plain rfl fun K1 hK1 => ?_
    go_simp
    refine hK1 _ _ ?_
    clear hK1 K1
    refine wpList_plain rfl fun K1 hK1 => ?_
    go_simp
    refine hK1 _ _ ?_
    clear hK1 K1
    apply wpList_nil
    go_wp2_with fail
    exact bodyPost_ret (results_row2 rfl rfl HA3.out Tryz.underlying25 rfl (by kernel_rfl)) rfl ⟨_, HB.out, HX3.out, rfl⟩
  · have hok : ∀ x, ToksR l x → ParsR s (tokR l s.size x) := fun x hx => by
      unfold ParsR; rw [hr]; rw [if_pos rfl]; exact ⟨x, hx, rfl⟩
    rw [hr] at HRD
    have HOK := Lib.hid hok
    have HTL := Lib.hid htl
    clear hr hbad hok htl
    go_wp2_with fail
    refine HRD.out.mono ?_
    rintro en w2 ⟨v, rfl, ho, hx2⟩
    dsimp only at ho ⊢
    have hto : Toks w2 v l := Sl.of_own ho
    have HTK := Lib.hid (tokens_go hto (by omega) (fun t ht => by have := HTL.out t ht; omega))
    have HTO := Lib.hid hto
    have HLO := Lib.hid (own_ge ho)
    obtain ⟨va, vc, rfl⟩ := own_vw ho
    have HA2 := Lib.hid (HA.out.ext hx2)
    have HX2 := Lib.hid (HX.out.trans hx2)
    clear HRD ho hx2 HA HX hto
    go_upto_region 4 with fail
    apply wp_region_lit
    refine wpList_plain rfl fun K1 hK1 => ?_
    go_simp
    refine hK1 _ _ ?_
    clear hK1 K1
    refine wpList_plain rfl fun K1 hK1 => ?_
    go_simp
    refine HTK.out.mono ?_
    rintro en w3 ⟨r, htr, hx3, hrr⟩
    have HTR := Lib.hid (HOK.out r htr)
    have HA3 := Lib.hid (HA2.out.ext hx3)
    have HX3 := Lib.hid (HX2.out.trans hx3)
    have HTO3 := Lib.hid (HTO.out.ext hx3)
    have hwle : w.heap.size ≤ w2.heap.size := HX2.out.size
    clear htr hx3 HTK HA2 HX2 HTO HOK
    cases r with
    | error q =>
      obtain ⟨hq, rfl⟩ := hrr
      unfold pnoV
      -- behind Tokens: the pattern's box
      go_simp
      refine hK1 _ _ ?_
      clear hK1 K1
      refine wpList_plain rfl fun K1 hK1 => ?_
      go_simp
      refine hK1 _ _ ?_
      clear hK1 K1
      refine wpList_plain rfl fun K1 hK1 => ?_
      go_simp
      refine hK1 _ _ ?_
      clear hK1 K1
      refine wpList_plain rfl fun K1 hK1 => ?_
      go_simp
      refine hK1 _ _ ?_
      clear hK1 K1
      refine wpList_plain rfl fun K1 hK1 => ?_
      go_simp
      refine hK1 _ _ ?_
      clear hK1 K1
      refine wpList_plain rfl fun K1 hK1 => ?_
      go_simp
      refine hK1 _ _ ?_
      clear hK1 K1
      have hx4 := Ext.alloc w3 (.cells #[.slice none 0 0, .slice none 0 0, .bool false, .bool false, .bool false, .int .i64 0, .int .i64 0, .slice none 0 0] 25)
      have HB4 := Lib.hid (show RowAt (w3.alloc (.cells #[.slice none 0 0, .slice none 0 0, .bool false, .bool false, .bool false, .int .i64 0, .int .i64 0, .slice none 0 0] 25)) w3.heap.size 25 [.slice none 0 0, .slice none 0 0, .bool false, .bool false, .bool false, .int .i64 0, .int .i64 0, .slice none 0 0] from RowAt.new _ _ _)
      have hab : A < w3.heap.size := (show RowAt w3 A 25 _ from HA3.out).lt
      have HA4 := Lib.hid (HA3.out.ext hx4)
      have HX4 := Lib.hid (HX3.out.trans hx4)
      generalize w3.alloc (.cells #[.slice none 0 0, .slice none 0 0, .bool false, .bool false, .bool false, .int .i64 0, .int .i64 0, .slice none 0 0] 25) = w4 at *
      obtain ⟨B, hB⟩ : ∃ B, w3.heap.size = B := ⟨_, rfl⟩
      rw [hB] at HB4 hab
      simp only [hB]
      have HBN := Lib.hid hB
      clear hB
      refine plain_store rfl _ _ _ rfl B [.slice none 0 0, .slice none 0 0, .bool false, .bool false, .bool false, .int .i64 0, .int .i64 0, .slice none 0 0] rfl rfl HB4.out (by kernel_rfl) rfl (by simp [patL, Value.oneCell']) ?_
      have hne : A ≠ B := by omega
      have HA5 := Lib.hid (show RowAt (w4.setRow B ([.slice none 0 0, .slice none 0 0, .bool false, .bool false, .bool false, .int .i64 0, .int .i64 0, .slice none 0 0]).toArray) A 25 [.slice none 0 0, .slice none 0 0, .bool false, .bool false, .bool false, .int .i64 0, .int .i64 0, .slice none 0 0] from (setRow_other w4 B A _ hne).trans HA4.out)
      have HTO5 := Lib.hid (HTO3.out.ext (show Ext w3 (w4.setRow B ([.slice none 0 0, .slice none 0 0, .bool false, .bool false, .bool false, .int .i64 0, .int .i64 0, .slice none 0 0]).toArray) from below_setRow hx4 (Nat.le_of_eq HBN.out) _))
      have HB5 := Lib.hid (HB4.out.setRow ([.slice none 0 0, .slice none 0 0, .bool false, .bool false, .bool false, .int .i64 0, .int .i64 0, .slice none 0 0]))
      have HX5 := Lib.hid (show Ext w (w4.setRow B ([.slice none 0 0, .slice none 0 0, .bool false, .bool false, .bool false, .int .i64 0, .int .i64 0, .slice none 0 0]).toArray) from below_setRow HX4.out (by have := HN.out; omega) _)
      clear HA4 HB4 HX4
      generalize w4.setRow B ([.slice none 0 0, .slice none 0 0, .bool false, .bool false, .bool false, .int .i64 0, .int .i64 0, .slice none 0 0]).toArray = w5 at *
      go_simp
      refine wpList_plain rfl fun K1 hK1 => ?_
      go_simp
      refine hK1 _ _ ?_
      clear hK1 K1
      refine wpList_plain rfl fun K1 hK1 => ?_
      go_simp
      refine hK1 _ _ ?_
      clear hK1 K1
      apply wpList_nil
      by_cases hlt : q < l.length
      · have hd : decide ((q : Int) < (l.length : Int)) = true := decide_eq_true (by omega)
        have hd2 : decide (q < l.length) = true := decide_eq_true hlt
        have hat : placeOf l s.size q = l[q].at_ := by unfold placeOf; rw [List.getElem?_eq_getElem hlt]
        obtain ⟨b, o, rfl, t0, t1, t2⟩ := HTO5.out.at_ hlt
        rw [← hat] at t2
        clear hat t0 t1
        generalize hpp : placeOf l s.size q = pp at *
        have HPP := Lib.hid hpp
        clear hpp
        go_upto_region 6 with fail
        refine wp_region_grox [A] groP6 [0, 1, 2, 3, 4, 5, 6, 7, 8, 9] hmo (by kernel_rfl) rfl (by kernel_rfl) (fun _ _ _ _ _ h => h) ?_
        have hxd : Ext w5 w5.drew := Ext.drewN w5 1
        have t3 := ext_cell hxd t2
        have HA6 := Lib.hid (HA5.out.ext hxd)
        have HB6 := Lib.hid (HB5.out.ext hxd)
        have HX6 := Lib.hid (HX5.out.trans hxd)
        have hBA : ¬ B ∈ [A] := by simp; omega
        have hbA : ¬ b = A := by
          have h1 := HLO.out b rfl
          have h2 := HSZ.out
          omega
        clear HA5 HB5 HX5 hxd t2 HTO5 HTO3
        generalize w5.drew = w6 at *
        refine groX_load rfl rfl rfl _ _ rfl B 0 rfl [.slice none 0 0, .slice none 0 0, .bool false, .bool false, .bool false, .int .i64 0, .int .i64 0, .slice none 0 0] _ HB6.out.whole hBA Tryz.underlying25 rfl (by kernel_rfl) ?_
        repeat (first
          | (refine groX_pure rfl rfl ?_; intro K hK; go_simp; refine hK _ ?_; clear hK K)
          | (refine groX_read rfl rfl ?_; intro K S hS hK; go_simp; refine hK _ ?_; clear hK K hS S)
          | (refine groX_read rfl rfl ?_; intro K S hS hK; go_simp; refine ⟨hS _ ?_, hK _ ?_⟩; (clear hK K hS S; intro w' hx'; have hce := grows_some hx'; go_simp); clear hK K hS S))
        refine groX_store rfl rfl rfl _ _ _ rfl A [.slice none 0 0, .slice none 0 0, .bool false, .bool false, .bool false, .int .i64 0, .int .i64 0, .slice none 0 0] rfl rfl HA6.out (by simp) (by kernel_rfl) rfl (by simp [Value.oneCell']) ?_
        have HA7 := Lib.hid (HA6.out.setRow [.slice none 0 0, .slice none 0 0, .bool false, .bool false, .bool false, .int .i64 0, .int .i64 0, .slice none 0 0])
        have HX7 := Lib.hid (show Ext w (w6.setRow A #[.slice none 0 0, .slice none 0 0, .bool false, .bool false, .bool false, .int .i64 0, .int .i64 0, .slice none 0 0]) from below_setRow HX6.out (Nat.le_of_eq HN.out) _)
        clear HA6 HB6 HX6 t3
        generalize w6.setRow A #[.slice none 0 0, .slice none 0 0, .bool false, .bool false, .bool false, .int .i64 0, .int .i64 0, .slice none 0 0] = w7 at *
        repeat (first
          | (refine groX_pure rfl rfl ?_; intro K hK; go_simp; refine hK _ ?_; clear hK K)
          | (refine groX_read rfl rfl ?_; intro K S hS hK; go_simp; refine hK _ ?_; clear hK K hS S)
          | (refine groX_read rfl rfl ?_; intro K S hS hK; go_simp; refine ⟨hS _ ?_, hK _ ?_⟩; (clear hK K hS S; intro w' hx'; have hce := grows_some hx'; go_simp); clear hK K hS S))
        refine groX_nil ?_
        go_wp2_with fail
        exact bodyPost_ret (results_row2 rfl rfl HA7.out Tryz.underlying25 rfl (by kernel_rfl)) rfl ⟨_, HTR.out, HX7.out, by rw [← HPP.out]; rfl⟩
      · have hd : decide ((q : Int) < (l.length : Int)) = false := decide_eq_false (by omega)
        have hd2 : decide (q < l.length) = false := decide_eq_false hlt
        have hat : placeOf l s.size q = s.size := by unfold placeOf; rw [List.getElem?_eq_none (by omega)]
        have HAT := Lib.hid hat
        clear hlt hat
        go_upto_region 7 with fail
        apply wp_region_lit
        refine plain_load rfl _ _ rfl B rfl [.slice none 0 0, .slice none 0 0, .bool false, .bool false, .bool false, .int .i64 0, .int .i64 0, .slice none 0 0] _ HB5.out Tryz.underlying25 rfl (by kernel_rfl) ?_
        go_simp
        refine wpList_plain rfl fun K1 hK1 => ?_
        go_simp
        refine hK1 _ _ ?_
        clear hK1 K1
        refine wpList_plain rfl fun K1 hK1 => ?_
        go_simp
        refine hK1 _ _ ?_
        clear hK1 K1
        refine wpList_plain rfl fun K1 hK1 => ?_
        go_simp
        refine hK1 _ _ ?_
        clear hK1 K1
        refine plain_store rfl _ _ _ rfl A [.slice none 0 0, .slice none 0 0, .bool false, .bool false, .bool false, .int .i64 0, .int .i64 0, .slice none 0 0] rfl rfl HA5.out (by kernel_rfl) rfl (by simp [patL, Value.oneCell']) ?_
        have HA6 := Lib.hid (HA5.out.setRow ([.slice none 0 0, .slice none 0 0, .bool false, .bool false, .bool false, .int .i64 0, .int .i64 0, .slice none 0 0]))
        have HX6 := Lib.hid (show Ext w (w5.setRow A ([.slice none 0 0, .slice none 0 0, .bool false, .bool false, .bool false, .int .i64 0, .int .i64 0, .slice none 0 0]).toArray) from below_setRow HX5.out (Nat.le_of_eq HN.out) _)
        clear HA5 HB5 HX5 HTO5 HTO3
        generalize w5.setRow A ([.slice none 0 0, .slice none 0 0, .bool false, .bool false, .bool false, .int .i64 0, .int .i64 0, .slice none 0 0]).toArray = w6 at *
        go_simp
        refine wpList_plain rfl fun K1 hK1 => ?_
        go_simp
        refine hK1 _ _ ?_
        clear hK1 K1
        refine wpList_plain rfl fun K1 hK1 => ?_
        go_simp
        refine hK1 _ _ ?_
        clear hK1 K1
        apply wpList_nil
        go_wp2_with fail
        exact bodyPost_ret (results_row2 rfl rfl HA6.out Tryz.underlying25 rfl (by kernel_rfl)) rfl ⟨_, HTR.out, HX6.out, by dsimp only [tokR]; rw [HAT.out]; rfl⟩
    | ok P =>
      obtain ⟨v, rfl, av, rv, hv, rfl, ho, hor, hoh⟩ := hrr
      obtain ⟨ava, avc, rfl⟩ := own_vw ho
      obtain ⟨rva, rvc, rfl⟩ := own_vw hor
      obtain ⟨hva, hvc, rfl⟩ := own_vw hoh
      have HO := Lib.hid ho
      have HOR := Lib.hid hor
      have HOH := Lib.hid hoh
      clear ho hor hoh
      unfold patV
      -- behind Tokens: the pattern's box
      go_simp
      refine hK1 _ _ ?_
      clear hK1 K1
      refine wpList_plain rfl fun K1 hK1 => ?_
      go_simp
      refine hK1 _ _ ?_
      clear hK1 K1
      refine wpList_plain rfl fun K1 hK1 => ?_
      go_simp
      refine hK1 _ _ ?_
      clear hK1 K1
      refine wpList_plain rfl fun K1 hK1 => ?_
      go_simp
      refine hK1 _ _ ?_
      clear hK1 K1
      refine wpList_plain rfl fun K1 hK1 => ?_
      go_simp
      refine hK1 _ _ ?_
      clear hK1 K1
      refine wpList_plain rfl fun K1 hK1 => ?_
      go_simp
      refine hK1 _ _ ?_
      clear hK1 K1
      have hx4 := Ext.alloc w3 (.cells #[.slice none 0 0, .slice none 0 0, .bool false, .bool false, .bool false, .int .i64 0, .int .i64 0, .slice none 0 0] 25)
      have HB4 := Lib.hid (show RowAt (w3.alloc (.cells #[.slice none 0 0, .slice none 0 0, .bool false, .bool false, .bool false, .int .i64 0, .int .i64 0, .slice none 0 0] 25)) w3.heap.size 25 [.slice none 0 0, .slice none 0 0, .bool false, .bool false, .bool false, .int .i64 0, .int .i64 0, .slice none 0 0] from RowAt.new _ _ _)
      have hab : A < w3.heap.size := (show RowAt w3 A 25 _ from HA3.out).lt
      have HA4 := Lib.hid (HA3.out.ext hx4)
      have HX4 := Lib.hid (HX3.out.trans hx4)
      generalize w3.alloc (.cells #[.slice none 0 0, .slice none 0 0, .bool false, .bool false, .bool false, .int .i64 0, .int .i64 0, .slice none 0 0] 25) = w4 at *
      obtain ⟨B, hB⟩ : ∃ B, w3.heap.size = B := ⟨_, rfl⟩
      rw [hB] at HB4 hab
      simp only [hB]
      have HBN := Lib.hid hB
      clear hB
      refine plain_store rfl _ _ _ rfl B (patL (.slice ava P.atoms.length avc) (.slice rva P.ret.length rvc) (.slice hva P.hint.length hvc) P) rfl rfl HB4.out (by kernel_rfl) rfl (by simp [patL, Value.oneCell']) ?_
      have hne : A ≠ B := by omega
      have HA5 := Lib.hid (show RowAt (w4.setRow B ((patL (.slice ava P.atoms.length avc) (.slice rva P.ret.length rvc) (.slice hva P.hint.length hvc) P)).toArray) A 25 [.slice none 0 0, .slice none 0 0, .bool false, .bool false, .bool false, .int .i64 0, .int .i64 0, .slice none 0 0] from (setRow_other w4 B A _ hne).trans HA4.out)
      have HTO5 := Lib.hid (HTO3.out.ext (show Ext w3 (w4.setRow B ((patL (.slice ava P.atoms.length avc) (.slice rva P.ret.length rvc) (.slice hva P.hint.length hvc) P)).toArray) from below_setRow hx4 (Nat.le_of_eq HBN.out) _))
      have HB5 := Lib.hid (HB4.out.setRow ((patL (.slice ava P.atoms.length avc) (.slice rva P.ret.length rvc) (.slice hva P.hint.length hvc) P)))
      have HX5 := Lib.hid (show Ext w (w4.setRow B ((patL (.slice ava P.atoms.length avc) (.slice rva P.ret.length rvc) (.slice hva P.hint.length hvc) P)).toArray) from below_setRow HX4.out (by have := HN.out; omega) _)
      have hxx : Ext w3 w4 := hx4
      have hgw := setRow_grown w4 B (patL (.slice ava P.atoms.length avc) (.slice rva P.ret.length rvc) (.slice hva P.hint.length hvc) P).toArray
      have HO5 := Lib.hid (own_turn (own_ext HO.out hxx) HB4.out (by decide) hgw)
      have HOR5 := Lib.hid (own_turn (own_ext HOR.out hxx) HB4.out (by decide) hgw)
      have HOH5 := Lib.hid (own_turn (own_ext HOH.out hxx) HB4.out (by decide) hgw)
      clear HA4 HB4 HX4 hxx hgw HO HOR HOH
      generalize w4.setRow B ((patL (.slice ava P.atoms.length avc) (.slice rva P.ret.length rvc) (.slice hva P.hint.length hvc) P)).toArray = w5 at *
      go_simp
      refine wpList_plain rfl fun K1 hK1 => ?_
      go_simp
      refine hK1 _ _ ?_
      clear hK1 K1
      refine wpList_plain rfl fun K1 hK1 => ?_
      go_simp
      refine hK1 _ _ ?_
      clear hK1 K1
      apply wpList_nil
      have hd : decide ((l.length : Int) < (l.length : Int)) = false := by simp
      have hd2 : decide (l.length < l.length) = false := by simp
      go_upto_region 7 with fail
      apply wp_region_lit
      refine plain_load rfl _ _ rfl B rfl (patL (.slice ava P.atoms.length avc) (.slice rva P.ret.length rvc) (.slice hva P.hint.length hvc) P) _ HB5.out Tryz.underlying25 rfl (by kernel_rfl) ?_
      go_simp
      refine wpList_plain rfl fun K1 hK1 => ?_
      go_simp
      refine hK1 _ _ ?_
      clear hK1 K1
      refine wpList_plain rfl fun K1 hK1 => ?_
      go_simp
      refine hK1 _ _ ?_
      clear hK1 K1
      refine wpList_plain rfl fun K1 hK1 => ?_
      go_simp
      refine hK1 _ _ ?_
      clear hK1 K1
      refine plain_store rfl _ _ _ rfl A (patL (.slice ava P.atoms.length avc) (.slice rva P.ret.length rvc) (.slice hva P.hint.length hvc) P) rfl rfl HA5.out (by kernel_rfl) rfl (by simp [patL, Value.oneCell']) ?_
      have HA6 := Lib.hid (HA5.out.setRow ((patL (.slice ava P.atoms.length avc) (.slice rva P.ret.length rvc) (.slice hva P.hint.length hvc) P)))
      have HX6 := Lib.hid (show Ext w (w5.setRow A ((patL (.slice ava P.atoms.length avc) (.slice rva P.ret.length rvc) (.slice hva P.hint.length hvc) P)).toArray) from below_setRow HX5.out (Nat.le_of_eq HN.out) _)
      have hgw := setRow_grown w5 A (patL (.slice ava P.atoms.length avc) (.slice rva P.ret.length rvc) (.slice hva P.hint.length hvc) P).toArray
      have HPI := Lib.hid (show PatIn w.heap.size (w5.setRow A (patL (.slice ava P.atoms.length avc) (.slice rva P.ret.length rvc) (.slice hva P.hint.length hvc) P).toArray) (patV (.slice ava P.atoms.length avc) (.slice rva P.ret.length rvc) (.slice hva P.hint.length hvc) P) P from ⟨_, _, _, rfl, own_base (own_turn HO5.out HA5.out (by decide) hgw) hwle, own_base (own_turn HOR5.out HA5.out (by decide) hgw) hwle, own_base (own_turn HOH5.out HA5.out (by decide) hgw) hwle⟩)
      clear HA5 HB5 HX5 HO5 HOR5 HOH5 hgw
      generalize w5.setRow A (patL (.slice ava P.atoms.length avc) (.slice rva P.ret.length rvc) (.slice hva P.hint.length hvc) P).toArray = w6 at *
      go_simp
      refine wpList_plain rfl fun K1 hK1 => ?_
      go_simp
      refine hK1 _ _ ?_
      clear hK1 K1
      refine wpList_plain rfl fun K1 hK1 => ?_
      go_simp
      refine hK1 _ _ ?_
      clear hK1 K1
      apply wpList_nil
      go_wp2_with fail
      exact bodyPost_ret (results_row2 rfl rfl HA6.out Tryz.underlying25 rfl (by kernel_rfl)) rfl ⟨_, HTR.out, HX6.out, _, rfl, HPI.out⟩
end Go.Proofs.YthoneahamnmjlaaGreatDoor

/- What the two texts come to by which the layer wakes: reckoned. -/
namespace Go.Proofs.YthoneahamnmjlaaGreatDoor
set_option maxRecDepth 100000
set_option maxHeartbeats 2000000
set_option linter.unusedSimpArgs false
set_option linter.unusedVariables false

theorem ParsR.same {s : ByteArray} {r r' : Except Int Pat} (h : ParsR s r) (h' : ParsR s r') : r = r' := by
  unfold ParsR at h h'
  split at h
  · rename_i hz
    rw [if_pos hz] at h'
    obtain ⟨x, h1, rfl⟩ := h
    obtain ⟨y, h2, rfl⟩ := h'
    rw [h1.same h2]
  · rename_i hz
    rw [if_neg hz] at h'
    rw [h, h']
theorem pars_of {s : ByteArray} (f : Nat) (x : Except Nat PS) (r : Except Int Pat) (h0 : (readF (bts s)).2.2 = 0) (h1 : itemsF (readF (bts s)).1 f 0 ⟨0, [], []⟩ = some x)
    (h2 : tokR (readF (bts s)).1 s.size (x.bind fun st => (toldP (readF (bts s)).1 st).bind fun (P, p) => if p < (readF (bts s)).1.length then .error p else .ok P) = r) : ParsR s r := by
  unfold ParsR
  rw [if_pos h0]
  exact ⟨_, ⟨x, ⟨f, h1⟩, rfl⟩, h2.symm⟩
end Go.Proofs.YthoneahamnmjlaaGreatDoor

/- Does the layer do anything? It does. -/
namespace Go.Proofs.YthoneahamnmjlaaGreatDoor
set_option maxRecDepth 100000
set_option maxHeartbeats 2000000
set_option linter.unusedSimpArgs false
open Go.RowKit Go.Shelf Go.Sort
attribute [local go_sem] Oper.semAt_some wide_fn wide_depth
set_option linter.unusedVariables false

theorem PatIn.at_ {B : Nat} {W : World} {v : Value} {P : Pat} (h : PatIn B W v P) : PatAt W v P := by
  obtain ⟨av, rv, hv, e, h1, h2, h3⟩ := h
  exact ⟨av, rv, hv, e, Sl.of_own h1, Sl.of_own h2, Sl.of_own h3⟩
end Go.Proofs.YthoneahamnmjlaaGreatDoor

/- The document: which atoms may be. -/
namespace Go.Proofs.YthoneahamnmjlaaGreatDoor
set_option maxRecDepth 100000
set_option maxHeartbeats 2000000
set_option linter.unusedSimpArgs false
open Go.RowKit Go.Shelf Go.Sort
attribute [local go_sem] Oper.semAt_some wide_fn wide_depth
set_option linter.unusedVariables false

end Go.Proofs.YthoneahamnmjlaaGreatDoor

/- The document: the first atoms of a pattern; variables, none twice. -/
namespace Go.Proofs.YthoneahamnmjlaaGreatDoor
set_option maxRecDepth 100000
set_option maxHeartbeats 2000000
set_option linter.unusedSimpArgs false
open Go.RowKit Go.Shelf Go.Sort
attribute [local go_sem] Oper.semAt_some wide_fn wide_depth
set_option linter.unusedVariables false

end Go.Proofs.YthoneahamnmjlaaGreatDoor

/- The document: may a pattern be? -/
namespace Go.Proofs.YthoneahamnmjlaaGreatDoor
set_option maxRecDepth 100000
set_option maxHeartbeats 2000000
set_option linter.unusedSimpArgs false
open Go.RowKit Go.Shelf Go.Sort
attribute [local go_sem] Oper.semAt_some wide_fn wide_depth
set_option linter.unusedVariables false

end Go.Proofs.YthoneahamnmjlaaGreatDoor

/- The document: the same texts, the same patterns. -/
namespace Go.Proofs.YthoneahamnmjlaaGreatDoor
set_option maxRecDepth 100000
set_option maxHeartbeats 2000000
set_option linter.unusedSimpArgs false
open Go.RowKit Go.Shelf Go.Sort
attribute [local go_sem] Oper.semAt_some wide_fn wide_depth
set_option linter.unusedVariables false

end Go.Proofs.YthoneahamnmjlaaGreatDoor

/- A pattern of one's own. -/
namespace Go.Proofs.YthoneahamnmjlaaGreatDoor
set_option maxRecDepth 100000
set_option maxHeartbeats 2000000
set_option linter.unusedSimpArgs false
open Go.RowKit Go.Shelf Go.Sort
attribute [local go_sem] Oper.semAt_some wide_fn wide_depth
set_option linter.unusedVariables false

end Go.Proofs.YthoneahamnmjlaaGreatDoor

/- What is read may be. Plain. -/
namespace Go.Proofs.YthoneahamnmjlaaGreatDoor
set_option maxRecDepth 100000
set_option maxHeartbeats 2000000
set_option linter.unusedSimpArgs false
set_option linter.unusedVariables false

theorem kindAt_ne {ts : List Tk} {p : Nat} {k : Int} (h : kindAt ts p = k) (hk : k ≠ 0) : ∃ t, ts[p]? = some t ∧ t.check = true ∧ t.kind = k ∧ textAt ts p = t.text := by
  unfold kindAt at h
  split at h
  · exact absurd h.symm hk
  · rename_i t ht
    split at h
    · rename_i hc
      refine ⟨t, ht, hc, h, ?_⟩
      unfold textAt
      simp [List.getD, ht]
    · exact absurd h.symm hk
theorem check_text {k : Int} {l : List UInt8} {a : Int} (h : checkB k l a = true) : rightB k l 0 = true := by
  rw [← right_check] at h
  unfold rightB at h ⊢
  by_cases ha : a < 0
  · rw [if_pos ha] at h; cases h
  · rw [if_neg ha] at h
    rw [if_neg (by omega)]
    exact h
theorem word_at {ts : List Tk} {p : Nat} (h : kindAt ts p = 1 ∨ kindAt ts p = 2) : wordB (textAt ts p) = true := by
  rw [← wordB_all]
  rcases h with h | h
  · obtain ⟨t, _, hc, hk, e⟩ := kindAt_ne h (by decide)
    have := check_text (show checkB t.kind (bts t.text) t.at_ = true from hc)
    rw [hk] at this
    rw [e]
    unfold rightB at this
    simpa using this
  · obtain ⟨t, _, hc, hk, e⟩ := kindAt_ne h (by decide)
    have := check_text (show checkB t.kind (bts t.text) t.at_ = true from hc)
    rw [hk] at this
    rw [e]
    unfold rightB at this
    simpa using this
theorem worth_at {ts : List Tk} {p : Nat} (h : kindAt ts p = 3) : worthB (textAt ts p) = true := by
  rw [← worthB_all]
  obtain ⟨t, _, hc, hk, e⟩ := kindAt_ne h (by decide)
  have := check_text (show checkB t.kind (bts t.text) t.at_ = true from hc)
  rw [hk] at this
  rw [e]
  unfold rightB at this
  simpa using this
theorem word_nil {s : ByteArray} (h : wordB s = true) : s ≠ nilB := by
  rintro rfl
  revert h
  decide +kernel
theorem takeP_text {ts : List Tk} {k : Int} {p q : Nat} {s : ByteArray} (h : takeP ts k p = .ok (s, q)) : kindAt ts p = k ∧ s = textAt ts p := by
  unfold takeP at h
  split at h
  · cases h; exact ⟨by assumption, rfl⟩
  · cases h
theorem termP_vars {ts : List Tk} {vars vars' : List ByteArray} {p q : Nat} {t : Bool × ByteArray} (h : termP ts vars p = .ok (t, vars', q)) : vars' = termS vars t ∧ wordB t.2 = true := by
  unfold termP at h
  split at h
  · rename_i h2
    cases h
    exact ⟨by unfold termS; simp, word_at (.inr h2)⟩
  · split at h
    · rename_i h1
      split at h
      · rename_i hb
        cases h
        exact ⟨by unfold termS; rw [if_pos (.inr (.inr hb))], word_at (.inl h1)⟩
      · split at h
        · cases h
        · rename_i hb _
          cases h
          have hw := word_at (.inl h1)
          refine ⟨?_, hw⟩
          unfold termS
          rw [if_neg]
          rintro (h | h | h)
          · cases h
          · exact word_nil hw h
          · exact hb h
    · cases h
theorem midP_text {ts : List Tk} {p q : Nat} {k : Int} {s v : ByteArray} (h : midP ts p = .ok (k, s, v, q)) : (k = 1 ∧ s = nilB ∧ v = nilB) ∨ (k = 2 ∧ wordB s = true ∧ v = nilB) ∨ (k = 3 ∧ wordB s = true ∧ worthB v = true) := by
  unfold midP at h
  split at h
  · obtain ⟨⟨_, q1⟩, h1, h2⟩ := bind_ok h
    have := takeP_text h1
    cases h2
    exact .inr (.inl ⟨rfl, by rw [this.2]; exact word_at (.inl this.1), rfl⟩)
  · split at h
    · obtain ⟨⟨_, q1⟩, h1, h2⟩ := bind_ok h
      obtain ⟨⟨_, q2⟩, h3, h4⟩ := bind_ok h2
      obtain ⟨⟨_, q3⟩, h5, h6⟩ := bind_ok h4
      have a := takeP_text h1
      have b := takeP_text h5
      cases h6
      exact .inr (.inr ⟨rfl, by rw [a.2]; exact word_at (.inl a.1), by rw [b.2]; exact worth_at b.1⟩)
    · cases h
      exact .inl ⟨rfl, rfl, rfl⟩
/-- What has been read may be so far. -/
def InvA (a : List Atm) (v : List ByteArray) : Prop := varsS a = v ∧ a.all atomB = true
theorem varsS_snoc (l : List Atm) (a : Atm) : varsS (l ++ [a]) = termS (termS (varsS l) (a.fk, a.fn)) (a.tk, a.tn) := by
  unfold varsS
  rw [List.foldl_append]
  rfl
theorem termS_nil (T : List ByteArray) (b : Bool) : termS T (b, nilB) = T := by unfold termS; simp
theorem InvA.snoc {l : List Atm} {v : List ByteArray} {a : Atm} (h : InvA l v) (ha : atomB a = true) : InvA (l ++ [a]) (termS (termS v (a.fk, a.fn)) (a.tk, a.tn)) := by
  refine ⟨by rw [varsS_snoc, h.1], ?_⟩
  rw [List.all_append, h.2]
  simp [ha]
theorem atomP_inv {ts : List Tk} {st s : PS} (h : atomP ts st = .ok s) : st.atoms.length < s.atoms.length ∧ (InvA st.atoms st.vars → InvA s.atoms s.vars) := by
  unfold atomP at h
  obtain ⟨⟨f, v1, p1⟩, h1, h2⟩ := bind_ok h
  obtain ⟨⟨k, n, v, p2⟩, h3, h4⟩ := bind_ok h2
  obtain ⟨⟨_, p3⟩, h5, h6⟩ := bind_ok h4
  obtain ⟨e1, l1⟩ := termP_vars h1
  have e3 := midP_text h3
  dsimp only at h6
  split at h6
  · split at h6
    · cases h6
    · obtain ⟨⟨n4, p4⟩, a1, h7⟩ := bind_ok h6
      obtain ⟨⟨_, p5⟩, a2, h8⟩ := bind_ok h7
      obtain ⟨⟨_, p6⟩, a3, h9⟩ := bind_ok h8
      obtain ⟨⟨t, v2, p7⟩, a4, h10⟩ := bind_ok h9
      obtain ⟨⟨_, p8⟩, a5, h11⟩ := bind_ok h10
      have b1 := takeP_text a1
      obtain ⟨b4, l4⟩ := termP_vars a4
      cases h11
      refine ⟨by simp, fun hi => ?_⟩
      have := hi.snoc (a := ⟨4, f.1, f.2, n4, nilB, t.1, t.2⟩) (by unfold atomB; simp [l1, l4, b1.2, word_at (.inl b1.1)])
      dsimp only at this ⊢
      rw [b4, e1]
      exact this
  · cases h6
    refine ⟨by simp, fun hi => ?_⟩
    have := hi.snoc (a := ⟨k, f.1, f.2, n, v, false, nilB⟩) (by
      rcases e3 with ⟨rfl, rfl, rfl⟩ | ⟨rfl, hw, rfl⟩ | ⟨rfl, hw, hw'⟩
      · unfold atomB; simp [l1]
      · unfold atomB; simp [l1, hw]
      · unfold atomB; simp [l1, hw, hw'])
    dsimp only at this ⊢
    rw [termS_nil] at this
    rw [e1]
    exact this
/-- What each atom keeps, all items keep. -/
theorem itemsF_keep {ts : List Tk} {R : List Atm × List ByteArray → List Atm × List ByteArray → Prop} (ht : ∀ a b c, R a b → R b c → R a c)
    (ha : ∀ st s, atomP ts st = .ok s → R (st.atoms, st.vars) (s.atoms, s.vars)) : ∀ (f d : Nat) (st s : PS), itemsF ts f d st = some (.ok s) → R (st.atoms, st.vars) (s.atoms, s.vars)
  | 0, _, _, _, h => by simp [itemsF] at h
  | f + 1, d, st, s, h => by
    have ih := itemsF_keep ht ha f
    have fin : ∀ s1 : PS, R (st.atoms, st.vars) (s1.atoms, s1.vars) → (if s1.atoms.length = 40 ∨ kindAt ts s1.p ≠ 6 then some (.ok s1) else itemsF ts f d ⟨s1.p + 1, s1.atoms, s1.vars⟩) = some (.ok s) → R (st.atoms, st.vars) (s.atoms, s.vars) := by
      intro s1 h1 h4
      split at h4
      · cases h4; exact h1
      · exact ht _ _ _ h1 (ih d ⟨s1.p + 1, s1.atoms, s1.vars⟩ s h4)
    unfold itemsF at h
    by_cases h4 : kindAt ts st.p = 4
    · by_cases h44 : kindAt ts (st.p + 1) = 4
      · by_cases hd : d = 4
        · simp [h4, h44, hd] at h
        · simp only [h4, h44, hd, if_true, if_false] at h
          cases hi : itemsF ts f (d + 1) ⟨st.p + 1, st.atoms, st.vars⟩ with
          | none => rw [hi] at h; simp at h
          | some x =>
            rw [hi] at h
            cases x with
            | error q => simp at h
            | ok s1 =>
              have g := ih (d + 1) ⟨st.p + 1, st.atoms, st.vars⟩ s1 hi
              cases hb2 : ((takeP ts 5 s1.p).bind fun (_, p) => (.ok ⟨p, s1.atoms, s1.vars⟩ : Except Nat PS)) with
              | error q => simp only [hb2] at h; cases h
              | ok s' =>
                simp only [hb2] at h
                obtain ⟨⟨_, q1⟩, c1, c2⟩ := bind_ok hb2
                cases c2
                exact fin ⟨q1, s1.atoms, s1.vars⟩ g h
      · simp only [h4, h44, if_true, if_false] at h
        cases hat : atomP ts ⟨st.p + 1, st.atoms, st.vars⟩ with
        | error q => simp only [hat] at h; cases h
        | ok s' =>
          simp only [hat] at h
          exact fin _ (ha ⟨st.p + 1, st.atoms, st.vars⟩ s' hat) h
    · simp [h4] at h
theorem ItemsR.inv {ts : List Tk} {d : Nat} {st s : PS} (h : ItemsR ts d st (.ok s)) : st.atoms.length < s.atoms.length ∧ (InvA st.atoms st.vars → InvA s.atoms s.vars) := by
  obtain ⟨f, hf⟩ := h
  exact itemsF_keep (R := fun a b => a.1.length < b.1.length ∧ (InvA a.1 a.2 → InvA b.1 b.2)) (fun a b c h h' => ⟨by omega, fun x => h'.2 (h.2 x)⟩) (fun st s h => atomP_inv h) f d st s hf
theorem chosenG_snoc (vars : List ByteArray) (s : ByteArray) : ∀ (l seen : List ByteArray), chosenG vars seen (l ++ [s]) = (chosenG vars seen l && (hasB s vars && !hasB s (seen ++ l)))
  | [], seen => by simp [chosenG]
  | x :: l, seen => by
    rw [List.cons_append]
    unfold chosenG
    rw [chosenG_snoc vars s l (seen ++ [x]), List.append_assoc]
    simp [Bool.and_assoc]
theorem varP_chosen {ts : List Tk} {vars acc acc' : List ByteArray} {p q : Nat} (h : varP ts vars acc p = .ok (acc', q)) (hc : chosenB vars acc = true) : chosenB vars acc' = true ∧ acc'.length = acc.length + 1 := by
  rcases varP_cases ts vars acc p with ⟨_, e⟩ | ⟨_, _, e⟩ | ⟨_, h1, h2, e⟩
  · rw [e] at h; cases h
  · rw [e] at h; cases h
  · rw [e] at h
    cases h
    refine ⟨?_, by simp⟩
    unfold chosenB at hc ⊢
    rw [chosenG_snoc, hc, hasB_iff.2 h1]
    simp [hasB_no.2 h2]
theorem retP_chosen {ts : List Tk} {vars : List ByteArray} : ∀ (k : Nat) (acc acc' : List ByteArray) (p q : Nat), retP ts vars k acc p = .ok (acc', q) → chosenB vars acc = true → chosenB vars acc' = true
  | 0, acc, acc', p, q, h, hc => by unfold retP at h; cases h; exact hc
  | k + 1, acc, acc', p, q, h, hc => by
    unfold retP at h
    obtain ⟨⟨a1, p1⟩, h1, h2⟩ := bind_ok h
    have := (varP_chosen h1 hc).1
    dsimp only at h2
    split at h2
    · exact retP_chosen k _ _ _ _ h2 this
    · cases h2; exact this
theorem hintP_chosen {ts : List Tk} {vars : List ByteArray} : ∀ (k : Nat) (acc acc' : List ByteArray) (p q : Nat), hintP ts vars k acc p = .ok (acc', q) → chosenB vars acc = true → chosenB vars acc' = true ∧ acc'.length = acc.length + k
  | 0, acc, acc', p, q, h, hc => by unfold hintP at h; cases h; exact ⟨hc, rfl⟩
  | k + 1, acc, acc', p, q, h, hc => by
    unfold hintP at h
    obtain ⟨⟨a1, p1⟩, h1, h2⟩ := bind_ok h
    have := varP_chosen h1 hc
    have h3 := hintP_chosen k _ _ _ _ h2 this.1
    exact ⟨h3.1, by omega⟩
theorem numL_bd : ∀ (l : List UInt8) (n m : Int), 0 ≤ n → n ≤ 2147483647 → numL n l = some m → 0 ≤ m ∧ m ≤ 2147483647
  | [], n, m, h0, h1, h => by unfold numL at h; cases h; exact ⟨h0, h1⟩
  | c :: l, n, m, h0, h1, h => by
    unfold numL at h
    split at h
    · exact numL_bd l _ m (by omega) (by omega) h
    · cases h
theorem numP_bd {ts : List Tk} {p q : Nat} {n : Int} (h : numP ts p = .ok (n, q)) : numB n = true := by
  unfold numP at h
  obtain ⟨⟨_, p1⟩, h1, h2⟩ := bind_ok h
  dsimp only at h2
  split at h2
  · cases h2
  · rename_i m hm
    cases h2
    have : 0 ≤ n ∧ n ≤ 2147483647 := by
      unfold Tk.number numberF at hm
      split at hm
      · cases hm
      · exact numL_bd _ 0 n (by omega) (by omega) hm
    unfold numB
    simp [this.1, this.2]
theorem toldPage_ok {ts : List Tk} {p q : Nat} {c d l : Bool} {n m : Int} (h : toldPage ts p = .ok ((c, d, l, n, m), q)) : countedP c d l m = true ∧ pagedP l n m = true := by
  unfold toldPage at h
  split at h
  · split at h
    · cases h; exact ⟨rfl, rfl⟩
    · cases h; exact ⟨rfl, rfl⟩
  · obtain ⟨⟨l1, n1, p1⟩, h1, h2⟩ := bind_ok h
    obtain ⟨⟨m1, p2⟩, h3, h4⟩ := bind_ok h2
    cases h4
    have hn : numB n = true ∧ (l || decide (n = 0)) = true := by
      split at h1
      · obtain ⟨⟨n2, p3⟩, g1, g2⟩ := bind_ok h1
        cases g2
        exact ⟨numP_bd g1, rfl⟩
      · cases h1
        exact ⟨rfl, rfl⟩
    have hm : numB m = true := by
      split at h3
      · obtain ⟨⟨n2, p3⟩, g1, g2⟩ := bind_ok h3
        cases g2
        exact numP_bd g1
      · cases h3
        rfl
    exact ⟨by unfold countedP; simp, by unfold pagedP; rw [hn.1, hn.2, hm]; rfl⟩
/-- What is read may be. -/
theorem ToksR.okB {ts : List Tk} {P : Pat} (h : ToksR ts (.ok P)) : P.okB = true := by
  obtain ⟨x, hi, he⟩ := h
  obtain ⟨st, rfl, h1⟩ := bind_ok he.symm
  obtain ⟨⟨P1, p1⟩, h2, h3⟩ := bind_ok h1
  have hP : P1 = P := by
    dsimp only at h3
    split at h3
    · cases h3
    · cases h3; rfl
  subst hP
  obtain ⟨_, ⟨b1, b2⟩, b3⟩ := hi.good ⟨by simp, by simp [edgesOf]⟩ (by simp)
  obtain ⟨c1, c2⟩ := hi.inv
  obtain ⟨d1, d2⟩ := c2 ⟨rfl, rfl⟩
  unfold toldP at h2
  obtain ⟨⟨r, p2⟩, g1, h4⟩ := bind_ok h2
  obtain ⟨⟨g, p3⟩, g2, h5⟩ := bind_ok h4
  obtain ⟨⟨k, p4⟩, g3, h6⟩ := bind_ok h5
  cases h6
  obtain ⟨c, d, l, n, m⟩ := g
  obtain ⟨e1, e2⟩ := toldPage_ok g2
  have hr : chosenB st.vars r = true := by
    unfold toldRet at g1
    split at g1
    · exact retP_chosen _ _ _ _ _ g1 rfl
    · cases g1; rfl
  have hk : chosenB st.vars k = true ∧ (k.length = 0 ∨ k.length = st.vars.length) := by
    unfold toldHint at g3
    split at g3
    · have := hintP_chosen _ _ _ _ _ g3 rfl
      exact ⟨this.1, .inr (by simpa using this.2)⟩
    · cases g3; exact ⟨rfl, .inl rfl⟩
  unfold Pat.okB
  dsimp only
  rw [d1, d2, e1, e2]
  have s1 : sizesP st.atoms.length (edgesOf st.atoms) st.vars.length = true := by
    unfold sizesP
    simp at c1
    simp
    omega
  have s2 : namedP st.vars r k = true := by
    unfold namedP
    rw [hr, hk.1]
    simpa using hk.2
  rw [s1, s2]
  rfl
end Go.Proofs.YthoneahamnmjlaaGreatDoor
