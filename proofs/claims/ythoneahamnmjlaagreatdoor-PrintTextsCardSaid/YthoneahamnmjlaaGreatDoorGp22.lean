/- The pattern of a text. -/
import Derived.Test.YthoneahamnmjlaaGreatDoorGp21
import Derived.Test.YthoneahamnmjlaaGreatDoorGp07
import Derived.Test.YthoneahamnmjlaaGreatDoorGp08
import Derived.Test.YthoneahamnmjlaaGreatDoorGp17
namespace Go.Proofs.YthoneahamnmjlaaGreatDoor
set_option maxRecDepth 100000
set_option maxHeartbeats 2000000
set_option linter.unusedSimpArgs false
open Go.RowKit Go.Shelf Go.Sort
attribute [local go_sem] Oper.semAt_some wide_fn wide_depth
set_option linter.unusedVariables false

/-- Where a token stands, or the end. -/
def placeOf (ys : List Tk) (n q : Nat) : Int := match ys[q]? with
  | some t => t.at_
  | none => n
def tokR (ys : List Tk) (n : Nat) : Except Nat Pat → Except Int Pat
  | .ok P => .ok P
  | .error q => .error (placeOf ys n q)
/-- What a text comes to: its pattern, or the place of what is wrong. -/
def ParsR (s : ByteArray) (r : Except Int Pat) : Prop := if (readF (bts s)).2.2 = 0 then ∃ x, ToksR (readF (bts s)).1 x ∧ r = tokR (readF (bts s)).1 s.size x else r = .error (readF (bts s)).2.1
def ParsQ (w : World) (s : ByteArray) (e : Ending) (w' : World) : Prop := ∃ r, ParsR s r ∧ Ext w w' ∧ match r with
  | .ok P => ∃ v, e = .returned (.tuple #[v, .int .i64 s.size, .int .i64 0]) ∧ PatIn w.heap.size w' v P
  | .error q => e = .returned (.tuple #[pnoV, .int .i64 q, .int .i64 260])
def groP6 : Nat → Gro
  | 0 => .read
  | 5 => .read
  | 7 => .grow
  | _ => .pure
set_option maxRecDepth 100000 in
set_option maxHeartbeats 2000000 in
theorem parse_any (s : ByteArray) (w : World) (hs : s.size ≤ 9223372036854775807) : Calls Tryz.prog 29 #[.string s] w (ParsQ w s) := by
  have hmo : Tryz.prog.follows .mixedOrders = true := by kernel_rfl
  have hx0 := Ext.alloc w (.cells #[.slice none 0 0, .slice none 0 0, .bool false, .bool false, .bool false, .int .i64 0, .int .i64 0, .slice none 0 0] 25)
  have hA : RowAt (w.alloc (.cells #[.slice none 0 0, .slice none 0 0, .bool false, .bool false, .bool false, .int .i64 0, .int .i64 0, .slice none 0 0] 25)) w.heap.size 25 [.slice none 0 0, .slice none 0 0, .bool false, .bool false, .bool false, .int .i64 0, .int .i64 0, .slice none 0 0] := RowAt.new _ _ _
  have HX := Lib.hid hx0
  have HA := Lib.hid hA
  have hsz : (w.alloc (.cells #[.slice none 0 0, .slice none 0 0, .bool false, .bool false, .bool false, .int .i64 0, .int .i64 0, .slice none 0 0] 25)).heap.size = w.heap.size + 1 := by simp
  have HSZ := Lib.hid hsz
  clear hx0 hA hsz
  have hcs := readF_cases (bts s)
  rw [bts_len] at hcs
  go_enter Tryz.func29, Tryz.ntmps29
  go_upto_region 1 with fail
  generalize (w.alloc (.cells #[.slice none 0 0, .slice none 0 0, .bool false, .bool false, .bool false, .int .i64 0, .int .i64 0, .slice none 0 0] 25)) = w1 at *
  obtain ⟨A, hA⟩ : ∃ A, w.heap.size = A := ⟨_, rfl⟩
  rw [hA] at HA HSZ
  simp only [hA]
  have HN := Lib.hid hA
  clear hA
  have HRD := Lib.hid (read_any s w1 hs)
  have hbad : ∀ at_ c, c ≠ 0 → readF (bts s) = ([], at_, c) → ParsR s (.error at_) := fun at_ c hc h => by
    unfold ParsR; rw [h]; rw [if_neg hc]
  have hcs2 : (∃ at_ c, c ≠ 0 ∧ readF (bts s) = ([], at_, c)) ∨ (s.size ≤ 500 ∧ ∃ l, readF (bts s) = (l, (s.size : Int), 0) ∧ l.length ≤ 500 ∧ ∀ t ∈ l, t.text.size ≤ s.size) := by
    rcases hcs with ⟨_, h⟩ | ⟨_, p, _, _, h⟩ | ⟨h5, l, h, hy, _, ht⟩
    · exact .inl ⟨_, _, by decide, h⟩
    · exact .inl ⟨_, _, by decide, h⟩
    · refine .inr ⟨h5, l, h, ?_, fun t htl => (ht t htl).2⟩
      have := yields_len (bts s)
      rw [bts_len] at this
      rw [hy]
      omega
  clear hcs
  rcases hcs2 with ⟨at_, c, hc, hr⟩ | ⟨h5, l, hr, hll, htl⟩
  · have HB := Lib.hid (hbad at_ c hc hr)
    rw [hr] at HRD
    have hcb : (c != 0) = true := by simp [hc]
    clear hr hbad hc
    go_wp2_with fail
    refine HRD.out.mono ?_
    rintro en w2 ⟨v, rfl, ho, hx2⟩
    dsimp only
    obtain ⟨va, vc, rfl⟩ := own_vw ho
    have HA2 := Lib.hid (HA.out.ext hx2)
    have HX2 := Lib.hid (HX.out.trans hx2)
    clear HRD ho hx2 HA HX
    go_upto_region 3 with fail
    apply wp_region_lit
    refine wpList_plain rfl fun K1 hK1 => ?_
    go_simp
    refine hK1 _ _ ?_
    clear hK1 K1
    refine wpList_plain rfl fun K1 hK1 => ?_
    go_simp
    refine hK1 _ _ ?_
    clear hK1 K1
    refine plain_store rfl _ _ _ rfl A [.slice none 0 0, .slice none 0 0, .bool false, .bool false, .bool false, .int .i64 0, .int .i64 0, .slice none 0 0] rfl rfl HA2.out (by kernel_rfl) rfl (by simp [Value.oneCell']) ?_
    have HA3 := Lib.hid (HA2.out.setRow [.slice none 0 0, .slice none 0 0, .bool false, .bool false, .bool false, .int .i64 0, .int .i64 0, .slice none 0 0])
    have HX3 := Lib.hid (show Ext w (w2.setRow A #[.slice none 0 0, .slice none 0 0, .bool false, .bool false, .bool false, .int .i64 0, .int .i64 0, .slice none 0 0]) from below_setRow HX2.out (Nat.le_of_eq HN.out) _)
    clear HA2 HX2
    generalize w2.setRow A #[.slice none 0 0, .slice none 0 0, .bool false, .bool false, .bool false, .int .i64 0, .int .i64 0, .slice none 0 0] = w3 at *
    go_simp
    refine wpList_plain rfl fun K1 hK1 => ?_
    go_simp
    refine hK1 _ _ ?_
    clear hK1 K1
    refine wpList_plain rfl fun K1 hK1 => ?_
    go_simp
    refine hK1 _ _ ?_
    clear hK1 K1
    apply wpList_nil
    go_wp2_with fail
    exact bodyPost_ret (results_row2 rfl rfl HA3.out Tryz.underlying25 rfl (by kernel_rfl)) rfl ⟨_, HB.out, HX3.out, rfl⟩
  · have hok : ∀ x, ToksR l x → ParsR s (tokR l s.size x) := fun x hx => by
      unfold ParsR; rw [hr]; rw [if_pos rfl]; exact ⟨x, hx, rfl⟩
    rw [hr] at HRD
    have HOK := Lib.hid hok
    have HTL := Lib.hid htl
    clear hr hbad hok htl
    go_wp2_with fail
    refine HRD.out.mono ?_
    rintro en w2 ⟨v, rfl, ho, hx2⟩
    dsimp only at ho ⊢
    have hto : Toks w2 v l := Sl.of_own ho
    have HTK := Lib.hid (tokens_go hto (by omega) (fun t ht => by have := HTL.out t ht; omega))
    have HTO := Lib.hid hto
    have HLO := Lib.hid (own_ge ho)
    obtain ⟨va, vc, rfl⟩ := own_vw ho
    have HA2 := Lib.hid (HA.out.ext hx2)
    have HX2 := Lib.hid (HX.out.trans hx2)
    clear HRD ho hx2 HA HX hto
    go_upto_region 4 with fail
    apply wp_region_lit
    refine wpList_plain rfl fun K1 hK1 => ?_
    go_simp
    refine hK1 _ _ ?_
    clear hK1 K1
    refine wpList_plain rfl fun K1 hK1 => ?_
    go_simp
    refine HTK.out.mono ?_
    rintro en w3 ⟨r, htr, hx3, hrr⟩
    have HTR := Lib.hid (HOK.out r htr)
    have HA3 := Lib.hid (HA2.out.ext hx3)
    have HX3 := Lib.hid (HX2.out.trans hx3)
    have HTO3 := Lib.hid (HTO.out.ext hx3)
    have hwle : w.heap.size ≤ w2.heap.size := HX2.out.size
    clear htr hx3 HTK HA2 HX2 HTO HOK
    cases r with
    | error q =>
      obtain ⟨hq, rfl⟩ := hrr
      unfold pnoV
      -- behind Tokens: the pattern's box
      go_simp
      refine hK1 _ _ ?_
      clear hK1 K1
      refine wpList_plain rfl fun K1 hK1 => ?_
      go_simp
      refine hK1 _ _ ?_
      clear hK1 K1
      refine wpList_plain rfl fun K1 hK1 => ?_
      go_simp
      refine hK1 _ _ ?_
      clear hK1 K1
      refine wpList_plain rfl fun K1 hK1 => ?_
      go_simp
      refine hK1 _ _ ?_
      clear hK1 K1
      refine wpList_plain rfl fun K1 hK1 => ?_
      go_simp
      refine hK1 _ _ ?_
      clear hK1 K1
      refine wpList_plain rfl fun K1 hK1 => ?_
      go_simp
      refine hK1 _ _ ?_
      clear hK1 K1
      have hx4 := Ext.alloc w3 (.cells #[.slice none 0 0, .slice none 0 0, .bool false, .bool false, .bool false, .int .i64 0, .int .i64 0, .slice none 0 0] 25)
      have HB4 := Lib.hid (show RowAt (w3.alloc (.cells #[.slice none 0 0, .slice none 0 0, .bool false, .bool false, .bool false, .int .i64 0, .int .i64 0, .slice none 0 0] 25)) w3.heap.size 25 [.slice none 0 0, .slice none 0 0, .bool false, .bool false, .bool false, .int .i64 0, .int .i64 0, .slice none 0 0] from RowAt.new _ _ _)
      have hab : A < w3.heap.size := (show RowAt w3 A 25 _ from HA3.out).lt
      have HA4 := Lib.hid (HA3.out.ext hx4)
      have HX4 := Lib.hid (HX3.out.trans hx4)
      generalize w3.alloc (.cells #[.slice none 0 0, .slice none 0 0, .bool false, .bool false, .bool false, .int .i64 0, .int .i64 0, .slice none 0 0] 25) = w4 at *
      obtain ⟨B, hB⟩ : ∃ B, w3.heap.size = B := ⟨_, rfl⟩
      rw [hB] at HB4 hab
      simp only [hB]
      have HBN := Lib.hid hB
      clear hB
      refine plain_store rfl _ _ _ rfl B [.slice none 0 0, .slice none 0 0, .bool false, .bool false, .bool false, .int .i64 0, .int .i64 0, .slice none 0 0] rfl rfl HB4.out (by kernel_rfl) rfl (by simp [patL, Value.oneCell']) ?_
      have hne : A ≠ B := by omega
      have HA5 := Lib.hid (show RowAt (w4.setRow B ([.slice none 0 0, .slice none 0 0, .bool false, .bool false, .bool false, .int .i64 0, .int .i64 0, .slice none 0 0]).toArray) A 25 [.slice none 0 0, .slice none 0 0, .bool false, .bool false, .bool false, .int .i64 0, .int .i64 0, .slice none 0 0] from (setRow_other w4 B A _ hne).trans HA4.out)
      have HTO5 := Lib.hid (HTO3.out.ext (show Ext w3 (w4.setRow B ([.slice none 0 0, .slice none 0 0, .bool false, .bool false, .bool false, .int .i64 0, .int .i64 0, .slice none 0 0]).toArray) from below_setRow hx4 (Nat.le_of_eq HBN.out) _))
      have HB5 := Lib.hid (HB4.out.setRow ([.slice none 0 0, .slice none 0 0, .bool false, .bool false, .bool false, .int .i64 0, .int .i64 0, .slice none 0 0]))
      have HX5 := Lib.hid (show Ext w (w4.setRow B ([.slice none 0 0, .slice none 0 0, .bool false, .bool false, .bool false, .int .i64 0, .int .i64 0, .slice none 0 0]).toArray) from below_setRow HX4.out (by have := HN.out; omega) _)
      clear HA4 HB4 HX4
      generalize w4.setRow B ([.slice none 0 0, .slice none 0 0, .bool false, .bool false, .bool false, .int .i64 0, .int .i64 0, .slice none 0 0]).toArray = w5 at *
      go_simp
      refine wpList_plain rfl fun K1 hK1 => ?_
      go_simp
      refine hK1 _ _ ?_
      clear hK1 K1
      refine wpList_plain rfl fun K1 hK1 => ?_
      go_simp
      refine hK1 _ _ ?_
      clear hK1 K1
      apply wpList_nil
      by_cases hlt : q < l.length
      · have hd : decide ((q : Int) < (l.length : Int)) = true := decide_eq_true (by omega)
        have hd2 : decide (q < l.length) = true := decide_eq_true hlt
        have hat : placeOf l s.size q = l[q].at_ := by unfold placeOf; rw [List.getElem?_eq_getElem hlt]
        obtain ⟨b, o, rfl, t0, t1, t2⟩ := HTO5.out.at_ hlt
        rw [← hat] at t2
        clear hat t0 t1
        generalize hpp : placeOf l s.size q = pp at *
        have HPP := Lib.hid hpp
        clear hpp
        go_upto_region 6 with fail
        refine wp_region_grox [A] groP6 [0, 1, 2, 3, 4, 5, 6, 7, 8, 9] hmo (by kernel_rfl) rfl (by kernel_rfl) (fun _ _ _ _ _ h => h) ?_
        have hxd : Ext w5 w5.drew := Ext.drewN w5 1
        have t3 := ext_cell hxd t2
        have HA6 := Lib.hid (HA5.out.ext hxd)
        have HB6 := Lib.hid (HB5.out.ext hxd)
        have HX6 := Lib.hid (HX5.out.trans hxd)
        have hBA : ¬ B ∈ [A] := by simp; omega
        have hbA : ¬ b = A := by
          have h1 := HLO.out b rfl
          have h2 := HSZ.out
          omega
        clear HA5 HB5 HX5 hxd t2 HTO5 HTO3
        generalize w5.drew = w6 at *
        refine groX_load rfl rfl rfl _ _ rfl B 0 rfl [.slice none 0 0, .slice none 0 0, .bool false, .bool false, .bool false, .int .i64 0, .int .i64 0, .slice none 0 0] _ HB6.out.whole hBA Tryz.underlying25 rfl (by kernel_rfl) ?_
        repeat (first
          | (refine groX_pure rfl rfl ?_; intro K hK; go_simp; refine hK _ ?_; clear hK K)
          | (refine groX_read rfl rfl ?_; intro K S hS hK; go_simp; refine hK _ ?_; clear hK K hS S)
          | (refine groX_read rfl rfl ?_; intro K S hS hK; go_simp; refine ⟨hS _ ?_, hK _ ?_⟩; (clear hK K hS S; intro w' hx'; have hce := grows_some hx'; go_simp); clear hK K hS S))
        refine groX_store rfl rfl rfl _ _ _ rfl A [.slice none 0 0, .slice none 0 0, .bool false, .bool false, .bool false, .int .i64 0, .int .i64 0, .slice none 0 0] rfl rfl HA6.out (by simp) (by kernel_rfl) rfl (by simp [Value.oneCell']) ?_
        have HA7 := Lib.hid (HA6.out.setRow [.slice none 0 0, .slice none 0 0, .bool false, .bool false, .bool false, .int .i64 0, .int .i64 0, .slice none 0 0])
        have HX7 := Lib.hid (show Ext w (w6.setRow A #[.slice none 0 0, .slice none 0 0, .bool false, .bool false, .bool false, .int .i64 0, .int .i64 0, .slice none 0 0]) from below_setRow HX6.out (Nat.le_of_eq HN.out) _)
        clear HA6 HB6 HX6 t3
        generalize w6.setRow A #[.slice none 0 0, .slice none 0 0, .bool false, .bool false, .bool false, .int .i64 0, .int .i64 0, .slice none 0 0] = w7 at *
        repeat (first
          | (refine groX_pure rfl rfl ?_; intro K hK; go_simp; refine hK _ ?_; clear hK K)
          | (refine groX_read rfl rfl ?_; intro K S hS hK; go_simp; refine hK _ ?_; clear hK K hS S)
          | (refine groX_read rfl rfl ?_; intro K S hS hK; go_simp; refine ⟨hS _ ?_, hK _ ?_⟩; (clear hK K hS S; intro w' hx'; have hce := grows_some hx'; go_simp); clear hK K hS S))
        refine groX_nil ?_
        go_wp2_with fail
        exact bodyPost_ret (results_row2 rfl rfl HA7.out Tryz.underlying25 rfl (by kernel_rfl)) rfl ⟨_, HTR.out, HX7.out, by rw [← HPP.out]; rfl⟩
      · have hd : decide ((q : Int) < (l.length : Int)) = false := decide_eq_false (by omega)
        have hd2 : decide (q < l.length) = false := decide_eq_false hlt
        have hat : placeOf l s.size q = s.size := by unfold placeOf; rw [List.getElem?_eq_none (by omega)]
        have HAT := Lib.hid hat
        clear hlt hat
        go_upto_region 7 with fail
        apply wp_region_lit
        refine plain_load rfl _ _ rfl B rfl [.slice none 0 0, .slice none 0 0, .bool false, .bool false, .bool false, .int .i64 0, .int .i64 0, .slice none 0 0] _ HB5.out Tryz.underlying25 rfl (by kernel_rfl) ?_
        go_simp
        refine wpList_plain rfl fun K1 hK1 => ?_
        go_simp
        refine hK1 _ _ ?_
        clear hK1 K1
        refine wpList_plain rfl fun K1 hK1 => ?_
        go_simp
        refine hK1 _ _ ?_
        clear hK1 K1
        refine wpList_plain rfl fun K1 hK1 => ?_
        go_simp
        refine hK1 _ _ ?_
        clear hK1 K1
        refine plain_store rfl _ _ _ rfl A [.slice none 0 0, .slice none 0 0, .bool false, .bool false, .bool false, .int .i64 0, .int .i64 0, .slice none 0 0] rfl rfl HA5.out (by kernel_rfl) rfl (by simp [patL, Value.oneCell']) ?_
        have HA6 := Lib.hid (HA5.out.setRow ([.slice none 0 0, .slice none 0 0, .bool false, .bool false, .bool false, .int .i64 0, .int .i64 0, .slice none 0 0]))
        have HX6 := Lib.hid (show Ext w (w5.setRow A ([.slice none 0 0, .slice none 0 0, .bool false, .bool false, .bool false, .int .i64 0, .int .i64 0, .slice none 0 0]).toArray) from below_setRow HX5.out (Nat.le_of_eq HN.out) _)
        clear HA5 HB5 HX5 HTO5 HTO3
        generalize w5.setRow A ([.slice none 0 0, .slice none 0 0, .bool false, .bool false, .bool false, .int .i64 0, .int .i64 0, .slice none 0 0]).toArray = w6 at *
        go_simp
        refine wpList_plain rfl fun K1 hK1 => ?_
        go_simp
        refine hK1 _ _ ?_
        clear hK1 K1
        refine wpList_plain rfl fun K1 hK1 => ?_
        go_simp
        refine hK1 _ _ ?_
        clear hK1 K1
        apply wpList_nil
        go_wp2_with fail
        exact bodyPost_ret (results_row2 rfl rfl HA6.out Tryz.underlying25 rfl (by kernel_rfl)) rfl ⟨_, HTR.out, HX6.out, by dsimp only [tokR]; rw [HAT.out]; rfl⟩
    | ok P =>
      obtain ⟨v, rfl, av, rv, hv, rfl, ho, hor, hoh⟩ := hrr
      obtain ⟨ava, avc, rfl⟩ := own_vw ho
      obtain ⟨rva, rvc, rfl⟩ := own_vw hor
      obtain ⟨hva, hvc, rfl⟩ := own_vw hoh
      have HO := Lib.hid ho
      have HOR := Lib.hid hor
      have HOH := Lib.hid hoh
      clear ho hor hoh
      unfold patV
      -- behind Tokens: the pattern's box
      go_simp
      refine hK1 _ _ ?_
      clear hK1 K1
      refine wpList_plain rfl fun K1 hK1 => ?_
      go_simp
      refine hK1 _ _ ?_
      clear hK1 K1
      refine wpList_plain rfl fun K1 hK1 => ?_
      go_simp
      refine hK1 _ _ ?_
      clear hK1 K1
      refine wpList_plain rfl fun K1 hK1 => ?_
      go_simp
      refine hK1 _ _ ?_
      clear hK1 K1
      refine wpList_plain rfl fun K1 hK1 => ?_
      go_simp
      refine hK1 _ _ ?_
      clear hK1 K1
      refine wpList_plain rfl fun K1 hK1 => ?_
      go_simp
      refine hK1 _ _ ?_
      clear hK1 K1
      have hx4 := Ext.alloc w3 (.cells #[.slice none 0 0, .slice none 0 0, .bool false, .bool false, .bool false, .int .i64 0, .int .i64 0, .slice none 0 0] 25)
      have HB4 := Lib.hid (show RowAt (w3.alloc (.cells #[.slice none 0 0, .slice none 0 0, .bool false, .bool false, .bool false, .int .i64 0, .int .i64 0, .slice none 0 0] 25)) w3.heap.size 25 [.slice none 0 0, .slice none 0 0, .bool false, .bool false, .bool false, .int .i64 0, .int .i64 0, .slice none 0 0] from RowAt.new _ _ _)
      have hab : A < w3.heap.size := (show RowAt w3 A 25 _ from HA3.out).lt
      have HA4 := Lib.hid (HA3.out.ext hx4)
      have HX4 := Lib.hid (HX3.out.trans hx4)
      generalize w3.alloc (.cells #[.slice none 0 0, .slice none 0 0, .bool false, .bool false, .bool false, .int .i64 0, .int .i64 0, .slice none 0 0] 25) = w4 at *
      obtain ⟨B, hB⟩ : ∃ B, w3.heap.size = B := ⟨_, rfl⟩
      rw [hB] at HB4 hab
      simp only [hB]
      have HBN := Lib.hid hB
      clear hB
      refine plain_store rfl _ _ _ rfl B (patL (.slice ava P.atoms.length avc) (.slice rva P.ret.length rvc) (.slice hva P.hint.length hvc) P) rfl rfl HB4.out (by kernel_rfl) rfl (by simp [patL, Value.oneCell']) ?_
      have hne : A ≠ B := by omega
      have HA5 := Lib.hid (show RowAt (w4.setRow B ((patL (.slice ava P.atoms.length avc) (.slice rva P.ret.length rvc) (.slice hva P.hint.length hvc) P)).toArray) A 25 [.slice none 0 0, .slice none 0 0, .bool false, .bool false, .bool false, .int .i64 0, .int .i64 0, .slice none 0 0] from (setRow_other w4 B A _ hne).trans HA4.out)
      have HTO5 := Lib.hid (HTO3.out.ext (show Ext w3 (w4.setRow B ((patL (.slice ava P.atoms.length avc) (.slice rva P.ret.length rvc) (.slice hva P.hint.length hvc) P)).toArray) from below_setRow hx4 (Nat.le_of_eq HBN.out) _))
      have HB5 := Lib.hid (HB4.out.setRow ((patL (.slice ava P.atoms.length avc) (.slice rva P.ret.length rvc) (.slice hva P.hint.length hvc) P)))
      have HX5 := Lib.hid (show Ext w (w4.setRow B ((patL (.slice ava P.atoms.length avc) (.slice rva P.ret.length rvc) (.slice hva P.hint.length hvc) P)).toArray) from below_setRow HX4.out (by have := HN.out; omega) _)
      have hxx : Ext w3 w4 := hx4
      have hgw := setRow_grown w4 B (patL (.slice ava P.atoms.length avc) (.slice rva P.ret.length rvc) (.slice hva P.hint.length hvc) P).toArray
      have HO5 := Lib.hid (own_turn (own_ext HO.out hxx) HB4.out (by decide) hgw)
      have HOR5 := Lib.hid (own_turn (own_ext HOR.out hxx) HB4.out (by decide) hgw)
      have HOH5 := Lib.hid (own_turn (own_ext HOH.out hxx) HB4.out (by decide) hgw)
      clear HA4 HB4 HX4 hxx hgw HO HOR HOH
      generalize w4.setRow B ((patL (.slice ava P.atoms.length avc) (.slice rva P.ret.length rvc) (.slice hva P.hint.length hvc) P)).toArray = w5 at *
      go_simp
      refine wpList_plain rfl fun K1 hK1 => ?_
      go_simp
      refine hK1 _ _ ?_
      clear hK1 K1
      refine wpList_plain rfl fun K1 hK1 => ?_
      go_simp
      refine hK1 _ _ ?_
      clear hK1 K1
      apply wpList_nil
      have hd : decide ((l.length : Int) < (l.length : Int)) = false := by simp
      have hd2 : decide (l.length < l.length) = false := by simp
      go_upto_region 7 with fail
      apply wp_region_lit
      refine plain_load rfl _ _ rfl B rfl (patL (.slice ava P.atoms.length avc) (.slice rva P.ret.length rvc) (.slice hva P.hint.length hvc) P) _ HB5.out Tryz.underlying25 rfl (by kernel_rfl) ?_
      go_simp
      refine wpList_plain rfl fun K1 hK1 => ?_
      go_simp
      refine hK1 _ _ ?_
      clear hK1 K1
      refine wpList_plain rfl fun K1 hK1 => ?_
      go_simp
      refine hK1 _ _ ?_
      clear hK1 K1
      refine wpList_plain rfl fun K1 hK1 => ?_
      go_simp
      refine hK1 _ _ ?_
      clear hK1 K1
      refine plain_store rfl _ _ _ rfl A (patL (.slice ava P.atoms.length avc) (.slice rva P.ret.length rvc) (.slice hva P.hint.length hvc) P) rfl rfl HA5.out (by kernel_rfl) rfl (by simp [patL, Value.oneCell']) ?_
      have HA6 := Lib.hid (HA5.out.setRow ((patL (.slice ava P.atoms.length avc) (.slice rva P.ret.length rvc) (.slice hva P.hint.length hvc) P)))
      have HX6 := Lib.hid (show Ext w (w5.setRow A ((patL (.slice ava P.atoms.length avc) (.slice rva P.ret.length rvc) (.slice hva P.hint.length hvc) P)).toArray) from below_setRow HX5.out (Nat.le_of_eq HN.out) _)
      have hgw := setRow_grown w5 A (patL (.slice ava P.atoms.length avc) (.slice rva P.ret.length rvc) (.slice hva P.hint.length hvc) P).toArray
      have HPI := Lib.hid (show PatIn w.heap.size (w5.setRow A (patL (.slice ava P.atoms.length avc) (.slice rva P.ret.length rvc) (.slice hva P.hint.length hvc) P).toArray) (patV (.slice ava P.atoms.length avc) (.slice rva P.ret.length rvc) (.slice hva P.hint.length hvc) P) P from ⟨_, _, _, rfl, own_base (own_turn HO5.out HA5.out (by decide) hgw) hwle, own_base (own_turn HOR5.out HA5.out (by decide) hgw) hwle, own_base (own_turn HOH5.out HA5.out (by decide) hgw) hwle⟩)
      clear HA5 HB5 HX5 HO5 HOR5 HOH5 hgw
      generalize w5.setRow A (patL (.slice ava P.atoms.length avc) (.slice rva P.ret.length rvc) (.slice hva P.hint.length hvc) P).toArray = w6 at *
      go_simp
      refine wpList_plain rfl fun K1 hK1 => ?_
      go_simp
      refine hK1 _ _ ?_
      clear hK1 K1
      refine wpList_plain rfl fun K1 hK1 => ?_
      go_simp
      refine hK1 _ _ ?_
      clear hK1 K1
      apply wpList_nil
      go_wp2_with fail
      exact bodyPost_ret (results_row2 rfl rfl HA6.out Tryz.underlying25 rfl (by kernel_rfl)) rfl ⟨_, HTR.out, HX6.out, _, rfl, HPI.out⟩
end Go.Proofs.YthoneahamnmjlaaGreatDoor

/- What the two texts come to by which the layer wakes: reckoned. -/
namespace Go.Proofs.YthoneahamnmjlaaGreatDoor
set_option maxRecDepth 100000
set_option maxHeartbeats 2000000
set_option linter.unusedSimpArgs false
set_option linter.unusedVariables false

theorem ParsR.same {s : ByteArray} {r r' : Except Int Pat} (h : ParsR s r) (h' : ParsR s r') : r = r' := by
  unfold ParsR at h h'
  split at h
  · rename_i hz
    rw [if_pos hz] at h'
    obtain ⟨x, h1, rfl⟩ := h
    obtain ⟨y, h2, rfl⟩ := h'
    rw [h1.same h2]
  · rename_i hz
    rw [if_neg hz] at h'
    rw [h, h']
theorem pars_of {s : ByteArray} (f : Nat) (x : Except Nat PS) (r : Except Int Pat) (h0 : (readF (bts s)).2.2 = 0) (h1 : itemsF (readF (bts s)).1 f 0 ⟨0, [], []⟩ = some x)
    (h2 : tokR (readF (bts s)).1 s.size (x.bind fun st => (toldP (readF (bts s)).1 st).bind fun (P, p) => if p < (readF (bts s)).1.length then .error p else .ok P) = r) : ParsR s r := by
  unfold ParsR
  rw [if_pos h0]
  exact ⟨_, ⟨x, ⟨f, h1⟩, rfl⟩, h2.symm⟩
end Go.Proofs.YthoneahamnmjlaaGreatDoor

/- Does the layer do anything? It does. -/
namespace Go.Proofs.YthoneahamnmjlaaGreatDoor
set_option maxRecDepth 100000
set_option maxHeartbeats 2000000
set_option linter.unusedSimpArgs false
open Go.RowKit Go.Shelf Go.Sort
attribute [local go_sem] Oper.semAt_some wide_fn wide_depth
set_option linter.unusedVariables false

theorem PatIn.at_ {B : Nat} {W : World} {v : Value} {P : Pat} (h : PatIn B W v P) : PatAt W v P := by
  obtain ⟨av, rv, hv, e, h1, h2, h3⟩ := h
  exact ⟨av, rv, hv, e, Sl.of_own h1, Sl.of_own h2, Sl.of_own h3⟩
end Go.Proofs.YthoneahamnmjlaaGreatDoor
