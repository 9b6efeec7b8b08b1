/- The pattern of a text. -/
import Derived.Test.YtngnplghjaojhaaGp23
import Derived.Test.YtngnplghjaojhaaGp06
import Derived.Test.YtngnplghjaojhaaGp09
import Derived.Test.YtngnplghjaojhaaGp19
import Derived.Test.YtngnplghjaojhaaGp07
import Derived.Test.YtngnplghjaojhaaGp18
namespace Go.Proofs.Ytngnplghjaojhaa
set_option maxRecDepth 100000
set_option maxHeartbeats 2000000
set_option linter.unusedSimpArgs false
open Go.RowKit Go.Shelf Go.Sort
attribute [local go_sem] Oper.semAt_some wide_fn wide_depth
set_option linter.unusedVariables false

/-- Where a token stands, or the end. -/
def placeOf (ys : List Tk) (n q : Nat) : Int := match ys[q]? with
  | some t => t.at_
  | none => n
def tokR (ys : List Tk) (n : Nat) : Except Nat Pat → Except Int Pat
  | .ok P => .ok P
  | .error q => .error (placeOf ys n q)
/-- What a text comes to: its pattern, or the place of what is wrong. -/
def ParsR (s : ByteArray) (r : Except Int Pat) : Prop := if (readF (bts s)).2.2 = 0 then ∃ x, ToksR (readF (bts s)).1 x ∧ r = tokR (readF (bts s)).1 s.size x else r = .error (readF (bts s)).2.1
def ParsQ (w : World) (s : ByteArray) (e : Ending) (w' : World) : Prop := ∃ r, ParsR s r ∧ Ext w w' ∧ match r with
  | .ok P => ∃ v, e = .returned (.tuple #[v, .int .i64 s.size, .int .i64 0]) ∧ PatIn w.heap.size w' v P
  | .error q => e = .returned (.tuple #[pnoV, .int .i64 q, .int .i64 260])
def groP6 : Nat → Gro
  | 0 => .read
  | 5 => .read
  | 7 => .grow
  | _ => .pure
set_option maxRecDepth 100000 in
set_option maxHeartbeats 2000000 in
theorem parse_any (s : ByteArray) (w : World) (hs : s.size ≤ 9223372036854775807) : Calls Try.prog 10 #[.string s] w (ParsQ w s) := by
  have hmo : Try.prog.follows .mixedOrders = true := by kernel_rfl
  have hx0 := Ext.alloc w (.cells #[.slice none 0 0, .slice none 0 0, .bool false, .bool false, .bool false, .int .i64 0, .int .i64 0, .slice none 0 0] 26)
  have hA : RowAt (w.alloc (.cells #[.slice none 0 0, .slice none 0 0, .bool false, .bool false, .bool false, .int .i64 0, .int .i64 0, .slice none 0 0] 26)) w.heap.size 26 [.slice none 0 0, .slice none 0 0, .bool false, .bool false, .bool false, .int .i64 0, .int .i64 0, .slice none 0 0] := RowAt.new _ _ _
  have HX := Lib.hid hx0
  have HA := Lib.hid hA
  have hsz : (w.alloc (.cells #[.slice none 0 0, .slice none 0 0, .bool false, .bool false, .bool false, .int .i64 0, .int .i64 0, .slice none 0 0] 26)).heap.size = w.heap.size + 1 := by simp
  have HSZ := Lib.hid hsz
  clear hx0 hA hsz
  have hcs := readF_cases (bts s)
  rw [bts_len] at hcs
  go_enter Try.func10, Try.ntmps10
  go_upto_region 1 with fail
  generalize (w.alloc (.cells #[.slice none 0 0, .slice none 0 0, .bool false, .bool false, .bool false, .int .i64 0, .int .i64 0, .slice none 0 0] 26)) = w1 at *
  obtain ⟨A, hA⟩ : ∃ A, w.heap.size = A := ⟨_, rfl⟩
  rw [hA] at HA HSZ
  simp only [hA]
  have HN := Lib.hid hA
  clear hA
  have HRD := Lib.hid (read_any s w1 hs)
  have hbad : ∀ at_ c, c ≠ 0 → readF (bts s) = ([], at_, c) → ParsR s (.error at_) := fun at_ c hc h => by
    unfold ParsR; rw [h]; rw [if_neg hc]
  have hcs2 : (∃ at_ c, c ≠ 0 ∧ readF (bts s) = ([], at_, c)) ∨ (s.size ≤ 500 ∧ ∃ l, readF (bts s) = (l, (s.size : Int), 0) ∧ l.length ≤ 500 ∧ ∀ t ∈ l, t.text.size ≤ s.size) := by
    rcases hcs with ⟨_, h⟩ | ⟨_, p, _, _, h⟩ | ⟨h5, l, h, hy, _, ht⟩
    · exact .inl ⟨_, _, by decide, h⟩
    · exact .inl ⟨_, _, by decide, h⟩
    · refine .inr ⟨h5, l, h, ?_, fun t htl => (ht t htl).2⟩
      have := yields_len (bts s)
      rw [bts_len] at this
      rw [hy]
      omega
  clear hcs
  rcases hcs2 with ⟨at_, c, hc, hr⟩ | ⟨h5, l, hr, hll, htl⟩
  · have HB := Lib.hid (hbad at_ c hc hr)
    rw [hr] at HRD
    have hcb : (c != 0) = true := by simp [hc]
    clear hr hbad hc
    go_wp2_with fail
    refine HRD.out.mono ?_
    rintro en w2 ⟨v, rfl, ho, hx2⟩
    dsimp only
    obtain ⟨va, vc, rfl⟩ := own_vw ho
    have HA2 := Lib.hid (HA.out.ext hx2)
    have HX2 := Lib.hid (HX.out.trans hx2)
    clear HRD ho hx2 HA HX
    go_upto_region 3 with fail
    apply wp_region_lit
    refine wpList_plain rfl fun K1 hK1 => ?_
    go_simp
    refine hK1 _ _ ?_
    clear hK1 K1
    refine wpList_plain rfl fun K1 hK1 => ?_
    go_simp
    refine hK1 _ _ ?_
    clear hK1 K1
    refine plain_store rfl _ _ _ rfl A [.slice none 0 0, .slice none 0 0, .bool false, .bool false, .bool false, .int .i64 0, .int .i64 0, .slice none 0 0] rfl rfl HA2.out (by kernel_rfl) rfl (by simp [Value.oneCell']) ?_
    have HA3 := Lib.hid (HA2.out.setRow [.slice none 0 0, .slice none 0 0, .bool false, .bool false, .bool false, .int .i64 0, .int .i64 0, .slice none 0 0])
    have HX3 := Lib.hid (show Ext w (w2.setRow A #[.slice none 0 0, .slice none 0 0, .bool false, .bool false, .bool false, .int .i64 0, .int .i64 0, .slice none 0 0]) from below_setRow HX2.out (Nat.le_of_eq HN.out) _)
    clear HA2 HX2
    generalize w2.setRow A #[.slice none 0 0, .slice none 0 0, .bool false, .bool false, .bool false, .int .i64 0, .int .i64 0, .slice none 0 0] = w3 at *
    go_simp
    refine wpList_plain rfl fun K1 hK1 => ?_
    go_simp
    refine hK1 _ _ ?_
    clear hK1 K1
    refine wpList_plain rfl fun K1 hK1 => ?_
    go_simp
    refine hK1 _ _ ?_
    clear hK1 K1
    apply wpList_nil
    go_wp2_with fail
    exact bodyPost_ret (results_row2 rfl rfl HA3.out Try.underlying26 rfl (by kernel_rfl)) rfl ⟨_, HB.out, HX3.out, rfl⟩
  · have hok : ∀ x, ToksR l x → ParsR s (tokR l s.size x) := fun x hx => by
      unfold ParsR; rw [hr]; rw [if_pos rfl]; exact ⟨x, hx, rfl⟩
    rw [hr] at HRD
    have HOK := Lib.hid hok
    have HTL := Lib.hid htl
    clear hr hbad hok htl
    go_wp2_with fail
    refine HRD.out.mono ?_
    rintro en w2 ⟨v, rfl, ho, hx2⟩
    dsimp only at ho ⊢
    have hto : Toks w2 v l := Sl.of_own ho
    have HTK := Lib.hid (tokens_go hto (by omega) (fun t ht => by have := HTL.out t ht; omega))
    have HTO := Lib.hid hto
    have HLO := Lib.hid (own_ge ho)
    obtain ⟨va, vc, rfl⟩ := own_vw ho
    have HA2 := Lib.hid (HA.out.ext hx2)
    have HX2 := Lib.hid (HX.out.trans hx2)
    clear HRD ho hx2 HA HX hto
    go_upto_region 4 with fail
    apply wp_region_lit
    refine wpList_plain rfl fun K1 hK1 => ?_
    go_simp
    refine hK1 _ _ ?_
    clear hK1 K1
    refine wpList_plain rfl fun K1 hK1 => ?_
    go_simp
    refine HTK.out.mono ?_
    rintro en w3 ⟨r, htr, hx3, hrr⟩
    have HTR := Lib.hid (HOK.out r htr)
    have HA3 := Lib.hid (HA2.out.ext hx3)
    have HX3 := Lib.hid (HX2.out.trans hx3)
    have HTO3 := Lib.hid (HTO.out.ext hx3)
    have hwle : w.heap.size ≤ w2.heap.size := HX2.out.size
    clear htr hx3 HTK HA2 HX2 HTO HOK
    cases r with
    | error q =>
      obtain ⟨hq, rfl⟩ := hrr
      unfold pnoV
      -- behind Tokens: the pattern's box
      go_simp
      refine hK1 _ _ ?_
      clear hK1 K1
      refine wpList_plain rfl fun K1 hK1 => ?_
      go_simp
      refine hK1 _ _ ?_
      clear hK1 K1
      refine wpList_plain rfl fun K1 hK1 => ?_
      go_simp
      refine hK1 _ _ ?_
      clear hK1 K1
      refine wpList_plain rfl fun K1 hK1 => ?_
      go_simp
      refine hK1 _ _ ?_
      clear hK1 K1
      refine wpList_plain rfl fun K1 hK1 => ?_
      go_simp
      refine hK1 _ _ ?_
      clear hK1 K1
      refine wpList_plain rfl fun K1 hK1 => ?_
      go_simp
      refine hK1 _ _ ?_
      clear hK1 K1
      have hx4 := Ext.alloc w3 (.cells #[.slice none 0 0, .slice none 0 0, .bool false, .bool false, .bool false, .int .i64 0, .int .i64 0, .slice none 0 0] 26)
      have HB4 := Lib.hid (show RowAt (w3.alloc (.cells #[.slice none 0 0, .slice none 0 0, .bool false, .bool false, .bool false, .int .i64 0, .int .i64 0, .slice none 0 0] 26)) w3.heap.size 26 [.slice none 0 0, .slice none 0 0, .bool false, .bool false, .bool false, .int .i64 0, .int .i64 0, .slice none 0 0] from RowAt.new _ _ _)
      have hab : A < w3.heap.size := (show RowAt w3 A 26 _ from HA3.out).lt
      have HA4 := Lib.hid (HA3.out.ext hx4)
      have HX4 := Lib.hid (HX3.out.trans hx4)
      generalize w3.alloc (.cells #[.slice none 0 0, .slice none 0 0, .bool false, .bool false, .bool false, .int .i64 0, .int .i64 0, .slice none 0 0] 26) = w4 at *
      obtain ⟨B, hB⟩ : ∃ B, w3.heap.size = B := ⟨_, rfl⟩
      rw [hB] at HB4 hab
      simp only [hB]
      have HBN := Lib.hid hB
      clear hB
      refine plain_store rfl _ _ _ rfl B [.slice none 0 0, .slice none 0 0, .bool false, .bool false, .bool false, .int .i64 0, .int .i64 0, .slice none 0 0] rfl rfl HB4.out (by kernel_rfl) rfl (by simp [patL, Value.oneCell']) ?_
      have hne : A ≠ B := by omega
      have HA5 := Lib.hid (show RowAt (w4.setRow B ([.slice none 0 0, .slice none 0 0, .bool false, .bool false, .bool false, .int .i64 0, .int .i64 0, .slice none 0 0]).toArray) A 26 [.slice none 0 0, .slice none 0 0, .bool false, .bool false, .bool false, .int .i64 0, .int .i64 0, .slice none 0 0] from (setRow_other w4 B A _ hne).trans HA4.out)
      have HTO5 := Lib.hid (HTO3.out.ext (show Ext w3 (w4.setRow B ([.slice none 0 0, .slice none 0 0, .bool false, .bool false, .bool false, .int .i64 0, .int .i64 0, .slice none 0 0]).toArray) from below_setRow hx4 (Nat.le_of_eq HBN.out) _))
      have HB5 := Lib.hid (HB4.out.setRow ([.slice none 0 0, .slice none 0 0, .bool false, .bool false, .bool false, .int .i64 0, .int .i64 0, .slice none 0 0]))
      have HX5 := Lib.hid (show Ext w (w4.setRow B ([.slice none 0 0, .slice none 0 0, .bool false, .bool false, .bool false, .int .i64 0, .int .i64 0, .slice none 0 0]).toArray) from below_setRow HX4.out (by have := HN.out; omega) _)
      clear HA4 HB4 HX4
      generalize w4.setRow B ([.slice none 0 0, .slice none 0 0, .bool false, .bool false, .bool false, .int .i64 0, .int .i64 0, .slice none 0 0]).toArray = w5 at *
      go_simp
      refine wpList_plain rfl fun K1 hK1 => ?_
      go_simp
      refine hK1 _ _ ?_
      clear hK1 K1
      refine wpList_plain rfl fun K1 hK1 => ?_
      go_simp
      refine hK1 _ _ ?_
      clear hK1 K1
      apply wpList_nil
      by_cases hlt : q < l.length
      · have hd : decide ((q : Int) < (l.length : Int)) = true := decide_eq_true (by omega)
        have hd2 : decide (q < l.length) = true := decide_eq_true hlt
        have hat : placeOf l s.size q = l[q].at_ := by unfold placeOf; rw [List.getElem?_eq_getElem hlt]
        obtain ⟨b, o, rfl, t0, t1, t2⟩ := HTO5.out.at_ hlt
        rw [← hat] at t2
        clear hat t0 t1
        generalize hpp : placeOf l s.size q = pp at *
        have HPP := Lib.hid hpp
        clear hpp
        go_upto_region 6 with fail
        refine wp_region_grox [A] groP6 [0, 1, 2, 3, 4, 5, 6, 7, 8, 9] hmo (by kernel_rfl) rfl (by kernel_rfl) (fun _ _ _ _ _ h => h) ?_
        have hxd : Ext w5 w5.drew := Ext.drewN w5 1
        have t3 := ext_cell hxd t2
        have HA6 := Lib.hid (HA5.out.ext hxd)
        have HB6 := Lib.hid (HB5.out.ext hxd)
        have HX6 := Lib.hid (HX5.out.trans hxd)
        have hBA : ¬ B ∈ [A] := by simp; omega
        have hbA : ¬ b = A := by
          have h1 := HLO.out b rfl
          have h2 := HSZ.out
          omega
        clear HA5 HB5 HX5 hxd t2 HTO5 HTO3
        generalize w5.drew = w6 at *
        refine groX_load rfl rfl rfl _ _ rfl B 0 rfl [.slice none 0 0, .slice none 0 0, .bool false, .bool false, .bool false, .int .i64 0, .int .i64 0, .slice none 0 0] _ HB6.out.whole hBA Try.underlying26 rfl (by kernel_rfl) ?_
        repeat (first
          | (refine groX_pure rfl rfl ?_; intro K hK; go_simp; refine hK _ ?_; clear hK K)
          | (refine groX_read rfl rfl ?_; intro K S hS hK; go_simp; refine hK _ ?_; clear hK K hS S)
          | (refine groX_read rfl rfl ?_; intro K S hS hK; go_simp; refine ⟨hS _ ?_, hK _ ?_⟩; (clear hK K hS S; intro w' hx'; have hce := grows_some hx'; go_simp); clear hK K hS S))
        refine groX_store rfl rfl rfl _ _ _ rfl A [.slice none 0 0, .slice none 0 0, .bool false, .bool false, .bool false, .int .i64 0, .int .i64 0, .slice none 0 0] rfl rfl HA6.out (by simp) (by kernel_rfl) rfl (by simp [Value.oneCell']) ?_
        have HA7 := Lib.hid (HA6.out.setRow [.slice none 0 0, .slice none 0 0, .bool false, .bool false, .bool false, .int .i64 0, .int .i64 0, .slice none 0 0])
        have HX7 := Lib.hid (show Ext w (w6.setRow A #[.slice none 0 0, .slice none 0 0, .bool false, .bool false, .bool false, .int .i64 0, .int .i64 0, .slice none 0 0]) from below_setRow HX6.out (Nat.le_of_eq HN.out) _)
        clear HA6 HB6 HX6 t3
        generalize w6.setRow A #[.slice none 0 0, .slice none 0 0, .bool false, .bool false, .bool false, .int .i64 0, .int .i64 0, .slice none 0 0] = w7 at *
        repeat (first
          | (refine groX_pure rfl rfl ?_; intro K hK; go_simp; refine hK _ ?_; clear hK K)
          | (refine groX_read rfl rfl ?_; intro K S hS hK; go_simp; refine hK _ ?_; clear hK K hS S)
          | (refine groX_read rfl rfl ?_; intro K S hS hK; go_simp; refine ⟨hS _ ?_, hK _ ?_⟩; (clear hK K hS S; intro w' hx'; have hce := grows_some hx'; go_simp); clear hK K hS S))
        refine groX_nil ?_
        go_wp2_with fail
        exact bodyPost_ret (results_row2 rfl rfl HA7.out Try.underlying26 rfl (by kernel_rfl)) rfl ⟨_, HTR.out, HX7.out, by rw [← HPP.out]; rfl⟩
      · have hd : decide ((q : Int) < (l.length : Int)) = false := decide_eq_false (by omega)
        have hd2 : decide (q < l.length) = false := decide_eq_false hlt
        have hat : placeOf l s.size q = s.size := by unfold placeOf; rw [List.getElem?_eq_none (by omega)]
        have HAT := Lib.hid hat
        clear hlt hat
        go_upto_region 7 with fail
        apply wp_region_lit
        refine plain_load rfl _ _ rfl B rfl [.slice none 0 0, .slice none 0 0, .bool false, .bool false, .bool false, .int .i64 0, .int .i64 0, .slice none 0 0] _ HB5.out Try.underlying26 rfl (by kernel_rfl) ?_
        go_simp
        refine wpList_plain rfl fun K1 hK1 => ?_
        go_simp
        refine hK1 _ _ ?_
        clear hK1 K1
        refine wpList_plain rfl fun K1 hK1 => ?_
        go_simp
        refine hK1 _ _ ?_
        clear hK1 K1
        refine wpList_plain rfl fun K1 hK1 => ?_
        go_simp
        refine hK1 _ _ ?_
        clear hK1 K1
        refine plain_store rfl _ _ _ rfl A [.slice none 0 0, .slice none 0 0, .bool false, .bool false, .bool false, .int .i64 0, .int .i64 0, .slice none 0 0] rfl rfl HA5.out (by kernel_rfl) rfl (by simp [patL, Value.oneCell']) ?_
        have HA6 := Lib.hid (HA5.out.setRow ([.slice none 0 0, .slice none 0 0, .bool false, .bool false, .bool false, .int .i64 0, .int .i64 0, .slice none 0 0]))
        have HX6 := Lib.hid (show Ext w (w5.setRow A ([.slice none 0 0, .slice none 0 0, .bool false, .bool false, .bool false, .int .i64 0, .int .i64 0, .slice none 0 0]).toArray) from below_setRow HX5.out (Nat.le_of_eq HN.out) _)
        clear HA5 HB5 HX5 HTO5 HTO3
        generalize w5.setRow A ([.slice none 0 0, .slice none 0 0, .bool false, .bool false, .bool false, .int .i64 0, .int .i64 0, .slice none 0 0]).toArray = w6 at *
        go_simp
        refine wpList_plain rfl fun K1 hK1 => ?_
        go_simp
        refine hK1 _ _ ?_
        clear hK1 K1
        refine wpList_plain rfl fun K1 hK1 => ?_
        go_simp
        refine hK1 _ _ ?_
        clear hK1 K1
        apply wpList_nil
        go_wp2_with fail
        exact bodyPost_ret (results_row2 rfl rfl HA6.out Try.underlying26 rfl (by kernel_rfl)) rfl ⟨_, HTR.out, HX6.out, by dsimp only [tokR]; rw [HAT.out]; rfl⟩
    | ok P =>
      obtain ⟨v, rfl, av, rv, hv, rfl, ho, hor, hoh⟩ := hrr
      obtain ⟨ava, avc, rfl⟩ := own_vw ho
      obtain ⟨rva, rvc, rfl⟩ := own_vw hor
      obtain ⟨hva, hvc, rfl⟩ := own_vw hoh
      have HO := Lib.hid ho
      have HOR := Lib.hid hor
      have HOH := Lib.hid hoh
      clear ho hor hoh
      unfold patV
      -- behind Tokens: the pattern's box
      go_simp
      refine hK1 _ _ ?_
      clear hK1 K1
      refine wpList_plain rfl fun K1 hK1 => ?_
      go_simp
      refine hK1 _ _ ?_
      clear hK1 K1
      refine wpList_plain rfl fun K1 hK1 => ?_
      go_simp
      refine hK1 _ _ ?_
      clear hK1 K1
      refine wpList_plain rfl fun K1 hK1 => ?_
      go_simp
      refine hK1 _ _ ?_
      clear hK1 K1
      refine wpList_plain rfl fun K1 hK1 => ?_
      go_simp
      refine hK1 _ _ ?_
      clear hK1 K1
      refine wpList_plain rfl fun K1 hK1 => ?_
      go_simp
      refine hK1 _ _ ?_
      clear hK1 K1
      have hx4 := Ext.alloc w3 (.cells #[.slice none 0 0, .slice none 0 0, .bool false, .bool false, .bool false, .int .i64 0, .int .i64 0, .slice none 0 0] 26)
      have HB4 := Lib.hid (show RowAt (w3.alloc (.cells #[.slice none 0 0, .slice none 0 0, .bool false, .bool false, .bool false, .int .i64 0, .int .i64 0, .slice none 0 0] 26)) w3.heap.size 26 [.slice none 0 0, .slice none 0 0, .bool false, .bool false, .bool false, .int .i64 0, .int .i64 0, .slice none 0 0] from RowAt.new _ _ _)
      have hab : A < w3.heap.size := (show RowAt w3 A 26 _ from HA3.out).lt
      have HA4 := Lib.hid (HA3.out.ext hx4)
      have HX4 := Lib.hid (HX3.out.trans hx4)
      generalize w3.alloc (.cells #[.slice none 0 0, .slice none 0 0, .bool false, .bool false, .bool false, .int .i64 0, .int .i64 0, .slice none 0 0] 26) = w4 at *
      obtain ⟨B, hB⟩ : ∃ B, w3.heap.size = B := ⟨_, rfl⟩
      rw [hB] at HB4 hab
      simp only [hB]
      have HBN := Lib.hid hB
      clear hB
      refine plain_store rfl _ _ _ rfl B (patL (.slice ava P.atoms.length avc) (.slice rva P.ret.length rvc) (.slice hva P.hint.length hvc) P) rfl rfl HB4.out (by kernel_rfl) rfl (by simp [patL, Value.oneCell']) ?_
      have hne : A ≠ B := by omega
      have HA5 := Lib.hid (show RowAt (w4.setRow B ((patL (.slice ava P.atoms.length avc) (.slice rva P.ret.length rvc) (.slice hva P.hint.length hvc) P)).toArray) A 26 [.slice none 0 0, .slice none 0 0, .bool false, .bool false, .bool false, .int .i64 0, .int .i64 0, .slice none 0 0] from (setRow_other w4 B A _ hne).trans HA4.out)
      have HTO5 := Lib.hid (HTO3.out.ext (show Ext w3 (w4.setRow B ((patL (.slice ava P.atoms.length avc) (.slice rva P.ret.length rvc) (.slice hva P.hint.length hvc) P)).toArray) from below_setRow hx4 (Nat.le_of_eq HBN.out) _))
      have HB5 := Lib.hid (HB4.out.setRow ((patL (.slice ava P.atoms.length avc) (.slice rva P.ret.length rvc) (.slice hva P.hint.length hvc) P)))
      have HX5 := Lib.hid (show Ext w (w4.setRow B ((patL (.slice ava P.atoms.length avc) (.slice rva P.ret.length rvc) (.slice hva P.hint.length hvc) P)).toArray) from below_setRow HX4.out (by have := HN.out; omega) _)
      have hxx : Ext w3 w4 := hx4
      have hgw := setRow_grown w4 B (patL (.slice ava P.atoms.length avc) (.slice rva P.ret.length rvc) (.slice hva P.hint.length hvc) P).toArray
      have HO5 := Lib.hid (own_turn (own_ext HO.out hxx) HB4.out (by decide) hgw)
      have HOR5 := Lib.hid (own_turn (own_ext HOR.out hxx) HB4.out (by decide) hgw)
      have HOH5 := Lib.hid (own_turn (own_ext HOH.out hxx) HB4.out (by decide) hgw)
      clear HA4 HB4 HX4 hxx hgw HO HOR HOH
      generalize w4.setRow B ((patL (.slice ava P.atoms.length avc) (.slice rva P.ret.length rvc) (.slice hva P.hint.length hvc) P)).toArray = w5 at *
      go_simp
      refine wpList_plain rfl fun K1 hK1 => ?_
      go_simp
      refine hK1 _ _ ?_
      clear hK1 K1
      refine wpList_plain rfl fun K1 hK1 => ?_
      go_simp
      refine hK1 _ _ ?_
      clear hK1 K1
      apply wpList_nil
      have hd : decide ((l.length : Int) < (l.length : Int)) = false := by simp
      have hd2 : decide (l.length < l.length) = false := by simp
      go_upto_region 7 with fail
      apply wp_region_lit
      refine plain_load rfl _ _ rfl B rfl (patL (.slice ava P.atoms.length avc) (.slice rva P.ret.length rvc) (.slice hva P.hint.length hvc) P) _ HB5.out Try.underlying26 rfl (by kernel_rfl) ?_
      go_simp
      refine wpList_plain rfl fun K1 hK1 => ?_
      go_simp
      refine hK1 _ _ ?_
      clear hK1 K1
      refine wpList_plain rfl fun K1 hK1 => ?_
      go_simp
      refine hK1 _ _ ?_
      clear hK1 K1
      refine wpList_plain rfl fun K1 hK1 => ?_
      go_simp
      refine hK1 _ _ ?_
      clear hK1 K1
      refine plain_store rfl _ _ _ rfl A (patL (.slice ava P.atoms.length avc) (.slice rva P.ret.length rvc) (.slice hva P.hint.length hvc) P) rfl rfl HA5.out (by kernel_rfl) rfl (by simp [patL, Value.oneCell']) ?_
      have HA6 := Lib.hid (HA5.out.setRow ((patL (.slice ava P.atoms.length avc) (.slice rva P.ret.length rvc) (.slice hva P.hint.length hvc) P)))
      have HX6 := Lib.hid (show Ext w (w5.setRow A ((patL (.slice ava P.atoms.length avc) (.slice rva P.ret.length rvc) (.slice hva P.hint.length hvc) P)).toArray) from below_setRow HX5.out (Nat.le_of_eq HN.out) _)
      have hgw := setRow_grown w5 A (patL (.slice ava P.atoms.length avc) (.slice rva P.ret.length rvc) (.slice hva P.hint.length hvc) P).toArray
      have HPI := Lib.hid (show PatIn w.heap.size (w5.setRow A (patL (.slice ava P.atoms.length avc) (.slice rva P.ret.length rvc) (.slice hva P.hint.length hvc) P).toArray) (patV (.slice ava P.atoms.length avc) (.slice rva P.ret.length rvc) (.slice hva P.hint.length hvc) P) P from ⟨_, _, _, rfl, own_base (own_turn HO5.out HA5.out (by decide) hgw) hwle, own_base (own_turn HOR5.out HA5.out (by decide) hgw) hwle, own_base (own_turn HOH5.out HA5.out (by decide) hgw) hwle⟩)
      clear HA5 HB5 HX5 HO5 HOR5 HOH5 hgw
      generalize w5.setRow A (patL (.slice ava P.atoms.length avc) (.slice rva P.ret.length rvc) (.slice hva P.hint.length hvc) P).toArray = w6 at *
      go_simp
      refine wpList_plain rfl fun K1 hK1 => ?_
      go_simp
      refine hK1 _ _ ?_
      clear hK1 K1
      refine wpList_plain rfl fun K1 hK1 => ?_
      go_simp
      refine hK1 _ _ ?_
      clear hK1 K1
      apply wpList_nil
      go_wp2_with fail
      exact bodyPost_ret (results_row2 rfl rfl HA6.out Try.underlying26 rfl (by kernel_rfl)) rfl ⟨_, HTR.out, HX6.out, _, rfl, HPI.out⟩
end Go.Proofs.Ytngnplghjaojhaa

/- What the two texts come to by which the layer wakes: reckoned. -/
namespace Go.Proofs.Ytngnplghjaojhaa
set_option maxRecDepth 100000
set_option maxHeartbeats 2000000
set_option linter.unusedSimpArgs false
set_option linter.unusedVariables false

theorem ParsR.same {s : ByteArray} {r r' : Except Int Pat} (h : ParsR s r) (h' : ParsR s r') : r = r' := by
  unfold ParsR at h h'
  split at h
  · rename_i hz
    rw [if_pos hz] at h'
    obtain ⟨x, h1, rfl⟩ := h
    obtain ⟨y, h2, rfl⟩ := h'
    rw [h1.same h2]
  · rename_i hz
    rw [if_neg hz] at h'
    rw [h, h']
def wkS : ByteArray := ⟨#[40, 120, 41, 45, 91, 107, 110, 111, 119, 115, 93, 45, 62, 40, 121, 41, 44, 32, 40, 40, 120, 58, 112, 41, 44, 32, 40, 121, 46, 97, 103, 101, 61, 34, 55, 34, 41, 41, 32, 114, 101, 116, 117, 114, 110, 32, 121, 32, 108, 105, 109, 105, 116, 32, 51]⟩
def wkX : ByteArray := ⟨#[120]⟩
def wkY : ByteArray := ⟨#[121]⟩
def wkP : Pat := ⟨[⟨4, false, wkX, ⟨#[107, 110, 111, 119, 115]⟩, nilB, false, wkY⟩, ⟨2, false, wkX, ⟨#[112]⟩, nilB, false, nilB⟩, ⟨3, false, wkY, ⟨#[97, 103, 101]⟩, ⟨#[55]⟩, false, nilB⟩], [wkY], false, false, true, 3, 0, []⟩
def wkT : ByteArray := ⟨#[40, 120, 41, 32, 114, 101, 116, 117, 114, 110, 32, 121]⟩
theorem pars_of {s : ByteArray} (f : Nat) (x : Except Nat PS) (r : Except Int Pat) (h0 : (readF (bts s)).2.2 = 0) (h1 : itemsF (readF (bts s)).1 f 0 ⟨0, [], []⟩ = some x)
    (h2 : tokR (readF (bts s)).1 s.size (x.bind fun st => (toldP (readF (bts s)).1 st).bind fun (P, p) => if p < (readF (bts s)).1.length then .error p else .ok P) = r) : ParsR s r := by
  unfold ParsR
  rw [if_pos h0]
  exact ⟨_, ⟨x, ⟨f, h1⟩, rfl⟩, h2.symm⟩
theorem wk1 : ParsR wkS (.ok wkP) := pars_of 20 ((itemsF (readF (bts wkS)).1 20 0 ⟨0, [], []⟩).getD (.error 0)) _ (by kernel_rfl) (by kernel_rfl) (by kernel_rfl)
theorem wk2 : ParsR wkT (.error 11) := pars_of 20 ((itemsF (readF (bts wkT)).1 20 0 ⟨0, [], []⟩).getD (.error 0)) _ (by kernel_rfl) (by kernel_rfl) (by kernel_rfl)
theorem wk3 : wkP.okB = true := by kernel_rfl
theorem wk4 : varsS wkP.atoms = [wkX, wkY] := by kernel_rfl
end Go.Proofs.Ytngnplghjaojhaa

/- Does the layer do anything? It does. -/
namespace Go.Proofs.Ytngnplghjaojhaa
set_option maxRecDepth 100000
set_option maxHeartbeats 2000000
set_option linter.unusedSimpArgs false
open Go.RowKit Go.Shelf Go.Sort
attribute [local go_sem] Oper.semAt_some wide_fn wide_depth
set_option linter.unusedVariables false

theorem PatIn.at_ {B : Nat} {W : World} {v : Value} {P : Pat} (h : PatIn B W v P) : PatAt W v P := by
  obtain ⟨av, rv, hv, e, h1, h2, h3⟩ := h
  exact ⟨av, rv, hv, e, Sl.of_own h1, Sl.of_own h2, Sl.of_own h3⟩
theorem wkFits : wkP.Fits := ⟨fun a ha => by
  simp only [wkP, List.mem_cons, List.not_mem_nil, or_false] at ha
  rcases ha with rfl | rfl | rfl
  all_goals refine ⟨?_, ?_, ?_, ?_⟩ <;> decide, by decide⟩
set_option maxRecDepth 100000 in
set_option maxHeartbeats 2000000 in
theorem wakesP_any (w : World) : Calls Try.prog 9 #[] w fun e w' => e = .returned (.bool true) ∧ Ext w w' := by
  have HR1 := Lib.hid (parse_any wkS w (by decide))
  have HR2 := Lib.hid (fun w => parse_any wkT w (by decide))
  go_enter Try.func9, Try.ntmps9
  go_upto_region 1 with fail
  apply wp_region_lit
  refine wpList_plain rfl fun K1 hK1 => ?_
  go_simp
  refine HR1.out.mono ?_
  rintro e w1 ⟨r, hr, hx1, hrr⟩
  obtain rfl := hr.same wk1
  obtain ⟨v, rfl, av, rv, hv, rfl, ho, hor, hoh⟩ := hrr
  have HA1 := Lib.hid (show PatAt w1 (patV av rv hv wkP) wkP from ⟨_, _, _, rfl, Sl.of_own ho, Sl.of_own hor, Sl.of_own hoh⟩)
  obtain ⟨ava, avc, rfl⟩ := own_vw ho
  obtain ⟨rva, rvc, rfl⟩ := own_vw hor
  have HRT := Lib.hid (show Strs w1 (.slice rva 1 rvc) [wkY] from Sl.of_own hor)
  obtain ⟨hva, hvc, rfl⟩ := own_vw hoh
  have HX1 := Lib.hid hx1
  clear hr hx1 ho hor hoh HR1
  rw [show patV (.slice ava wkP.atoms.length avc) (.slice rva wkP.ret.length rvc) (.slice hva wkP.hint.length hvc) wkP = .agg #[.slice ava 3 avc, .slice rva 1 rvc, .bool false, .bool false, .bool true, .int .i64 3, .int .i64 0, .slice hva 0 hvc] from rfl] at HA1 ⊢
  rw [show ((wkS.size : Nat) : Int) = 55 from rfl]
  -- behind a call of Read: its results, the box of the pattern: w1 the world before, w2 the world behind, b the box's name, [.slice ava 3 avc, .slice rva 1 rvc, .bool false, .bool false, .bool true, .int .i64 3, .int .i64 0, .slice hva 0 hvc] its cells
  go_simp
  refine hK1 _ _ ?_
  clear hK1 K1
  refine wpList_plain rfl fun K1 hK1 => ?_
  go_simp
  refine hK1 _ _ ?_
  clear hK1 K1
  refine wpList_plain rfl fun K1 hK1 => ?_
  go_simp
  refine hK1 _ _ ?_
  clear hK1 K1
  refine wpList_plain rfl fun K1 hK1 => ?_
  go_simp
  refine hK1 _ _ ?_
  clear hK1 K1
  refine wpList_plain rfl fun K1 hK1 => ?_
  go_simp
  refine hK1 _ _ ?_
  clear hK1 K1
  refine wpList_plain rfl fun K1 hK1 => ?_
  go_simp
  refine hK1 _ _ ?_
  clear hK1 K1
  have hxb := Ext.alloc w1 (.cells #[.slice none 0 0, .slice none 0 0, .bool false, .bool false, .bool false, .int .i64 0, .int .i64 0, .slice none 0 0] 26)
  have hnb : RowAt (w1.alloc (.cells #[.slice none 0 0, .slice none 0 0, .bool false, .bool false, .bool false, .int .i64 0, .int .i64 0, .slice none 0 0] 26)) w1.heap.size 26 [.slice none 0 0, .slice none 0 0, .bool false, .bool false, .bool false, .int .i64 0, .int .i64 0, .slice none 0 0] := RowAt.new _ _ _
  refine plain_store rfl _ _ _ rfl w1.heap.size [.slice ava 3 avc, .slice rva 1 rvc, .bool false, .bool false, .bool true, .int .i64 3, .int .i64 0, .slice hva 0 hvc] rfl rfl hnb (by kernel_rfl) rfl (by simp [Value.oneCell']) ?_
  have hxs : Ext w1 ((w1.alloc (.cells #[.slice none 0 0, .slice none 0 0, .bool false, .bool false, .bool false, .int .i64 0, .int .i64 0, .slice none 0 0] 26)).setRow w1.heap.size ([.slice ava 3 avc, .slice rva 1 rvc, .bool false, .bool false, .bool true, .int .i64 3, .int .i64 0, .slice hva 0 hvc]).toArray) := below_setRow hxb (Nat.le_refl _) _
  have HNb := Lib.hid (hnb.setRow [.slice ava 3 avc, .slice rva 1 rvc, .bool false, .bool false, .bool true, .int .i64 3, .int .i64 0, .slice hva 0 hvc])
  have HEb := Lib.hid hxs
  clear hxb hnb hxs
  generalize (w1.alloc (.cells #[.slice none 0 0, .slice none 0 0, .bool false, .bool false, .bool false, .int .i64 0, .int .i64 0, .slice none 0 0] 26)).setRow w1.heap.size ([.slice ava 3 avc, .slice rva 1 rvc, .bool false, .bool false, .bool true, .int .i64 3, .int .i64 0, .slice hva 0 hvc]).toArray = w2 at *
  obtain ⟨b, hb⟩ : ∃ z, w1.heap.size = z := ⟨_, rfl⟩
  rw [hb] at HNb
  simp only [hb]
  clear hb
  go_simp
  refine wpList_plain rfl fun K1 hK1 => ?_
  go_simp
  refine hK1 _ _ ?_
  clear hK1 K1
  refine wpList_plain rfl fun K1 hK1 => ?_
  go_simp
  refine hK1 _ _ ?_
  clear hK1 K1
  apply wpList_nil
  have HX2 := Lib.hid (HX1.out.trans HEb.out)
  have HXY := Lib.hid HEb.out
  replace HA1 := Lib.hid (HA1.out.ext HEb.out)
  clear HX1 HEb
  go_upto_region 2 with fail
  apply wp_region_lit
  refine wpList_plain rfl fun K1 hK1 => ?_
  go_simp
  refine (HR2.out w2).mono ?_
  rintro e w3 ⟨r, hr, hx3, hrr⟩
  obtain rfl := hr.same wk2
  obtain rfl := hrr
  unfold pnoV
  have HX3 := Lib.hid (HX2.out.trans hx3)
  have HB3 := Lib.hid (HNb.out.ext hx3)
  have HXZ := Lib.hid (HXY.out.trans hx3)
  replace HA1 := Lib.hid (HA1.out.ext hx3)
  clear hr hx3 HX2 HNb HR2
  -- behind a call of Read: its results, the box of the pattern: w3 the world before, w4 the world behind, c the box's name, [.slice none 0 0, .slice none 0 0, .bool false, .bool false, .bool false, .int .i64 0, .int .i64 0, .slice none 0 0] its cells
  go_simp
  refine hK1 _ _ ?_
  clear hK1 K1
  refine wpList_plain rfl fun K1 hK1 => ?_
  go_simp
  refine hK1 _ _ ?_
  clear hK1 K1
  refine wpList_plain rfl fun K1 hK1 => ?_
  go_simp
  refine hK1 _ _ ?_
  clear hK1 K1
  refine wpList_plain rfl fun K1 hK1 => ?_
  go_simp
  refine hK1 _ _ ?_
  clear hK1 K1
  refine wpList_plain rfl fun K1 hK1 => ?_
  go_simp
  refine hK1 _ _ ?_
  clear hK1 K1
  refine wpList_plain rfl fun K1 hK1 => ?_
  go_simp
  refine hK1 _ _ ?_
  clear hK1 K1
  have hxb := Ext.alloc w3 (.cells #[.slice none 0 0, .slice none 0 0, .bool false, .bool false, .bool false, .int .i64 0, .int .i64 0, .slice none 0 0] 26)
  have hnb : RowAt (w3.alloc (.cells #[.slice none 0 0, .slice none 0 0, .bool false, .bool false, .bool false, .int .i64 0, .int .i64 0, .slice none 0 0] 26)) w3.heap.size 26 [.slice none 0 0, .slice none 0 0, .bool false, .bool false, .bool false, .int .i64 0, .int .i64 0, .slice none 0 0] := RowAt.new _ _ _
  refine plain_store rfl _ _ _ rfl w3.heap.size [.slice none 0 0, .slice none 0 0, .bool false, .bool false, .bool false, .int .i64 0, .int .i64 0, .slice none 0 0] rfl rfl hnb (by kernel_rfl) rfl (by simp [Value.oneCell']) ?_
  have hxs : Ext w3 ((w3.alloc (.cells #[.slice none 0 0, .slice none 0 0, .bool false, .bool false, .bool false, .int .i64 0, .int .i64 0, .slice none 0 0] 26)).setRow w3.heap.size ([.slice none 0 0, .slice none 0 0, .bool false, .bool false, .bool false, .int .i64 0, .int .i64 0, .slice none 0 0]).toArray) := below_setRow hxb (Nat.le_refl _) _
  have HNc := Lib.hid (hnb.setRow [.slice none 0 0, .slice none 0 0, .bool false, .bool false, .bool false, .int .i64 0, .int .i64 0, .slice none 0 0])
  have HEc := Lib.hid hxs
  clear hxb hnb hxs
  generalize (w3.alloc (.cells #[.slice none 0 0, .slice none 0 0, .bool false, .bool false, .bool false, .int .i64 0, .int .i64 0, .slice none 0 0] 26)).setRow w3.heap.size ([.slice none 0 0, .slice none 0 0, .bool false, .bool false, .bool false, .int .i64 0, .int .i64 0, .slice none 0 0]).toArray = w4 at *
  obtain ⟨c, hc⟩ : ∃ z, w3.heap.size = z := ⟨_, rfl⟩
  rw [hc] at HNc
  simp only [hc]
  clear hc
  go_simp
  refine wpList_plain rfl fun K1 hK1 => ?_
  go_simp
  refine hK1 _ _ ?_
  clear hK1 K1
  refine wpList_plain rfl fun K1 hK1 => ?_
  go_simp
  refine hK1 _ _ ?_
  clear hK1 K1
  apply wpList_nil
  have HX4 := Lib.hid (HX3.out.trans HEc.out)
  have HB4 := Lib.hid (HB3.out.ext HEc.out)
  have HXX := Lib.hid (HXZ.out.trans HEc.out)
  replace HA1 := Lib.hid (HA1.out.ext HEc.out)
  clear HX3 HEc HB3 HNc
  have HV := Lib.hid (fun w' (hx : Ext w4 w') => varsP_any _ wkP w' (HA1.out.ext hx) wkFits)
  have HC := Lib.hid (fun w' (hx : Ext w4 w') => checkP_any _ wkP w' (HA1.out.ext hx) wkFits)
  replace HRT := Lib.hid (Strs.ext HRT.out HXX.out)
  obtain ⟨d0, d1, d2, d3, d4, d5, d6, d7⟩ := row8_facts HB4.out
  have hve : varsE wkP = [wkX, wkY] := by unfold varsE; rw [if_pos wk3, wk4]
  rw [hve] at HV
  have hce : checkE wkP = 0 := by unfold checkE; rw [if_pos wk3]
  rw [hce] at HC
  clear hve hce
  go_wp2_with fail
  refine (HV.out w4 (Ext.refl _)).mono ?_
  rintro e w5 ⟨u, rfl, ho, hx5⟩
  obtain ⟨ua, uc, rfl⟩ := own_vw ho
  have hu := Strs.ext (show Strs w5 (.slice ua 2 uc) [wkX, wkY] from Sl.of_own ho) (Ext.alloc w5 (.cells #[.string wkX, .string wkY] 9))
  have hl : Strs (w5.alloc (.cells #[.string wkX, .string wkY] 9)) (.slice (some ⟨w5.heap.size, 0, none⟩) 2 2) [wkX, wkY] := Sl.new w5 #[.string wkX, .string wkY] 9 2 2 (Nat.le_refl _) (by unfold maxLen; omega)
  have HEQ := Lib.hid (eqStrs_any _ _ _ _ _ hu hl)
  have hxq := hx5.trans (Ext.alloc w5 (.cells #[.string wkX, .string wkY] 9))
  rw [decide_eq_true rfl] at HEQ
  have HX5 := Lib.hid hxq
  have HB5 := Lib.hid (HB4.out.ext hxq)
  clear ho hx5 hu hl hxq d0 d1 d2 d3 d4 d5 d6 d7 HV
  unfold wkX wkY at HEQ HB5 HX5
  go_wp2_with fail
  refine HEQ.out.mono ?_
  rintro e w6 ⟨rfl, hx6⟩
  have HX6 := Lib.hid (HX5.out.trans hx6)
  have HB6 := Lib.hid (HB5.out.ext hx6)
  clear HEQ hx6 HX5 HB5
  obtain ⟨d0, d1, d2, d3, d4, d5, d6, d7⟩ := row8_facts HB6.out
  have hu := Strs.ext (Strs.ext HRT.out HX6.out) (Ext.alloc w6 (.cells #[.string wkY] 9))
  have hl : Strs (w6.alloc (.cells #[.string wkY] 9)) (.slice (some ⟨w6.heap.size, 0, none⟩) 1 1) [wkY] := Sl.new w6 #[.string wkY] 9 1 1 (Nat.le_refl _) (by unfold maxLen; omega)
  have HEQ := Lib.hid (eqStrs_any _ _ _ _ _ hu hl)
  rw [decide_eq_true rfl] at HEQ
  have HX7 := Lib.hid (HX6.out.trans (Ext.alloc w6 (.cells #[.string wkY] 9)))
  have HB7 := Lib.hid (HB6.out.ext (Ext.alloc w6 (.cells #[.string wkY] 9)))
  clear hu hl
  unfold wkY at HEQ HB7 HX7
  go_wp2_with fail
  refine HEQ.out.mono ?_
  rintro e w8 ⟨rfl, hx8⟩
  have HX8 := Lib.hid (HX7.out.trans hx8)
  have HB8 := Lib.hid (HB7.out.ext hx8)
  clear HEQ hx8 HX7 HB7 d0 d1 d2 d3 d4 d5 d6 d7 HX6 HB6
  obtain ⟨d0, d1, d2, d3, d4, d5, d6, d7⟩ := row8_facts HB8.out
  go_wp2_with fail
  refine (HC.out w8 HX8.out).mono ?_
  rintro e w9 ⟨rfl, hx9⟩
  have HX9 := Lib.hid (HX4.out.trans (HX8.out.trans hx9))
  clear hx9 d0 d1 d2 d3 d4 d5 d6 d7
  go_wp2_with fail
  go_ret
  exact ⟨rfl, HX9.out⟩
end Go.Proofs.Ytngnplghjaojhaa

/- The document: which atoms may be. -/
namespace Go.Proofs.Ytngnplghjaojhaa
set_option maxRecDepth 100000
set_option maxHeartbeats 2000000
set_option linter.unusedSimpArgs false
open Go.RowKit Go.Shelf Go.Sort
attribute [local go_sem] Oper.semAt_some wide_fn wide_depth
set_option linter.unusedVariables false

end Go.Proofs.Ytngnplghjaojhaa

/- The document: the first atoms of a pattern; variables, none twice. -/
namespace Go.Proofs.Ytngnplghjaojhaa
set_option maxRecDepth 100000
set_option maxHeartbeats 2000000
set_option linter.unusedSimpArgs false
open Go.RowKit Go.Shelf Go.Sort
attribute [local go_sem] Oper.semAt_some wide_fn wide_depth
set_option linter.unusedVariables false

end Go.Proofs.Ytngnplghjaojhaa

/- The document: may a pattern be? -/
namespace Go.Proofs.Ytngnplghjaojhaa
set_option maxRecDepth 100000
set_option maxHeartbeats 2000000
set_option linter.unusedSimpArgs false
open Go.RowKit Go.Shelf Go.Sort
attribute [local go_sem] Oper.semAt_some wide_fn wide_depth
set_option linter.unusedVariables false

end Go.Proofs.Ytngnplghjaojhaa
