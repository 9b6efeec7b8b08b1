/- Rows of tokens held against one another. -/
import Derived.Test.YtngnplghjaojhaaLexX2
import Derived.Laws.StructEq
import Derived.Test.YtngnplghjaojhaaLexX4
import Derived.Test.YtngnplghjaojhaaLexX3
import Derived.Lib.Join
namespace Go.Proofs.Ytngnplghjaojhaa
set_option maxRecDepth 100000
set_option maxHeartbeats 2000000
set_option linter.unusedVariables false
set_option linter.unusedSimpArgs false
open Go.RowKit

def Tk.eqB (x y : Tk) : Bool := x.kind == y.kind && (x.text.toList == y.text.toList && x.at_ == y.at_)
theorem Tk.eqB_iff (x y : Tk) : x.eqB y = true ↔ x = y := by
  obtain ⟨a, b, c⟩ := x
  obtain ⟨a', b', c'⟩ := y
  unfold Tk.eqB
  rw [Bool.and_eq_true, Bool.and_eq_true, str_beq]
  simp
theorem tk_eql (x y : Tk) (w : World) : (Op.equalIn 10000 39 (.agg #[.int .i64 x.kind, .string x.text, .int .i64 x.at_]) (.agg #[.int .i64 y.kind, .string y.text, .int .i64 y.at_])).run Try.prog w = .ok (x.eqB y) w := by
  unfold Tk.eqB
  rw [show (10000 : Nat) = 9999 + 1 from rfl, run_equalIn_struct (P := Try.prog) w 9999 39 _ _ (by kernel_rfl) (by kernel_rfl)]
  have hf : (Try.prog.fieldsOf 39).toList = _ := congrArg Array.toList (show Try.prog.fieldsOf 39 = _ by unfold Program.fieldsOf; rw [Try.underlying39])
  rw [hf]
  simp [Op.eqFields, go_sem, run_equalIn_int, run_equalIn_string]
  by_cases h1 : x.kind = y.kind <;> by_cases h2 : x.text.toList = y.text.toList <;> by_cases h3 : x.at_ = y.at_ <;> simp [h1, h2, h3]
theorem tk_neq (x y : Tk) (w : World) : (binOp .neq 39 (.agg #[.int .i64 x.kind, .string x.text, .int .i64 x.at_]) (.agg #[.int .i64 y.kind, .string y.text, .int .i64 y.at_])).run Try.prog w = .ok (.bool !(x.eqB y)) w := by
  rw [run_neq_struct, tk_eql]; rfl
theorem tk_eqlB (x y : Tk) (w : World) : (binOp .eql 39 (.agg #[.int .i64 x.kind, .string x.text, .int .i64 x.at_]) (.agg #[.int .i64 y.kind, .string y.text, .int .i64 y.at_])).run Try.prog w = .ok (.bool (x.eqB y)) w := by
  rw [run_eql_struct, tk_eql]; rfl

theorem eqToks_yes (v u : Value) (l : List Tk) (w : World) (hv : Toks w v l) (hu : Toks w u l) :
    Calls Try.prog 17 #[v, u] w fun e w' => e = .returned (.bool true) ∧ Ext w w' := by
  obtain ⟨a, c, rfl, hc1, hc2⟩ := hv.shape
  obtain ⟨a', c', rfl, hc1', hc2'⟩ := hu.shape
  have HV := Lib.hid hv
  have HU := Lib.hid hu
  clear hv hu
  go_enter Try.func17, Try.ntmps17
  go_wp2_with fail
  go_loopg [13] l.length (fun g i wr => ∃ k : Nat, k ≤ l.length ∧ g = l.length - k ∧ i = .int .i64 k ∧ Ext w wr)
  case atStart => exact ⟨0, Nat.zero_le _, rfl, rfl, Ext.refl _⟩
  case round =>
    obtain ⟨k, hk, hg, rfl, hx⟩ := hrel
    have Hg := Lib.hid hg
    clear hg
    by_cases hlt : k < l.length
    · obtain ⟨b, o, rfl, c0, c1, c2⟩ := (HV.out.ext hx).at_ hlt
      obtain ⟨b', o', rfl, d0, d1, d2⟩ := (HU.out.ext hx).at_ hlt
      generalize l[k] = x at *
      have hq := fun w => tk_neq x x w
      rw [(x.eqB_iff x).2 rfl] at hq
      rw [Bool.not_true] at hq
      go_wp2_with fail
      go_quiet (fail)
      go_wp2_with fail
      go_roundg (l.length - (k + 1))
      case measure => have := Hg.out; omega
      case rel => exact ⟨k + 1, by omega, rfl, by go_num, (by repeat (first | exact Ext.refl _ | with_reducible assumption | with_reducible refine Ext.alloc_of ?_ _ | with_reducible refine Ext.drewN_of ?_ _ | with_reducible refine Ext.drew_of ?_ | (with_reducible refine Ext.set_of ?_ ?hsz _; case hsz => ((first | exact Nat.le_refl _ | omega | (simp; omega)))) | with_reducible refine Ext.via (by assumption) ?_))⟩
    · go_wp2_with fail
      go_ret
      exact ⟨rfl, (by repeat (first | exact Ext.refl _ | with_reducible assumption | with_reducible refine Ext.alloc_of ?_ _ | with_reducible refine Ext.drewN_of ?_ _ | with_reducible refine Ext.drew_of ?_ | (with_reducible refine Ext.set_of ?_ ?hsz _; case hsz => ((first | exact Nat.le_refl _ | omega | (simp; omega)))) | with_reducible refine Ext.via (by assumption) ?_))⟩
end Go.Proofs.Ytngnplghjaojhaa

/- The reference's Read. -/
namespace Go.Proofs.Ytngnplghjaojhaa
set_option maxRecDepth 100000
set_option maxHeartbeats 2000000
set_option linter.unusedVariables false
set_option linter.unusedSimpArgs false
open Go.RowKit

theorem begL_kind0 {l : List UInt8} (h : (begL l).2.2 = 0) : (begL l).1 = 0 := by rw [begL_zero h]; rfl
theorem begL_kind1 {l : List UInt8} (h : (begL l).2.2 ≠ 0) : (begL l).1 ≠ 0 := by have := (begL_is (Nat.pos_of_ne_zero h)).kind; omega
theorem skipL_yes {s : ByteArray} {p : Nat} (h : p < s.size) (hb : blankC s[p].toNat = true) : skipL (bts s) p = skipL (bts s) (p + 1) := by
  unfold skipL; rw [spanL_drop_yes h hb]; omega
theorem skipL_no {s : ByteArray} {p : Nat} (h : p < s.size) (hb : blankC s[p].toNat = false) : skipL (bts s) p = p := by
  unfold skipL; rw [spanL_drop_no h hb]; rfl
theorem readF_bad {s : List UInt8} (hs : s.length ≤ 500) {toks : List Tk} {t : Tk} (h : yields s = toks ++ [t]) (hk : ∀ x ∈ toks, x.kind ≠ 0) (h0 : t.kind = 0) : readF s = ([], t.at_, 250) := by
  unfold readF
  rw [if_neg (by omega), h, List.find?_append, List.find?_eq_none.2 (fun x hx => by simpa using hk x hx)]
  simp [h0]
theorem readF_good {s : List UInt8} (hs : s.length ≤ 500) (hk : ∀ x ∈ yields s, x.kind ≠ 0) : readF s = (yields s, ((s.length : Nat) : Int), 0) := by
  unfold readF
  rw [if_neg (by omega), List.find?_eq_none.2 (fun x hx => by simpa using hk x hx)]

theorem refRead_any (s : ByteArray) (w : World) (hs : s.size ≤ 9223372036854775807) :
    Calls Try.prog 28 #[.string s] w (ReadPost w (readF (bts s))) := by
  by_cases h5 : s.size ≤ 500
  case neg =>
    have hR : readF (bts s) = ([], 500, 3) := by unfold readF; rw [bts_len, if_pos (by omega)]
    rw [hR]
    have hlt : (500 : Int) < (s.size : Int) := by omega
    clear h5 hR
    go_enter Try.func28, Try.ntmps28
    go_wp2_with fail
    go_ret3
    exact ⟨_, rfl, World.ownsRow_nil _ _ _ _, Ext.refl _⟩
  have h5' : (bts s).length ≤ 500 := by rw [bts_len]; exact h5
  have H5 := Lib.hid h5'
  have hyl := yields_len (bts s)
  rw [bts_len] at hyl
  have hRg := fun hk => readF_good h5' hk
  have hRb := fun toks t h hk h0 => readF_bad (toks := toks) (t := t) h5' h hk h0
  rw [bts_len] at hRg
  have HRg := Lib.hid hRg
  have HRb := Lib.hid hRb
  generalize readF (bts s) = R at *
  clear h5' hRg hRb
  go_enter Try.func28, Try.ntmps28
  go_wp2_with fail
  go_loopg [5, 6] s.size (fun g v at_ wr => ∃ (p : Nat) (toks : List Tk), p ≤ s.size ∧ g = s.size - p ∧ at_ = .int .i64 p ∧ yields (bts s) = toks ++ yieldsAt (bts s) (skipL (bts s) p) ∧ (∀ x ∈ toks, x.kind ≠ 0) ∧
    wr.ownsRow w.heap.size 39 3 v toks.length (toks.flatMap tkCells) ∧ Ext w wr)
  case atStart => exact ⟨0, [], Nat.zero_le _, rfl, rfl, rfl, fun x hx => by simp at hx, World.ownsRow_nil _ _ _ _, Ext.refl _⟩
  case round =>
    obtain ⟨p, toks, hp, hg, rfl, hy, hk, ho, hx⟩ := hrel
    have hyl2 : toks.length ≤ s.size := by have := congrArg List.length hy; simp at this; omega
    have Hg := Lib.hid hg
    have HY := Lib.hid hy
    have HK := Lib.hid hk
    have HO := Lib.hid ho
    clear hg hy hk ho
    by_cases hlt : p < s.size
    · have hb256 : s[p].toNat < 256 := s[p].toNat_lt
      by_cases hbl : s[p].toNat = 32 ∨ s[p].toNat = 10
      · have HS := Lib.hid (skipL_yes hlt (show blankC s[p].toNat = true from decide_eq_true (by omega)))
        rcases hbl with hbl | hbl
        · have d1 : ((s[p].toNat : Int) == 32) = true := by simp; omega
          clear hbl
          go_wp2_with fail
          go_roundg (s.size - (p + 1))
          case measure => have := Hg.out; omega
          case rel => exact ⟨p + 1, toks, by omega, rfl, by go_num, by rw [← HS.out]; exact HY.out, HK.out, HO.out, hx⟩
        · have d1 : ((s[p].toNat : Int) == 32) = false := by simp; omega
          have d2 : ((s[p].toNat : Int) == 10) = true := by simp; omega
          clear hbl
          go_wp2_with fail
          go_roundg (s.size - (p + 1))
          case measure => have := Hg.out; omega
          case rel => exact ⟨p + 1, toks, by omega, rfl, by go_num, by rw [← HS.out]; exact HY.out, HK.out, HO.out, hx⟩
      · have HS := Lib.hid (skipL_no hlt (show blankC s[p].toNat = false from decide_eq_false (by omega)))
        have d1 : ((s[p].toNat : Int) == 32) = false := by simp; omega
        have d2 : ((s[p].toNat : Int) == 10) = false := by simp; omega
        clear hbl
        have hbd := bts_drop s p hlt
        have hbe := refBegin_any (s.extract p s.size)
        have hlen := begL_le ((bts s).drop p)
        rw [List.length_drop, bts_len] at hlen
        rw [bts_extract, List.take_of_length_le (by rw [List.length_drop, bts_len]; exact Nat.le_refl _), begR_eq _ (by rw [hbd]; simp)] at hbe
        have hes : (s.extract p s.size).size ≤ 1000000 := by simp; omega
        have HBe := Lib.hid (fun w h => hbe w h _ _ hbd)
        have hplen : p < (bts s).length := by rw [bts_len]; exact hlt
        have hY0 : (begL ((bts s).drop p)).2.2 = 0 → R = ([], (p : Int), 250) := fun h0 => by
          have h := HY.out
          rw [HS.out, yieldsAt_bad hplen h0] at h
          exact HRb.out _ _ h HK.out (begL_kind0 h0)
        have hY1 : (begL ((bts s).drop p)).2.2 ≠ 0 → yields (bts s) = (toks ++ [tkAt (bts s) p]) ++ yieldsAt (bts s) (skipL (bts s) (p + (begL ((bts s).drop p)).2.2)) ∧ ∀ x ∈ toks ++ [tkAt (bts s) p], x.kind ≠ 0 := fun h0 => by
          have h := HY.out
          rw [HS.out, yieldsAt_more hplen h0] at h
          refine ⟨by rw [h]; simp, fun x hx => ?_⟩
          rcases List.mem_append.1 hx with hx | hx
          · exact HK.out x hx
          · simp at hx; subst hx; exact begL_kind1 h0
        have HY0 := Lib.hid hY0
        have HY1 := Lib.hid hY1
        unfold tkAt begV tokV at *
        generalize begL ((bts s).drop p) = r at *
        obtain ⟨rk, rt, rn⟩ := r
        dsimp only at *
        clear hY0 hY1 hbe hbd hplen
        go_wp2_with fail
        refine (HBe.out _ hes).mono ?_
        rintro e w2 ⟨rfl, hx2⟩
        by_cases h0 : rn = 0
        · have HF := Lib.hid (HY0.out h0)
          subst h0
          go_wp2_with fail
          go_ret3
          rw [HF.out]
          exact ⟨_, rfl, World.ownsRow_nil _ _ _ _, (by repeat (first | exact Ext.refl _ | with_reducible assumption | with_reducible refine Ext.alloc_of ?_ _ | with_reducible refine Ext.drewN_of ?_ _ | with_reducible refine Ext.drew_of ?_ | (with_reducible refine Ext.set_of ?_ ?hsz _; case hsz => ((first | exact Nat.le_refl _ | omega | (simp; omega)))) | with_reducible refine Ext.via (by assumption) ?_))⟩
        · have d0 : ((rn : Int) == 0) = false := by simp; omega
          have HF := Lib.hid (HY1.out h0)
          have hpos : 0 < rn := by omega
          clear h0
          have ho2 := own_ext (own_ext HO.out hx2) (Ext.alloc w2 (.cells #[.int .i64 rk, .string (txt rt), .int .i64 p] 39))
          have hBx : Ext w (w2.alloc (.cells #[.int .i64 rk, .string (txt rt), .int .i64 p] 39)) := (by repeat (first | exact Ext.refl _ | with_reducible assumption | with_reducible refine Ext.alloc_of ?_ _ | with_reducible refine Ext.drewN_of ?_ _ | with_reducible refine Ext.drew_of ?_ | (with_reducible refine Ext.set_of ?_ ?hsz _; case hsz => ((first | exact Nat.le_refl _ | omega | (simp; omega)))) | with_reducible refine Ext.via (by assumption) ?_))
          obtain ⟨b0, b1, b2, e0, e1, e2⟩ := (RowAt.new w2 39 [.int .i64 rk, .string (txt rt), .int .i64 p]).facts3
          go_upto_region 12 with fail
          generalize w2.alloc (.cells #[.int .i64 rk, .string (txt rt), .int .i64 p] 39) = w3 at *
          go_wp2_with (at_builtin; refine wpList_append_sl _ rfl _ _ 36 rfl elTok rfl (own_ext ho2 (Ext.alloc _ _)) rfl (Sl.new _ _ _ 1 1 (Nat.le_refl _) ?_) rfl ?_ ?_ ?_ ?_ ?_)
          · unfold maxLen; omega
          · exact ⟨rfl, rfl, rfl⟩
          · omega
          · unfold maxLen; omega
          · have := hBx.size; simp; omega
          intro v4 w4 hown4 hB4 _ _
          have hfl : (toks ++ [(⟨rk, txt rt, (p : Int)⟩ : Tk)]).flatMap tkCells = toks.flatMap tkCells ++ #[Value.int .i64 rk, .string (txt rt), .int .i64 p].toList := by rw [List.flatMap_append]; rfl
          have HO4 := Lib.hid hown4
          have HX4 : Hid (Ext w w4) := Lib.hid ((below_step hBx (Ext.alloc _ _)).trans hB4)
          have Hfl := Lib.hid hfl
          clear hown4 hB4 ho2 hfl
          go_wp2_with fail
          go_roundg (s.size - (p + rn))
          case measure => have := Hg.out; omega
          case rel => exact ⟨p + rn, toks ++ [⟨rk, txt rt, p⟩], by omega, rfl, by go_num, HF.out.1, HF.out.2, by rw [Hfl.out, List.length_append]; exact HO4.out, HX4.out⟩
    · obtain rfl : p = s.size := by omega
      have hyy := HY.out
      rw [yieldsAt_end (by rw [bts_len]; exact skipL_ge _ _), List.append_nil] at hyy
      have HF : Hid (R = (toks, ((s.size : Nat) : Int), 0)) := Lib.hid (by rw [HRg.out (by rw [hyy]; exact HK.out), hyy])
      clear hyy
      go_wp2_with fail
      go_ret3
      rw [HF.out]
      exact ⟨_, rfl, HO.out, hx⟩
end Go.Proofs.Ytngnplghjaojhaa

/- Few tokens; their plain text. -/
namespace Go.Proofs.Ytngnplghjaojhaa
set_option maxRecDepth 100000
set_option maxHeartbeats 2000000
set_option linter.unusedVariables false
set_option linter.unusedSimpArgs false
open Go.RowKit

def cutTk (t : Tk) : Tk := ⟨t.kind, t.text.extract 0 (min (t.text.size : Int) 80).toNat, t.at_⟩
def fewL (l : List Tk) : List Tk := (l.take 60).map cutTk
theorem cutTk_size (t : Tk) : (cutTk t).text.size ≤ 80 := by unfold cutTk; dsimp only; simp; omega
theorem fewL_len (l : List Tk) : (fewL l).length ≤ 60 := by unfold fewL; simp; omega
theorem fewL_size (l : List Tk) : ∀ t ∈ fewL l, t.text.size ≤ 80 := fun t ht => by
  obtain ⟨x, _, rfl⟩ := List.mem_map.1 ht
  exact cutTk_size x
theorem fewL_more (l : List Tk) (k : Nat) (hk : k < l.length) (h : k < 60) : fewL (l.take (k + 1)) = fewL (l.take k) ++ [cutTk l[k]] := by
  unfold fewL
  rw [List.take_take, List.take_take, Nat.min_eq_right (by omega), Nat.min_eq_right (by omega), take_snoc l k hk, List.map_append]
  rfl
theorem fewL_same (l : List Tk) (k : Nat) (h : 60 ≤ k) : fewL (l.take (k + 1)) = fewL (l.take k) := by
  unfold fewL
  rw [List.take_take, List.take_take, Nat.min_eq_left (by omega), Nat.min_eq_left (by omega)]

/-- Texts, a blank between. -/
def joinB (xs : List (List UInt8)) : List UInt8 := Lib.join xs [32]
theorem joinB_nil : joinB [] = [] := rfl
theorem joinTail_snoc (sep y : List UInt8) (r : List (List UInt8)) : Lib.joinTail sep (r ++ [y]) = Lib.joinTail sep r ++ (sep ++ y) := by
  unfold Lib.joinTail
  rw [List.map_append, List.flatten_append]
  simp
theorem joinB_cons (x : List UInt8) (r : List (List UInt8)) : joinB (x :: r) = x ++ Lib.joinTail [32] r := Lib.join_cons x r [32]
theorem joinB_snoc (xs : List (List UInt8)) (y : List UInt8) : joinB (xs ++ [y]) = if xs = [] then y else joinB xs ++ 32 :: y := by
  cases xs with
  | nil => simp [joinB, Lib.join_one]
  | cons x r =>
    rw [if_neg (by simp), List.cons_append, joinB_cons, joinB_cons, joinTail_snoc, List.append_assoc]
    rfl
theorem joinB_len (xs : List (List UInt8)) (m : Nat) (h : ∀ x ∈ xs, x.length ≤ m) : (joinB xs).length ≤ xs.length * (m + 1) := by
  cases xs with
  | nil => simp [joinB_nil]
  | cons x r =>
    unfold joinB
    rw [Lib.join_length]
    have : ∀ xs : List (List UInt8), (∀ x ∈ xs, x.length ≤ m) → Lib.lens xs ≤ xs.length * m := fun xs => by
      induction xs with
      | nil => intro _; simp [Lib.lens]
      | cons y ys ih =>
        intro h
        have h1 := ih (fun z hz => h z (List.mem_cons_of_mem _ hz))
        have h2 := h y (by simp)
        simp only [Lib.lens, List.map_cons, List.sum_cons, List.length_cons] at h1 ⊢
        rw [Nat.add_mul]; omega
    have := this (x :: r) h
    simp only [List.length_cons, List.length_nil] at this ⊢
    rw [Nat.mul_add]; omega
/-- The plain text of tokens. -/
def joinT (l : List Tk) : List UInt8 := joinB (l.map Tk.stands)
def plainF (l : List Tk) : ByteArray × Int := if l.all Tk.check then (if 500 < (joinT l).length then (⟨#[]⟩, 3) else (txt (joinT l), 0)) else (⟨#[]⟩, 250)
theorem elStr : ElT Try.prog 22 9 (.string ⟨#[]⟩) 1 16 := ⟨Try.underlying22, ⟨_, rfl, by kernel_rfl, by kernel_rfl, by kernel_rfl⟩, rfl, by decide⟩

theorem stands_size {t : Tk} (h : t.text.size ≤ 1000) : t.stands.length ≤ 1003 := by
  unfold Tk.stands
  have := standsL_len t.kind (bts t.text)
  rw [bts_len] at this; omega
end Go.Proofs.Ytngnplghjaojhaa

/- Does the layer do anything? It does. -/
namespace Go.Proofs.Ytngnplghjaojhaa
set_option maxRecDepth 100000
set_option maxHeartbeats 2000000
set_option linter.unusedVariables false
set_option linter.unusedSimpArgs false
open Go.RowKit

def wakeToks : List Tk := [⟨4, txt [], 0⟩, ⟨1, txt [120], 1⟩, ⟨5, txt [], 2⟩, ⟨10, txt [], 3⟩, ⟨1, txt [107, 110, 111, 119, 115], 5⟩, ⟨11, txt [], 10⟩, ⟨4, txt [], 13⟩, ⟨2, txt [98, 111, 98], 14⟩, ⟨5, txt [], 18⟩]
theorem wake1 : readF (bts ⟨#[40, 120, 41, 45, 91, 107, 110, 111, 119, 115, 93, 45, 62, 40, 64, 98, 111, 98, 41]⟩) = (wakeToks, 19, 0) := by kernel_rfl
theorem wake2 : readF (bts ⟨#[120, 32, 59, 32, 121]⟩) = ([], 2, 250) := by kernel_rfl
theorem wake3 : Tk.number ⟨1, ⟨#[49, 48]⟩, 0⟩ = some 10 := by kernel_rfl
theorem ReadPost.toks {w w' : World} {r : List Tk × Int × Int} {e : Ending} (h : ReadPost w r e w') : ∃ v, e = .returned (.tuple #[v, .int .i64 r.2.1, .int .i64 r.2.2]) ∧ Toks w' v r.1 ∧ Ext w w' := by
  obtain ⟨v, he, ho, hx⟩ := h
  exact ⟨v, he, Sl.of_own ho, hx⟩
end Go.Proofs.Ytngnplghjaojhaa
