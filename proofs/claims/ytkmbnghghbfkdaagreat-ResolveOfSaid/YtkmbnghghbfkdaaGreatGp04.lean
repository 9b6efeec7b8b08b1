/- Tokens of a text: plain, no program in sight. -/
import Derived.Test.YtkmbnghghbfkdaaGreatGp01
import Derived.Test.YtkmbnghghbfkdaaGreatGp00
import Derived.Laws.BitsAllLaws
import Derived.Test.YtkmbnghghbfkdaaGreatProg
set_option linter.unusedSimpArgs false
set_option linter.unusedVariables false
set_option maxHeartbeats 2000000
set_option maxRecDepth 100000

namespace Go.Proofs.YtkmbnghghbfkdaaGreat
def bts (s : ByteArray) : List UInt8 := s.data.toList
def txt (l : List UInt8) : ByteArray := ⟨l.toArray⟩
theorem bts_txt (l : List UInt8) : bts (txt l) = l := by simp [bts, txt]
theorem txt_bts (s : ByteArray) : txt (bts s) = s := by cases s; simp [bts, txt]
theorem bts_len (s : ByteArray) : (bts s).length = s.size := by simp [bts]
theorem txt_size (l : List UInt8) : (txt l).size = l.length := by simp [txt, ByteArray.size]
theorem bts_inj {s t : ByteArray} (h : bts s = bts t) : s = t := by rw [← txt_bts s, h, txt_bts]
theorem bts_extract (s : ByteArray) (a b : Nat) : bts (s.extract a b) = ((bts s).drop a).take (b - a) := by
 unfold bts
 rw [ByteArray.data_extract, Array.toList_extract, List.extract_eq_take_drop]
theorem bts_append (s t : ByteArray) : bts (s ++ t) = bts s ++ bts t := by
 unfold bts
 rw [ByteArray.data_append, Array.toList_append]
theorem extract_txt (s : ByteArray) (a b : Nat) : s.extract a b = txt (((bts s).drop a).take (b - a)) := by rw [← bts_extract, txt_bts]
theorem bts_drop (s : ByteArray) (k : Nat) (h : k < s.size) : (bts s).drop k = s[k] :: (bts s).drop (k + 1) := by
 rw [List.drop_eq_getElem_cons (by rw [bts_len]; exact h)]; rfl
def letterC (c : Int) : Bool := decide (97 ≤ c ∧ c ≤ 122 ∨ 48 ≤ c ∧ c ≤ 57 ∨ c = 95)
def quotedC (c : Int) : Bool := decide (32 ≤ c ∧ c ≤ 126 ∧ c ≠ 34 ∧ c ≠ 92)
def blankC (c : Int) : Bool := decide (c = 32 ∨ c = 10)
def spanL (p : Int → Bool) : List UInt8 → Nat
 | [] => 0
 | c :: l => if p c.toNat then spanL p l + 1 else 0
theorem spanL_le (p : Int → Bool) (l : List UInt8) : spanL p l ≤ l.length := by
 induction l with
 | nil => exact Nat.le_refl _
 | cons c l ih => unfold spanL; split <;> simp <;> omega
theorem spanL_yes {p : Int → Bool} {c : UInt8} {l : List UInt8} (h : p c.toNat = true) : spanL p (c :: l) = spanL p l + 1 := by simp [spanL, h]
theorem spanL_no {p : Int → Bool} {c : UInt8} {l : List UInt8} (h : p c.toNat = false) : spanL p (c :: l) = 0 := by simp [spanL, h]
theorem spanL_drop_yes {p : Int → Bool} {s : ByteArray} {k : Nat} (h : k < s.size) (hp : p s[k].toNat = true) : spanL p ((bts s).drop k) = spanL p ((bts s).drop (k + 1)) + 1 := by rw [bts_drop s k h, spanL_yes hp]
theorem spanL_drop_no {p : Int → Bool} {s : ByteArray} {k : Nat} (h : k < s.size) (hp : p s[k].toNat = false) : spanL p ((bts s).drop k) = 0 := by rw [bts_drop s k h, spanL_no hp]
theorem spanL_all (p : Int → Bool) (l : List UInt8) : ∀ c ∈ l.take (spanL p l), p c.toNat = true := by
 induction l with
 | nil => intro c hc; simp at hc
 | cons x l ih =>
  intro c hc
  cases hx : p x.toNat with
  | true => rw [spanL_yes hx, List.take_succ_cons] at hc; rcases List.mem_cons.1 hc with rfl | hc; exact hx; exact ih c hc
  | false => rw [spanL_no hx] at hc; simp at hc
theorem spanL_append (p : Int → Bool) (a b : List UInt8) (h : ∀ c ∈ a, p c.toNat = true) : spanL p (a ++ b) = a.length + spanL p b := by
 induction a with
 | nil => simp
 | cons x a ih =>
  rw [List.cons_append, spanL_yes (h x (by simp)), ih (fun c hc => h c (List.mem_cons_of_mem _ hc)), List.length_cons]; omega
def wordN (l : List UInt8) : Nat := if 32 < spanL letterC l then 0 else spanL letterC l
theorem wordN_le (l : List UInt8) : wordN l ≤ l.length := by have := spanL_le letterC l; unfold wordN; split <;> omega
abbrev Beg := Int × List UInt8 × Nat
def begNo : Beg := (0, [], 0)
def ask1 (l : List UInt8) : Beg := (1, l.take (wordN l), wordN l)
def ask2 : List UInt8 → Beg
 | [] => begNo
 | c :: r => if c = 64 ∧ wordN r ≠ 0 then (2, r.take (wordN r), wordN r + 1) else begNo
def ask3 : List UInt8 → Beg
 | [] => begNo
 | c :: r => if c = 34 ∧ spanL quotedC r ≤ 40 ∧ r[spanL quotedC r]? = some 34 then (3, r.take (spanL quotedC r), spanL quotedC r + 2) else begNo
def signs : List (Int × List UInt8) := [(4, [40]), (5, [41]), (6, [44]), (7, [58]), (8, [46]), (9, [61]), (10, [45, 91]), (11, [93, 45, 62])]
def ask4 (l : List UInt8) : Beg := match signs.find? (fun x => x.2.isPrefixOf l) with
 | some x => (x.1, [], x.2.length)
 | none => begNo
def begL (l : List UInt8) : Beg :=
 if 0 < (ask1 l).2.2 then ask1 l else if 0 < (ask2 l).2.2 then ask2 l else if 0 < (ask3 l).2.2 then ask3 l else ask4 l
theorem ask4_yes {l : List UInt8} {x : Int × List UInt8} (hx : x ∈ signs) (h : x.2.isPrefixOf l = true) : ask4 l = (x.1, [], x.2.length) := by
 obtain ⟨r, hr⟩ := List.isPrefixOf_iff_prefix.1 h
 simp only [signs, List.mem_cons, List.not_mem_nil, or_false] at hx
 rcases hx with rfl | rfl | rfl | rfl | rfl | rfl | rfl | rfl <;> subst hr <;> simp [ask4, signs, List.isPrefixOf, List.find?]
theorem ask4_no {l : List UInt8} (h : ∀ x ∈ signs, x.2.isPrefixOf l = false) : ask4 l = begNo := by
 unfold ask4
 rw [List.find?_eq_none.2 (fun x hx => by rw [h x hx]; simp)]
theorem begL_1 {l : List UInt8} (h : 0 < (ask1 l).2.2) : begL l = ask1 l := by unfold begL; rw [if_pos h]
theorem begL_2 {l : List UInt8} (h1 : ¬ 0 < (ask1 l).2.2) (h : 0 < (ask2 l).2.2) : begL l = ask2 l := by unfold begL; rw [if_neg h1, if_pos h]
theorem begL_3 {l : List UInt8} (h1 : ¬ 0 < (ask1 l).2.2) (h2 : ¬ 0 < (ask2 l).2.2) (h : 0 < (ask3 l).2.2) : begL l = ask3 l := by unfold begL; rw [if_neg h1, if_neg h2, if_pos h]
theorem begL_4 {l : List UInt8} (h1 : ¬ 0 < (ask1 l).2.2) (h2 : ¬ 0 < (ask2 l).2.2) (h3 : ¬ 0 < (ask3 l).2.2) : begL l = ask4 l := by unfold begL; rw [if_neg h1, if_neg h2, if_neg h3]
theorem ask4_zero {l : List UInt8} (h : ¬ 0 < (ask4 l).2.2) : ask4 l = begNo := by
 unfold ask4 at h ⊢
 cases hf : signs.find? (fun x => x.2.isPrefixOf l) with
 | none => rfl
 | some x =>
  rw [hf] at h
  have hx := List.mem_of_find?_eq_some hf
  have : ∀ x ∈ signs, 0 < x.2.length := by decide
  exact absurd (this x hx) h
structure Tk where
 kind : Int
 text : ByteArray
 at_ : Int
def standsL (k : Int) (l : List UInt8) : List UInt8 :=
 if k = 1 then l else if k = 2 then 64 :: l else if k = 3 then 34 :: (l ++ [34]) else ((signs.find? (fun x => decide (x.1 = k))).map (·.2)).getD []
theorem standsL_sign {k : Int} {x : List UInt8} (h : (k, x) ∈ signs) (l : List UInt8) : standsL k l = x := by
 simp only [signs, List.mem_cons, List.not_mem_nil, or_false, Prod.mk.injEq] at h
 rcases h with h | h | h | h | h | h | h | h <;> obtain ⟨rfl, rfl⟩ := h <;> rfl
theorem standsL_none {k : Int} (h1 : k ≠ 1) (h2 : k ≠ 2) (h3 : k ≠ 3) (h : ∀ x ∈ signs, x.1 ≠ k) (l : List UInt8) : standsL k l = [] := by
 unfold standsL
 rw [if_neg h1, if_neg h2, if_neg h3, List.find?_eq_none.2 (fun x hx => by simpa using h x hx)]
 rfl
def checkB (k : Int) (l : List UInt8) (at_ : Int) : Bool :=
 decide ((begL (standsL k l)).2.2 ≠ 0) && decide ((begL (standsL k l)).2.2 = (standsL k l).length) && decide ((begL (standsL k l)).1 = k) && decide ((begL (standsL k l)).2.1 = l) && decide (0 ≤ at_)
def Tk.stands (t : Tk) : List UInt8 := standsL t.kind (bts t.text)
def Tk.check (t : Tk) : Bool := checkB t.kind (bts t.text) t.at_
end Go.Proofs.YtkmbnghghbfkdaaGreat

/- Hashes of texts: plain, no program in sight. -/
namespace Go.Proofs.YtkmbnghghbfkdaaGreat
def sbt (s : ByteArray) : List Int := s.data.toList.map fun u => (u.toNat : Int)
theorem sbt_len (s : ByteArray) : (sbt s).length = s.size := by simp [sbt]
def hashStep (h c : Int) : Int := ((h.toNat ^^^ c.toNat : Nat) : Int) * 1099511628211 % 18446744073709551616
def hashL (h : Int) : List Int → Int
 | [] => h
 | c :: l => hashL (hashStep h c) l
theorem hashL_snoc (h : Int) (l : List Int) (c : Int) : hashL h (l ++ [c]) = hashStep (hashL h l) c := by
 induction l generalizing h with
 | nil => rfl
 | cons x l ih => simp [hashL, ih]
theorem hashStep_range (h c : Int) : 0 ≤ hashStep h c ∧ hashStep h c < 18446744073709551616 := ⟨Int.emod_nonneg _ (by omega), Int.emod_lt_of_pos _ (by omega)⟩
theorem hashL_range (h : Int) (l : List Int) (h0 : 0 ≤ h) (h1 : h < 18446744073709551616) : 0 ≤ hashL h l ∧ hashL h l < 18446744073709551616 := by
 induction l generalizing h with
 | nil => exact ⟨h0, h1⟩
 | cons x l ih => exact ih _ (hashStep_range h x).1 (hashStep_range h x).2
theorem sbt_get (s : ByteArray) (k : Nat) (h : k < s.size) : (sbt s)[k]'(by rw [sbt_len]; exact h) = (s[k].toNat : Int) := by
 unfold sbt
 rw [List.getElem_map]
 rfl
theorem wrap64 (n : Int) : IntKind.u64.wrap n = n % 18446744073709551616 := by simp [IntKind.wrap, IntKind.bits, IntKind.signed]
theorem xor_step (h c : Int) (h0 : 0 ≤ h) (h1 : h < 18446744073709551616) (c0 : 0 ≤ c) (c1 : c < 256) : IntKind.u64.wrap (bits .xor .u64 h c * 1099511628211) = hashStep h c := by
 rw [wrap64, u64_xor h c h0 h1 c0 (by omega)]
 rfl
def turn (a c : Nat) : Nat → Nat
 | 0 => 0
 | k + 1 => if a / 2 ^ k % 2 ≠ c / 2 ^ k % 2 then turn a c k + 2 ^ k else turn a c k
theorem turn_succ (a c k : Nat) : turn a c (k + 1) = if a / 2 ^ k % 2 ≠ c / 2 ^ k % 2 then turn a c k + 2 ^ k else turn a c k := rfl
theorem turn_xor (a c k : Nat) : turn a c k = (a ^^^ c) % 2 ^ k := by
 induction k with
 | zero => simp [turn, Nat.mod_one]
 | succ k ih =>
  rw [turn_succ, Nat.mod_pow_succ, ← ih]
  rw [Nat.xor_div_two_pow]
  have hm : ∀ x y : Nat, (x ^^^ y) % 2 = (x % 2 ^^^ y % 2) := fun x y => by
   have := @Nat.xor_mod_two_pow x y 1
   simpa using this
  rw [hm]
  have e1 : a / 2 ^ k % 2 = 0 ∨ a / 2 ^ k % 2 = 1 := by omega
  have e2 : c / 2 ^ k % 2 = 0 ∨ c / 2 ^ k % 2 = 1 := by omega
  rcases e1 with e1 | e1 <;> rcases e2 with e2 | e2 <;> simp [e1, e2]
theorem turn_lt (a c k : Nat) : turn a c k < 2 ^ k := by rw [turn_xor]; exact Nat.mod_lt _ (Nat.pow_pos (by omega))
theorem xor_turn (h c : Nat) (hc : c < 256) : h ^^^ c = h - h % 256 + turn (h % 256) c 8 := by
 rw [turn_xor]
 have hx : (h % 256 ^^^ c) % 2 ^ 8 = (h ^^^ c) % 256 := by
  rw [show (256 : Nat) = 2 ^ 8 from rfl, Nat.xor_mod_two_pow, Nat.xor_mod_two_pow, Nat.mod_mod]
 have hd : (h ^^^ c) / 256 = h / 256 := by
  rw [show (256 : Nat) = 2 ^ 8 from rfl, Nat.xor_div_two_pow, Nat.div_eq_of_lt (show c < 2 ^ 8 from hc)]; simp
 rw [hx]
 have := Nat.div_add_mod (h ^^^ c) 256
 have := Nat.div_add_mod h 256
 omega
end Go.Proofs.YtkmbnghghbfkdaaGreat

/- Hash, and the reference's. -/
namespace Go.Proofs.YtkmbnghghbfkdaaGreat
open Go.RowKit
theorem hash_any (s : ByteArray) (w : World) (hs : s.size ≤ 9223372036854775807) :
 Calls Tryz.prog 145 #[.string s] w fun e w' => e = .returned (.int .u64 (hashL 14695981039346656037 (sbt s))) ∧ w = w' := by
 go_enter Tryz.func145, Tryz.ntmps145
 go_wp2
 go_loop [3, 4, 7] (fun n _ i => ∃ k : Nat, k ≤ s.size ∧ i = .int .i64 k ∧ n = .int .u64 (hashL 14695981039346656037 ((sbt s).take k))) (fun _ _ i => s.size - (intOf i).toNat)
 case atStart => exact ⟨0, Nat.zero_le _, rfl, rfl⟩
 case round =>
  obtain ⟨k, hk, rfl, rfl⟩ := hrel
  by_cases hlt : k < s.size
  ·have hr := hashL_range 14695981039346656037 ((sbt s).take k) (by omega) (by omega)
   have hb : s[k].toNat < 256 := s[k].toNat_lt
   go_wp2
   go_round
   case rel => exact ⟨k + 1, by omega, by go_num, int_congr (by rw [xor_step _ _ hr.1 hr.2 (by omega) (by omega), take_snoc _ k (by rw [sbt_len]; exact hlt), hashL_snoc, sbt_get s k hlt])⟩
   case measure => simp [intOf]; omega
  ·go_wp2
   go_ret
   exact ⟨ret_int (by rw [List.take_of_length_le (by rw [sbt_len]; omega)]), rfl⟩
set_option maxRecDepth 100000 in
theorem refHash_any (s : ByteArray) (w : World) (hs : s.size ≤ 9223372036854775807) :
 Calls Tryz.prog 108 #[.string s] w fun e w' => e = .returned (.int .u64 (hashL 14695981039346656037 (sbt s))) ∧ ∃ n, w' = w.drewN n := by
 go_enter Tryz.func108, Tryz.ntmps108
 go_wp2
 go_loopw [3, 4, 5, 6, 7, 10] (fun h _ _ _ _ i wr => (∃ n, wr = w.drewN n) ∧ ∃ k : Nat, k ≤ s.size ∧ i = .int .i64 k ∧ h = .int .u64 (hashL 14695981039346656037 ((sbt s).take k))) (fun _ _ _ _ _ i _ => s.size - (intOf i).toNat)
 case atStart => exact ⟨⟨0, rfl⟩, 0, Nat.zero_le _, rfl, rfl⟩
 case round =>
  obtain ⟨⟨n0, rfl⟩, k, hk, rfl, rfl⟩ := hrel
  by_cases hlt : k < s.size
  ·obtain ⟨hr0, hr1⟩ := hashL_range 14695981039346656037 ((sbt s).take k) (by omega) (by omega)
   have hb : s[k].toNat < 256 := s[k].toNat_lt
   have hfin : ∀ n : Int, n = hashStep (hashL 14695981039346656037 ((sbt s).take k)) s[k].toNat → n = hashL 14695981039346656037 ((sbt s).take (k + 1)) := fun n hn => by
    rw [hn, take_snoc _ k (by rw [sbt_len]; exact hlt), hashL_snoc, sbt_get s k hlt]
   generalize hashL 14695981039346656037 ((sbt s).take k) = h at hr0 hr1 hfin
   obtain ⟨H, rfl⟩ := Int.eq_ofNat_of_zero_le hr0
   have Hfin := Lib.hid hfin
   clear hfin
   go_wp2_with fail
   go_loopw [6, 7, 15] (fun t b i wr => (∃ n, wr = w.drewN n) ∧ ∃ j bt tn : Nat, j ≤ 8 ∧ bt = 2 ^ j ∧ tn = turn (H % 256) s[k].toNat j ∧ i = .int .i64 j ∧ b = .int .u64 bt ∧ t = .int .u64 tn) (fun _ _ i _ => 8 - (intOf i).toNat)
   case atStart => exact ⟨⟨n0, rfl⟩, 0, 1, 0, Nat.zero_le _, rfl, rfl, rfl, rfl, rfl⟩
   case round =>
    obtain ⟨⟨n1, rfl⟩, j, bt, tn, hj, hbt, htn, rfl, rfl, rfl⟩ := hrel
    have hb1 : 0 < bt := by rw [hbt]; exact Nat.pow_pos (by omega)
    have hb2 : bt ≤ 256 := by rw [hbt]; exact Nat.pow_le_pow_right (by omega : 0 < 2) hj
    have ht2 : tn < bt := by rw [htn, hbt]; exact turn_lt _ _ _
    by_cases hj8 : j < 8
    ·have hb3 : 2 * bt = 2 ^ (j + 1) := by rw [hbt, Nat.pow_succ]; omega
     by_cases hne : H % 256 / bt % 2 = s[k].toNat / bt % 2
     ·have hs2 : tn = turn (H % 256) s[k].toNat (j + 1) := by rw [turn_succ, ← hbt, if_neg (by simpa using hne), ← htn]
      have hd : (((H : Int) % 256 / (bt : Int)).tmod 2 != (IntKind.u64.wrap ((s[k].toNat : Int) / (bt : Int))).tmod 2) = false := by
       have e1 : ((H : Int) % 256 / (bt : Int)).tmod 2 = ((H % 256 / bt % 2 : Nat) : Int) := rfl
       have e2 : (IntKind.u64.wrap ((s[k].toNat : Int) / (bt : Int))).tmod 2 = ((s[k].toNat / bt % 2 : Nat) : Int) := by
        have h1 : s[k].toNat / bt < 18446744073709551616 := Nat.lt_of_le_of_lt (Nat.div_le_self _ _) (by omega)
        have h2 : (s[k].toNat : Int) / (bt : Int) = ((s[k].toNat / bt : Nat) : Int) := rfl
        rw [wrap64, h2]
        generalize s[k].toNat / bt = q at h1
        rw [show (q : Int) % 18446744073709551616 = q from by omega]
        rfl
       rw [e1, e2, hne]; simp
      have Hs2 := Lib.hid hs2
      have Hb3 := Lib.hid hb3
      clear hs2 hb3 hbt htn hne hr0 hr1
      go_wp2_with fail
      go_quiet (fail)
      go_wp2
      go_roundw
      case rel => exact ⟨⟨_, rfl⟩, j + 1, 2 * bt, tn, by omega, Hb3.out, Hs2.out, by go_num, int_congr (by omega), rfl⟩
      case measure => simp [intOf]; omega
     ·have hs2 : tn + bt = turn (H % 256) s[k].toNat (j + 1) := by rw [turn_succ, ← hbt, if_pos (by simpa using hne), ← htn]
      have hd : (((H : Int) % 256 / (bt : Int)).tmod 2 != (IntKind.u64.wrap ((s[k].toNat : Int) / (bt : Int))).tmod 2) = true := by
       have e1 : ((H : Int) % 256 / (bt : Int)).tmod 2 = ((H % 256 / bt % 2 : Nat) : Int) := rfl
       have e2 : (IntKind.u64.wrap ((s[k].toNat : Int) / (bt : Int))).tmod 2 = ((s[k].toNat / bt % 2 : Nat) : Int) := by
        have h1 : s[k].toNat / bt < 18446744073709551616 := Nat.lt_of_le_of_lt (Nat.div_le_self _ _) (by omega)
        have h2 : (s[k].toNat : Int) / (bt : Int) = ((s[k].toNat / bt : Nat) : Int) := rfl
        rw [wrap64, h2]
        generalize s[k].toNat / bt = q at h1
        rw [show (q : Int) % 18446744073709551616 = q from by omega]
        rfl
       rw [e1, e2]; exact bne_iff_ne.2 (fun h => hne (Int.ofNat.inj h))
      have Hs2 := Lib.hid hs2
      have Hb3 := Lib.hid hb3
      clear hs2 hb3 hbt htn hne hr0 hr1
      go_wp2_with fail
      go_quiet (fail)
      go_wp2
      go_roundw
      case rel => exact ⟨⟨_, rfl⟩, j + 1, 2 * bt, tn + bt, by omega, Hb3.out, Hs2.out, by go_num, int_congr (by omega), int_congr (by omega)⟩
      case measure => simp [intOf]; omega
    ·obtain rfl : j = 8 := by omega
     have hx := xor_turn H s[k].toNat (by omega)
     rw [← htn] at hx
     have hle : H % 256 ≤ H := Nat.mod_le _ _
     have Hx := Lib.hid hx
     clear hx htn hbt
     go_wp2_with fail
     go_roundw
     case rel =>
      refine ⟨⟨_, rfl⟩, k + 1, by omega, by go_num, int_congr (Hfin.out _ ?_)⟩
      have hx := Hx.out
      rw [wrap64]
      unfold hashStep
      rw [Int.toNat_natCast, Int.toNat_natCast, hx]
      congr 2
      omega
     case measure => simp [intOf]; omega
  ·go_wp2
   go_ret
   exact ⟨ret_int (by rw [List.take_of_length_le (by rw [sbt_len]; omega)]), _, rfl⟩
end Go.Proofs.YtkmbnghghbfkdaaGreat

/- Tables: the plain law, no program in sight. -/
namespace Go.Proofs.YtkmbnghghbfkdaaGreat
def hit (T : List ByteArray) (S : List Int) (s : ByteArray) (at_ : Nat) : Bool := S.getD at_ 0 == 0 || decide (T.getD (S.getD at_ 0 - 1).toNat ⟨#[]⟩ = s)
def hashN (s : ByteArray) : Nat := (hashL 14695981039346656037 (sbt s)).toNat
def probe (m : Nat) (s : ByteArray) (k : Nat) : Nat := (hashN s + k) % m
def placeFrom (T : List ByteArray) (S : List Int) (s : ByteArray) : Nat → Nat → Int
 | 0, _ => -1
 | f + 1, k => if hit T S s (probe S.length s k) then probe S.length s k else placeFrom T S s f (k + 1)
def placeF (T : List ByteArray) (S : List Int) (s : ByteArray) : Int := placeFrom T S s S.length 0
theorem placeFrom_no (T : List ByteArray) (S : List Int) (s : ByteArray) (f k : Nat) : placeFrom T S s f k = -1 ↔ ∀ j, k ≤ j → j < k + f → hit T S s (probe S.length s j) = false := by
 induction f generalizing k with
 | zero => simp [placeFrom]; intro j h1 h2; omega
 | succ f ih =>
  unfold placeFrom
  cases h : hit T S s (probe S.length s k) with
  | true =>
   simp only [if_true]
   constructor
   ·intro h'; omega
   ·intro h'; have := h' k (Nat.le_refl _) (by omega); rw [h] at this; cases this
  | false =>
   simp only [Bool.false_eq_true, if_false]
   rw [ih]
   constructor
   ·intro h' j h1 h2
    rcases Nat.eq_or_lt_of_le h1 with rfl | h1
    ·exact h
    ·exact h' j (by omega) (by omega)
   ·intro h' j h1 h2; exact h' j (by omega) (by omega)
theorem placeFrom_yes (T : List ByteArray) (S : List Int) (s : ByteArray) (f k p : Nat) : placeFrom T S s f k = p ↔ ∃ j, k ≤ j ∧ j < k + f ∧ probe S.length s j = p ∧ hit T S s p = true ∧ ∀ i, k ≤ i → i < j → hit T S s (probe S.length s i) = false := by
 induction f generalizing k with
 | zero => simp only [placeFrom]; constructor
           ·intro h; omega
           ·rintro ⟨j, h1, h2, _⟩; omega
 | succ f ih =>
  unfold placeFrom
  cases h : hit T S s (probe S.length s k) with
  | true =>
   simp only [if_true]
   constructor
   ·intro h'
    have h' : probe S.length s k = p := by omega
    exact ⟨k, Nat.le_refl _, by omega, h', h' ▸ h, fun i h1 h2 => by omega⟩
   ·rintro ⟨j, h1, h2, h3, h4, h5⟩
    rcases Nat.eq_or_lt_of_le h1 with rfl | h1
    ·rw [h3]
    ·have := h5 k (Nat.le_refl _) h1; rw [h] at this; cases this
  | false =>
   simp only [Bool.false_eq_true, if_false]
   rw [ih]
   constructor
   ·rintro ⟨j, h1, h2, h3, h4, h5⟩
    refine ⟨j, by omega, by omega, h3, h4, fun i hi1 hi2 => ?_⟩
    rcases Nat.eq_or_lt_of_le hi1 with rfl | hi1
    ·exact h
    ·exact h5 i (by omega) hi2
   ·rintro ⟨j, h1, h2, h3, h4, h5⟩
    rcases Nat.eq_or_lt_of_le h1 with rfl | h1
    ·rw [h3, h4] at h; cases h
    ·exact ⟨j, by omega, by omega, h3, h4, fun i hi1 hi2 => h5 i (by omega) hi2⟩
theorem placeFrom_cases (T : List ByteArray) (S : List Int) (s : ByteArray) (f k : Nat) : placeFrom T S s f k = -1 ∨ ∃ p : Nat, placeFrom T S s f k = p := by
 induction f generalizing k with
 | zero => exact .inl rfl
 | succ f ih =>
  unfold placeFrom
  split
  ·exact .inr ⟨_, rfl⟩
  ·exact ih _
theorem probe_lt (m : Nat) (s : ByteArray) (k : Nat) (hm : 0 < m) : probe m s k < m := Nat.mod_lt _ hm
theorem probe_onto (m : Nat) (s : ByteArray) (p : Nat) (hp : p < m) : ∃ k, k < m ∧ probe m s k = p := by
 refine ⟨(p + m - hashN s % m) % m, Nat.mod_lt _ (by omega), ?_⟩
 have h1 := Nat.mod_lt (hashN s) (show 0 < m by omega)
 unfold probe
 rw [Nat.add_mod, Nat.mod_mod, ← Nat.add_mod, Nat.add_mod, Nat.add_mod_mod, show hashN s % m + (p + m - hashN s % m) = p + m from by omega]
 simp [Nat.mod_eq_of_lt hp]
theorem placeF_yes {T : List ByteArray} {S : List Int} {s : ByteArray} {p : Nat} : placeF T S s = p ↔ ∃ j, j < S.length ∧ probe S.length s j = p ∧ hit T S s p = true ∧ ∀ i, i < j → hit T S s (probe S.length s i) = false := by
 unfold placeF
 rw [placeFrom_yes]
 constructor
 ·rintro ⟨j, _, h2, h3, h4, h5⟩; exact ⟨j, by omega, h3, h4, fun i hi => h5 i (Nat.zero_le _) hi⟩
 ·rintro ⟨j, h2, h3, h4, h5⟩; exact ⟨j, Nat.zero_le _, by omega, h3, h4, fun i _ hi => h5 i hi⟩
theorem placeF_lt {T : List ByteArray} {S : List Int} {s : ByteArray} {p : Nat} (h : placeF T S s = p) : p < S.length := by
 obtain ⟨j, h1, h2, _⟩ := placeF_yes.1 h
 rw [← h2]; exact probe_lt _ _ _ (by omega)
theorem placeF_some {T : List ByteArray} {S : List Int} {s : ByteArray} {q : Nat} (hq : q < S.length) (h : hit T S s q = true) : ∃ p : Nat, placeF T S s = p := by
 rcases placeFrom_cases T S s S.length 0 with h' | h'
 ·rw [placeFrom_no] at h'
  obtain ⟨k, h1, h2⟩ := probe_onto S.length s q hq
  have := h' k (Nat.zero_le _) (by omega)
  rw [h2, h] at this; cases this
 ·exact h'
def usedN (S : List Int) : Nat := (S.filter (fun x => decide (0 < x))).length
structure Laid (T : List ByteArray) (S : List Int) (n : Nat) : Prop where
 range : ∀ x ∈ S, 0 ≤ x ∧ x ≤ n
 used : usedN S = n
 at_ : ∀ i (h : i < n) (h' : i < T.length), ∃ p : Nat, placeF T S T[i] = p ∧ S.getD p 0 = i + 1
def Distinct (T : List ByteArray) : Prop := ∀ i j (hi : i < T.length) (hj : j < T.length), T[i] = T[j] → i = j
theorem Laid.free {T : List ByteArray} {S : List Int} {n : Nat} (h : Laid T S n) (hn : n < S.length) : ∃ q, q < S.length ∧ S.getD q 0 = 0 := by
 refine Classical.byContradiction fun hne => ?_
 have hall : ∀ x ∈ S, decide (0 < x) = true := by
  intro x hx
  obtain ⟨q, hq, rfl⟩ := List.getElem_of_mem hx
  have h0 := (h.range _ hx).1
  have : S[q] ≠ 0 := fun e => hne ⟨q, hq, by simp [List.getD, hq, e]⟩
  simp; omega
 have := h.used
 unfold usedN at this
 rw [List.filter_eq_self.2 hall] at this
 omega
theorem hit_zero {T : List ByteArray} {S : List Int} {s : ByteArray} {q : Nat} (h : S.getD q 0 = 0) : hit T S s q = true := by unfold hit; rw [h]; rfl
theorem Laid.place {T : List ByteArray} {S : List Int} {n : Nat} (h : Laid T S n) (hn : n < S.length) (s : ByteArray) : ∃ p : Nat, placeF T S s = p ∧ p < S.length ∧ hit T S s p = true := by
 obtain ⟨q, hq, h0⟩ := h.free hn
 obtain ⟨p, hp⟩ := placeF_some hq (hit_zero (T := T) (s := s) h0)
 obtain ⟨j, h1, h2, h3, _⟩ := placeF_yes.1 hp
 exact ⟨p, hp, placeF_lt hp, h3⟩
theorem getD_mem {S : List Int} {q : Nat} (h : q < S.length) : S.getD q 0 ∈ S := by
 simp [List.getD, h]
theorem getD_at {T : List ByteArray} {i : Nat} (h : i < T.length) : T.getD i ⟨#[]⟩ = T[i] := by simp [List.getD, h]
theorem Laid.hit_ {T : List ByteArray} {S : List Int} {n : Nat} (h : Laid T S n) (hT : n ≤ T.length) {s : ByteArray} {p : Nat} (hp : p < S.length) (hh : hit T S s p = true) :
 S.getD p 0 = 0 ∨ ∃ i : Nat, ∃ hi : i < n, S.getD p 0 = i + 1 ∧ T[i] = s := by
 unfold hit at hh
 rw [Bool.or_eq_true] at hh
 rcases hh with hh | hh
 ·exact .inl (by simpa using hh)
 ·have hr := h.range _ (getD_mem hp)
  by_cases h0 : S.getD p 0 = 0
  ·exact .inl h0
  ·refine .inr ⟨(S.getD p 0 - 1).toNat, by omega, by omega, ?_⟩
   have hlt : (S.getD p 0 - 1).toNat < T.length := by omega
   have := of_decide_eq_true hh
   rw [← this]; exact (getD_at hlt).symm
theorem Laid.place_free {T : List ByteArray} {S : List Int} {n : Nat} (h : Laid T S n) (hT : n ≤ T.length) (hn : n < S.length) {s : ByteArray} (hs : ∀ i (hi : i < n), T[i] ≠ s) :
 ∃ p : Nat, placeF T S s = p ∧ p < S.length ∧ S.getD p 0 = 0 := by
 obtain ⟨p, h1, h2, h3⟩ := h.place hn s
 rcases h.hit_ hT h2 h3 with h4 | ⟨i, hi, _, h5⟩
 ·exact ⟨p, h1, h2, h4⟩
 ·exact absurd h5 (hs i hi)
theorem getD_set_neT {S : List Int} {p q : Nat} (h : p ≠ q) (x : Int) : (S.set p x).getD q 0 = S.getD q 0 := by simp [List.getD, List.getElem?_set_ne h]
theorem getD_set_eq {S : List Int} {p : Nat} (h : p < S.length) (x : Int) : (S.set p x).getD p 0 = x := by simp [List.getD, h]
theorem hit_set_ne {T : List ByteArray} {S : List Int} {s : ByteArray} {p q : Nat} (h : p ≠ q) (x : Int) : hit T (S.set p x) s q = hit T S s q := by unfold hit; rw [getD_set_neT h]
theorem usedN_set {S : List Int} {p : Nat} (h : p < S.length) (h0 : S.getD p 0 = 0) (x : Int) (hx : 0 < x) : usedN (S.set p x) = usedN S + 1 := by
 induction S generalizing p with
 | nil => simp at h
 | cons y S ih =>
  cases p with
  | zero =>
   simp at h0
   subst h0
   simp [usedN, hx]
  | succ p =>
   have := ih (p := p) (by simpa using h) (by simpa using h0)
   unfold usedN at *
   simp only [List.set_cons_succ, List.filter_cons]
   split <;> simp [this]
theorem Laid.set {T : List ByteArray} {S : List Int} {n : Nat} (h : Laid T S n) (hn : n < T.length) (hS : n < S.length) (hd : Distinct T) {p : Nat} (hp : placeF T S T[n] = p) : p < S.length ∧ S.getD p 0 = 0 ∧ Laid T (S.set p (n + 1)) (n + 1) := by
 obtain ⟨p', h1, h2, h3⟩ := h.place_free (Nat.le_of_lt hn) hS (s := T[n]) (fun i hi e => by have := hd i n (by omega) hn e; omega)
 obtain rfl : p' = p := by rw [hp] at h1; omega
 refine ⟨h2, h3, ?_, ?_, ?_⟩
 ·intro x hx
  rcases List.mem_or_eq_of_mem_set hx with hx | rfl
  ·have := h.range x hx; omega
  ·omega
 ·rw [usedN_set h2 h3 _ (by omega), h.used]
 ·intro i hi hiT
  rcases Nat.lt_or_ge i n with hin | hin
  ·obtain ⟨q, q1, q2⟩ := h.at_ i hin hiT
   have hne : p' ≠ q := by rintro rfl; rw [h3] at q2; omega
   refine ⟨q, ?_, by rw [getD_set_neT hne]; exact q2⟩
   obtain ⟨j, j1, j2, j3, j4⟩ := placeF_yes.1 q1
   refine placeF_yes.2 ⟨j, by simpa using j1, by simpa using j2, by rw [hit_set_ne hne]; exact j3, fun i' hi' => ?_⟩
   have := j4 i' hi'
   rw [List.length_set]
   by_cases e : p' = probe S.length T[i] i'
   ·rw [← e, hit_zero h3] at this; cases this
   ·rw [hit_set_ne e]; exact this
  ·obtain rfl : i = n := by omega
   refine ⟨p', ?_, getD_set_eq h2 _⟩
   obtain ⟨j, j1, j2, j3, j4⟩ := placeF_yes.1 hp
   refine placeF_yes.2 ⟨j, by simpa using j1, by simpa using j2, ?_, fun i' hi' => ?_⟩
   ·unfold hit
    rw [getD_set_eq h2, show ((i : Int) + 1 - 1).toNat = i from by omega]
    simp [List.getD, hiT]
   ·have := j4 i' hi'
    rw [List.length_set]
    by_cases e : p' = probe S.length T[i] i'
    ·rw [← e, hit_zero h3] at this; cases this
    ·rw [hit_set_ne e]; exact this
theorem Laid.nil (T : List ByteArray) (m : Nat) : Laid T (List.replicate m 0) 0 := by
 refine ⟨fun x hx => ?_, ?_, fun i hi => by omega⟩
 ·have := List.eq_of_mem_replicate hx; omega
 ·unfold usedN; simp
def laidN (T : List ByteArray) (m : Nat) : Nat → List Int
 | 0 => List.replicate m 0
 | n + 1 => (laidN T m n).set (placeF T (laidN T m n) (T.getD n ⟨#[]⟩)).toNat (n + 1)
theorem laidN_len (T : List ByteArray) (m n : Nat) : (laidN T m n).length = m := by
 induction n with
 | zero => simp [laidN]
 | succ n ih => simp [laidN, ih]
theorem laidN_ok (T : List ByteArray) (m n : Nat) (hd : Distinct T) (hm : T.length < m) (hn : n ≤ T.length) : Laid T (laidN T m n) n := by
 induction n with
 | zero => exact Laid.nil T m
 | succ n ih =>
  have h := ih (by omega)
  have hl := laidN_len T m n
  obtain ⟨p, hp, _⟩ := h.place (by omega) (T[n])
  have := (h.set (by omega) (by omega) hd hp).2.2
  unfold laidN
  rw [show T.getD n ⟨#[]⟩ = T[n] from by simp [List.getD, show n < T.length from by omega], hp, Int.toNat_natCast]
  exact this
theorem laidN_next (T : List ByteArray) (m n : Nat) (hd : Distinct T) (hm : T.length < m) (hn : n < T.length) : ∃ p : Nat, placeF T (laidN T m n) T[n] = p ∧ p < m ∧ (laidN T m n).getD p 0 = 0 ∧ laidN T m (n + 1) = (laidN T m n).set p (n + 1) := by
 have h := laidN_ok T m n hd hm (by omega)
 have hl := laidN_len T m n
 obtain ⟨p, hp, hp2, _⟩ := h.place (by omega) (T[n])
 have := h.set hn (by omega) hd hp
 refine ⟨p, hp, by omega, this.2.1, ?_⟩
 rw [laidN, show T.getD n ⟨#[]⟩ = T[n] from by simp [List.getD, show n < T.length from by omega], hp, Int.toNat_natCast]
structure TabOK (T : List ByteArray) (S : List Int) : Prop where
 pow : ∃ e, S.length = 8 * 2 ^ e
 most : T.length ≤ 1024
 half : 2 * T.length ≤ S.length
 laid : Laid T S T.length
theorem TabOK.lt {T : List ByteArray} {S : List Int} (h : TabOK T S) : T.length < S.length := by
 obtain ⟨e, he⟩ := h.pow
 have := h.half
 have : 0 < 2 ^ e := Nat.pow_pos (by omega)
 omega
theorem TabOK.distinct {T : List ByteArray} {S : List Int} (h : TabOK T S) : Distinct T := by
 intro i j hi hj e
 obtain ⟨p, p1, p2⟩ := h.laid.at_ i hi hi
 obtain ⟨q, q1, q2⟩ := h.laid.at_ j hj hj
 rw [e, q1] at p1
 obtain rfl : q = p := by omega
 rw [p2] at q2; omega
theorem TabOK.mk' {T : List ByteArray} {m : Nat} (hd : Distinct T) (hp : ∃ e, m = 8 * 2 ^ e) (h1 : T.length ≤ 1024) (h2 : 2 * T.length ≤ m) : TabOK T (laidN T m T.length) := by
 have hm : T.length < m := by obtain ⟨e, he⟩ := hp; have : 0 < 2 ^ e := Nat.pow_pos (by omega); omega
 exact ⟨by rw [laidN_len]; exact hp, h1, by rw [laidN_len]; exact h2, laidN_ok T m _ hd hm (Nat.le_refl _)⟩
theorem TabOK.find {T : List ByteArray} {S : List Int} (h : TabOK T S) (s : ByteArray) : ∃ p : Nat, placeF T S s = p ∧ p < S.length ∧
 ((S.getD p 0 = 0 ∧ s ∉ T) ∨ ∃ i : Nat, ∃ hi : i < T.length, S.getD p 0 = i + 1 ∧ T[i] = s) := by
 obtain ⟨p, h1, h2, h3⟩ := h.laid.place h.lt s
 refine ⟨p, h1, h2, ?_⟩
 rcases h.laid.hit_ (Nat.le_refl _) h2 h3 with h4 | ⟨i, hi, h4, h5⟩
 ·refine .inl ⟨h4, fun hs => ?_⟩
  obtain ⟨i, hi, rfl⟩ := List.getElem_of_mem hs
  obtain ⟨q, q1, q2⟩ := h.laid.at_ i hi hi
  obtain rfl : q = p := by rw [h1] at q1; omega
  rw [h4] at q2; omega
 ·exact .inr ⟨i, hi, h4, h5⟩
theorem Distinct.snoc {T : List ByteArray} (h : Distinct T) {s : ByteArray} (hs : s ∉ T) : Distinct (T ++ [s]) := by
 intro i j hi hj e
 simp only [List.length_append, List.length_cons, List.length_nil] at hi hj
 rcases Nat.lt_or_ge i T.length with h1 | h1 <;> rcases Nat.lt_or_ge j T.length with h2 | h2
 ·rw [List.getElem_append_left h1, List.getElem_append_left h2] at e; exact h i j h1 h2 e
 ·rw [List.getElem_append_left h1, List.getElem_append_right h2] at e
  simp at e; exact absurd (e ▸ List.getElem_mem h1) hs
 ·rw [List.getElem_append_right h1, List.getElem_append_left h2] at e
  simp at e; exact absurd (e ▸ List.getElem_mem h2) hs
 ·omega
def moreN (T : List ByteArray) (m : Nat) : Nat := if m < 2 * (T.length + 1) then 2 * m else m
theorem TabOK.more {T : List ByteArray} {S : List Int} (h : TabOK T S) {s : ByteArray} (hs : s ∉ T) (hn : T.length < 1024) : TabOK (T ++ [s]) (laidN (T ++ [s]) (moreN T S.length) (T.length + 1)) := by
 have := TabOK.mk' (m := moreN T S.length) (h.distinct.snoc hs) ?_ (by simp; omega) ?_
 ·simpa using this
 ·obtain ⟨e, he⟩ := h.pow
  unfold moreN
  split
  ·exact ⟨e + 1, by rw [he, Nat.pow_succ]; omega⟩
  ·exact ⟨e, he⟩
 ·have := h.half
  have := h.lt
  unfold moreN
  simp only [List.length_append, List.length_cons, List.length_nil]
  split <;> omega
end Go.Proofs.YtkmbnghghbfkdaaGreat
