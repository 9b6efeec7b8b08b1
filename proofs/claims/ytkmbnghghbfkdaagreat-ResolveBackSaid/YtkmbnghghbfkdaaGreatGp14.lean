/- The reference's letters, words, signs. -/
import Derived.Test.YtkmbnghghbfkdaaGreatGp13
import Derived.Test.YtkmbnghghbfkdaaGreatGp03
import Derived.Deep.CutBlock
import Derived.Test.YtkmbnghghbfkdaaGreatGp02
import Derived.Lib.Join
import Derived.ScopeJumps
import Derived.Test.YtkmbnghghbfkdaaGreatGp12
import Derived.Test.YtkmbnghghbfkdaaGreatGp01
set_option linter.unusedSimpArgs false
set_option linter.unusedVariables false
set_option maxHeartbeats 2000000
set_option maxRecDepth 100000
namespace Go.Proofs.YtkmbnghghbfkdaaGreat
open Go.Lib (hid)

section
open Go.RowKit
theorem letterR (c:Int) (w:World):Calls Tryz.prog 141 #[.int .u8 c] w fun e w'=>e = .returned (.bool (letterC c)) ∧ w = w':=by
 go_enter Tryz.func141,Tryz.ntmps141
 go_wp2
 all_goals (go_ret;exact ⟨ret_bool (by unfold letterC;rw [Bool.eq_iff_iff];simp;try omega),rfl⟩)
theorem quotedR (c:Int) (w:World):Calls Tryz.prog 142 #[.int .u8 c] w fun e w'=>e = .returned (.bool (quotedC c)) ∧ w = w':=by
 go_enter Tryz.func142,Tryz.ntmps142
 go_wp2
 all_goals (go_ret;exact ⟨ret_bool (by unfold quotedC;rw [Bool.eq_iff_iff];simp;try omega),rfl⟩)
def allB (p:Int → Bool) (lo hi:Nat) (l:List UInt8):Bool:=decide (spanL p l = l.length) && (decide (lo ≤ l.length) && decide (l.length ≤ hi))
theorem wordR (s:ByteArray) (w:World) (hs:s.size ≤ 9223372036854775807) :
 Calls Tryz.prog 127 #[.string s] w fun e w'=>e = .returned (.bool (allB letterC 1 32 (bts s))) ∧ w = w':=by
 have hall:allB letterC 1 32 (bts s) = (decide (spanL letterC (bts s) = s.size) && (decide (1 ≤ s.size) && decide (s.size ≤ 32))):=by unfold allB;rw [bts_len]
 have Hall:=hid hall
 clear hall
 go_enter Tryz.func127,Tryz.ntmps127
 go_wp2_with fail
 go_loop [6] (fun i=>∃ k:Nat,k ≤ s.size ∧ i = .int .i64 k ∧ spanL letterC (bts s) = k + spanL letterC ((bts s).drop k)) (fun i=>s.size - (intOf i).toNat)
 case atStart=>exact ⟨0,Nat.zero_le _,rfl,by simp⟩
 case round =>
  obtain ⟨k,hk,rfl,hsp⟩:=hrel
  have Hsp:=hid hsp
  clear hsp
  by_cases hlt:k < s.size
  ·have hb:s[k].toNat < 256:=s[k].toNat_lt
   cases hp:letterC (s[k].toNat:Int) with
   | true =>
    have Hd:=hid (spanL_drop_yes (p:=letterC) hlt hp)
    go_wp2_with (go_at_call 141;refine (letterR _ _).mono ?_;rintro e w' ⟨rfl,rfl⟩)
    go_round
    case rel=>exact ⟨k + 1,by omega,by go_num,by rw [Hsp.out,Hd.out];omega⟩
    case measure=>simp [intOf];omega
   | false =>
    have Hd:=hid (spanL_drop_no (p:=letterC) hlt hp)
    go_wp2_with (go_at_call 141;refine (letterR _ _).mono ?_;rintro e w' ⟨rfl,rfl⟩)
    go_ret
    exact ⟨ret_bool (by rw [Hall.out,Hsp.out,Hd.out,decide_eq_false (by omega)];rfl),rfl⟩
  ·have Hd:Hid (spanL letterC (bts s) = s.size):=hid (by rw [Hsp.out,List.drop_eq_nil_of_le (by rw [bts_len];omega)];simp [spanL];omega)
   by_cases h1:1 ≤ s.size
   ·by_cases h2:s.size ≤ 32
    ·have HF:Hid (allB letterC 1 32 (bts s) = true):=hid (by rw [Hall.out,Hd.out,decide_eq_true h1,decide_eq_true h2];simp)
     go_wp2_with fail
     go_ret
     exact ⟨ret_bool (by first | (rw [HF.out];done) | (rw [HF.out];simp;done) | (rw [HF.out];simp;omega)),rfl⟩
    ·have HF:Hid (allB letterC 1 32 (bts s) = false):=hid (by rw [Hall.out,decide_eq_false h2];simp)
     go_wp2_with fail
     go_ret
     exact ⟨ret_bool (by first | (rw [HF.out];done) | (rw [HF.out];simp;done) | (rw [HF.out];simp;omega)),rfl⟩
   ·try (exfalso;omega)
    all_goals (have HF:Hid (allB letterC 1 32 (bts s) = false):=hid (by rw [Hall.out,decide_eq_false h1];simp);go_wp2_with fail;go_ret;exact ⟨ret_bool (by first | (rw [HF.out];done) | (rw [HF.out];simp;done) | (rw [HF.out];simp;omega)),rfl⟩)
theorem worthR (s:ByteArray) (w:World) (hs:s.size ≤ 9223372036854775807) :
 Calls Tryz.prog 128 #[.string s] w fun e w'=>e = .returned (.bool (allB quotedC 0 40 (bts s))) ∧ w = w':=by
 have hall:allB quotedC 0 40 (bts s) = (decide (spanL quotedC (bts s) = s.size) && (decide (0 ≤ s.size) && decide (s.size ≤ 40))):=by unfold allB;rw [bts_len]
 have Hall:=hid hall
 clear hall
 go_enter Tryz.func128,Tryz.ntmps128
 go_wp2_with fail
 go_loop [6] (fun i=>∃ k:Nat,k ≤ s.size ∧ i = .int .i64 k ∧ spanL quotedC (bts s) = k + spanL quotedC ((bts s).drop k)) (fun i=>s.size - (intOf i).toNat)
 case atStart=>exact ⟨0,Nat.zero_le _,rfl,by simp⟩
 case round =>
  obtain ⟨k,hk,rfl,hsp⟩:=hrel
  have Hsp:=hid hsp
  clear hsp
  by_cases hlt:k < s.size
  ·have hb:s[k].toNat < 256:=s[k].toNat_lt
   cases hp:quotedC (s[k].toNat:Int) with
   | true =>
    have Hd:=hid (spanL_drop_yes (p:=quotedC) hlt hp)
    go_wp2_with (go_at_call 142;refine (quotedR _ _).mono ?_;rintro e w' ⟨rfl,rfl⟩)
    go_round
    case rel=>exact ⟨k + 1,by omega,by go_num,by rw [Hsp.out,Hd.out];omega⟩
    case measure=>simp [intOf];omega
   | false =>
    have Hd:=hid (spanL_drop_no (p:=quotedC) hlt hp)
    go_wp2_with (go_at_call 142;refine (quotedR _ _).mono ?_;rintro e w' ⟨rfl,rfl⟩)
    go_ret
    exact ⟨ret_bool (by rw [Hall.out,Hsp.out,Hd.out,decide_eq_false (by omega)];rfl),rfl⟩
  ·have Hd:Hid (spanL quotedC (bts s) = s.size):=hid (by rw [Hsp.out,List.drop_eq_nil_of_le (by rw [bts_len];omega)];simp [spanL];omega)
   by_cases h1:0 ≤ s.size
   ·by_cases h2:s.size ≤ 40
    ·have HF:Hid (allB quotedC 0 40 (bts s) = true):=hid (by rw [Hall.out,Hd.out,decide_eq_true h1,decide_eq_true h2];simp)
     go_wp2_with fail
     go_ret
     exact ⟨ret_bool (by first | (rw [HF.out];done) | (rw [HF.out];simp;done) | (rw [HF.out];simp;omega)),rfl⟩
    ·have HF:Hid (allB quotedC 0 40 (bts s) = false):=hid (by rw [Hall.out,decide_eq_false h2];simp)
     go_wp2_with fail
     go_ret
     exact ⟨ret_bool (by first | (rw [HF.out];done) | (rw [HF.out];simp;done) | (rw [HF.out];simp;omega)),rfl⟩
   ·try (exfalso;omega)
    all_goals (have HF:Hid (allB quotedC 0 40 (bts s) = false):=hid (by rw [Hall.out,decide_eq_false h1];simp);go_wp2_with fail;go_ret;exact ⟨ret_bool (by first | (rw [HF.out];done) | (rw [HF.out];simp;done) | (rw [HF.out];simp;omega)),rfl⟩)
end

/- The reference's Stands and Right. -/
section
open Go.RowKit
def rightB (k:Int) (l:List UInt8) (at_:Int):Bool :=
 if at_ < 0 then false else if k = 1 ∨ k = 2 then allB letterC 1 32 l else if k = 3 then allB quotedC 0 40 l else decide (4 ≤ k ∧ k ≤ 11 ∧ l = [])
end

/- Which tokens may be; what stands for them. -/
section
open Go.RowKit
theorem standsL_len (k:Int) (l:List UInt8):(standsL k l).length ≤ l.length + 3:=by
 by_cases hx:∃ x,(k,x) ∈ signs
 ·obtain ⟨x,hx⟩:=hx
  rw [standsL_sign hx]
  have:∀ y ∈ signs,y.2.length ≤ 3:=by decide
  have:=this _ hx
  dsimp only at this;omega
 ·unfold standsL
  split
  ·omega
  split
  ·simp
  split
  ·simp
  ·rw [List.find?_eq_none.2 (fun x hm=>by simp;intro e;exact hx ⟨x.2,by rw [← e];exact hm⟩)];simp
def checkC (b:Bool):Int:=if b then 0 else 250
theorem check_any (t:Tk) (w:World) (hs:t.text.size ≤ 9223372036854775800) :
 Calls Tryz.prog 113 #[tkV t] w fun e w'=>e = .returned (.int .i64 (checkC t.check)) ∧ Ext w w':=by
 obtain ⟨tk,tt,ta⟩:=t
 have hst:=stands_any ⟨tk,tt,ta⟩
 have hlen:(txt (Tk.stands ⟨tk,tt,ta⟩)).size ≤ 9223372036854775803:=by
  rw [txt_size];unfold Tk.stands;have:=standsL_len tk (bts tt);rw [bts_len] at this;dsimp only at *;omega
 have hbe:=begin_any (txt (Tk.stands ⟨tk,tt,ta⟩))
 rw [bts_txt] at hbe
 have hchk:Tk.check ⟨tk,tt,ta⟩ = (decide ((begL (Tk.stands ⟨tk,tt,ta⟩)).2.2 ≠ 0) && decide ((begL (Tk.stands ⟨tk,tt,ta⟩)).2.2 = (txt (Tk.stands ⟨tk,tt,ta⟩)).size) && decide ((begL (Tk.stands ⟨tk,tt,ta⟩)).1 = tk) && decide (txt (begL (Tk.stands ⟨tk,tt,ta⟩)).2.1 = tt) && decide (0 ≤ ta)):=by
  rw [txt_size]
  have:decide (txt (begL (Tk.stands ⟨tk,tt,ta⟩)).2.1 = tt) = decide ((begL (Tk.stands ⟨tk,tt,ta⟩)).2.1 = bts tt):=by
   rw [Bool.eq_iff_iff,decide_eq_true_iff,decide_eq_true_iff]
   exact ⟨fun h=>by have:=congrArg bts h;rwa [bts_txt] at this,fun h=>by rw [h,txt_bts]⟩
  rw [this]
  rfl
 generalize Tk.stands ⟨tk,tt,ta⟩ = st at *
 generalize txt st = s at *
 generalize begL st = r at *
 obtain ⟨rk,rt,rn⟩:=r
 unfold begV tokV at hbe
 dsimp only at *
 have HC:=hid hchk
 have hr:=RowAt.new w 185 [.int .i64 tk,.string tt,.int .i64 ta]
 have HST:=hid hst
 have HBE:=hid hbe
 clear hchk hst hbe
 unfold tkV
 go_enter Tryz.func113,Tryz.ntmps113
 go_upto_region 1 with fail
 have hx0:=Ext.alloc w (.cells #[.int .i64 tk,.string tt,.int .i64 ta] 185)
 generalize w.alloc (.cells #[.int .i64 tk,.string tt,.int .i64 ta] 185) = w1 at *
 obtain ⟨c0,c1,c2,f0,f1,f2⟩:=hr.facts3
 go_wp2_with fail
 refine (HST.out _ hs).mono ?_
 rintro e w2 ⟨rfl,hx2⟩
 obtain ⟨c0,c1,c2,f0,f1,f2⟩:=(hr.ext hx2).facts3
 go_wp2_with fail
 refine (HBE.out _ (by omega)).mono ?_
 rintro e w3 ⟨rfl,hx3⟩
 obtain ⟨c0,c1,c2,f0,f1,f2⟩:=((hr.ext hx2).ext hx3).facts3
 have hlt:=((hr.ext hx2).ext hx3).lt
 clear hr
 have HX:Hid (Ext w w3):=hid (by repeat (first | exact Ext.refl _ | with_reducible assumption | with_reducible refine Ext.alloc_of ?_ _ | with_reducible refine Ext.drewN_of ?_ _ | with_reducible refine Ext.drew_of ?_ | (with_reducible refine Ext.set_of ?_ ?hsz _;case hsz=>((first | exact Nat.le_refl _ | omega | (simp;omega)))) | with_reducible refine Ext.via (by assumption) ?_))
 clear hx0 hx2 hx3
 by_cases h1:rn = 0
 ·have d1:((rn:Int) == 0) = true:=by simp [h1]
  have HF:Hid (checkC (Tk.check ⟨tk,tt,ta⟩) = 250):=hid (by rw [HC.out,h1];rfl)
  clear h1
  go_wp2_with fail
  go_ret
  exact ⟨ret_int HF.out.symm,HX.out.trans (Ext.alloc _ _)⟩
 have d1:((rn:Int) == 0) = false:=by simpa using h1
 by_cases h2:rn = s.size
 case neg =>
  have d2:((rn:Int) != (s.size:Int)) = true:=by simp;omega
  have HF:Hid (checkC (Tk.check ⟨tk,tt,ta⟩) = 250):=hid (by rw [HC.out,decide_eq_false h2];simp [checkC])
  clear h1 h2
  go_wp2_with fail
  go_ret
  exact ⟨ret_int HF.out.symm,HX.out.trans (Ext.alloc _ _)⟩
 have d2:((rn:Int) != (s.size:Int)) = false:=by simp;omega
 by_cases h3:rk = tk
 case neg =>
  have d3:(rk != tk) = true:=by simpa using h3
  have HF:Hid (checkC (Tk.check ⟨tk,tt,ta⟩) = 250):=hid (by rw [HC.out,decide_eq_false h3];simp [checkC])
  clear h1 h2 h3
  go_wp2_with fail
  go_ret
  exact ⟨ret_int HF.out.symm,HX.out.trans (Ext.alloc _ _)⟩
 have d3:(rk != tk) = false:=by simpa using h3
 by_cases h4:txt rt = tt
 case neg =>
  have d4:((txt rt).toList == tt.toList) = false:=str_no h4
  have HF:Hid (checkC (Tk.check ⟨tk,tt,ta⟩) = 250):=hid (by rw [HC.out,decide_eq_false h4];simp [checkC])
  clear h1 h2 h3 h4
  go_wp2_with fail
  go_ret
  exact ⟨ret_int HF.out.symm,HX.out.trans (Ext.alloc _ _)⟩
 have d4:((txt rt).toList == tt.toList) = true:=str_yes h4
 by_cases h5:ta < 0
 ·have d5:decide (ta < 0) = true:=by simpa using h5
  have HF:Hid (checkC (Tk.check ⟨tk,tt,ta⟩) = 250):=hid (by rw [HC.out,decide_eq_false (show ¬ 0 ≤ ta by omega)];simp [checkC])
  clear h1 h2 h3 h4
  go_wp2_with fail
  go_ret
  exact ⟨ret_int HF.out.symm,HX.out.trans (Ext.alloc _ _)⟩
 ·have d5:decide (ta < 0) = false:=by simpa using h5
  have HF:Hid (checkC (Tk.check ⟨tk,tt,ta⟩) = 0):=hid (by rw [HC.out,decide_eq_true h1,decide_eq_true h2,decide_eq_true h3,decide_eq_true h4,decide_eq_true (show 0 ≤ ta by omega)];rfl)
  clear h1 h2 h3 h4
  go_wp2_with fail
  go_ret
  exact ⟨ret_int HF.out.symm,HX.out.trans (Ext.alloc _ _)⟩
theorem check_yes {t:Tk} (w:World) (hs:t.text.size ≤ 9223372036854775800) (h:t.check = true):Calls Tryz.prog 113 #[tkV t] w fun e w'=>e = .returned (.int .i64 0) ∧ Ext w w' :=
 (check_any t w hs).mono fun e w' ⟨he,hx⟩=>⟨by rw [he,h];rfl,hx⟩
theorem check_no {t:Tk} (w:World) (hs:t.text.size ≤ 9223372036854775800) (h:t.check = false):Calls Tryz.prog 113 #[tkV t] w fun e w'=>e = .returned (.int .i64 250) ∧ Ext w w' :=
 (check_any t w hs).mono fun e w' ⟨he,hx⟩=>⟨by rw [he,h];rfl,hx⟩
end

/- The tokens of a text: plain. -/
section
def skipL (s:List UInt8) (q:Nat):Nat:=q + spanL blankC (s.drop q)
def yieldsF (s:List UInt8):Nat → Nat → List Tk
 | 0,_=>[]
 | f + 1,p=>if p < s.length then
  (⟨(begL (s.drop p)).1,txt (begL (s.drop p)).2.1,p⟩:Tk) :: (if (begL (s.drop p)).2.2 = 0 then [] else yieldsF s f (skipL s (p + (begL (s.drop p)).2.2)))
  else []
def yieldsAt (s:List UInt8) (p:Nat):List Tk:=yieldsF s s.length p
def yields (s:List UInt8):List Tk:=yieldsAt s (skipL s 0)
theorem sign_in {k:Int} (h1:4 ≤ k) (h2:k ≤ 11):∃ x,(k,x) ∈ signs ∧ ((signs.find? (fun x=>decide (x.1 = k))).map (·.2)).getD [] = x:=by
 have hk:k = 4 ∨ k = 5 ∨ k = 6 ∨ k = 7 ∨ k = 8 ∨ k = 9 ∨ k = 10 ∨ k = 11:=by omega
 rcases hk with rfl | rfl | rfl | rfl | rfl | rfl | rfl | rfl <;> exact ⟨_,by simp [signs],rfl⟩
end

/- The reference's Begin: the token that it takes a text to begin with. -/
section
open Go.RowKit
end

/- The reference's token is the program's: plain. -/
section
inductive BegIs:List UInt8 → Int → List UInt8 → Nat → Prop
 | word {l:List UInt8} (h1:1 ≤ spanL letterC l) (h2:spanL letterC l ≤ 32):BegIs l 1 (l.take (spanL letterC l)) (spanL letterC l)
 | key {r:List UInt8} (h1:1 ≤ spanL letterC r) (h2:spanL letterC r ≤ 32):BegIs (64 :: r) 2 (r.take (spanL letterC r)) (spanL letterC r + 1)
 | text {r:List UInt8} (h1:spanL quotedC r ≤ 40) (h2:r[spanL quotedC r]? = some 34):BegIs (34 :: r) 3 (r.take (spanL quotedC r)) (spanL quotedC r + 2)
 | sign {k:Int} {x r:List UInt8} (h:(k,x) ∈ signs):BegIs (x ++ r) k [] x.length
theorem wordN_pos {l:List UInt8} (h:0 < wordN l):wordN l = spanL letterC l ∧ 1 ≤ spanL letterC l ∧ spanL letterC l ≤ 32:=by
 unfold wordN at h ⊢
 split at h
 ·omega
 ·rename_i hn
  rw [if_neg hn];exact ⟨rfl,h,by omega⟩
theorem sign_head {k:Int} {x:List UInt8} (h:(k,x) ∈ signs):∃ c y,x = c :: y ∧ letterC c.toNat = false ∧ c ≠ 64 ∧ c ≠ 34:=by
 simp only [signs,List.mem_cons,List.not_mem_nil,or_false,Prod.mk.injEq] at h
 rcases h with ⟨rfl,rfl⟩ | ⟨rfl,rfl⟩ | ⟨rfl,rfl⟩ | ⟨rfl,rfl⟩ | ⟨rfl,rfl⟩ | ⟨rfl,rfl⟩ | ⟨rfl,rfl⟩ | ⟨rfl,rfl⟩ <;> exact ⟨_,_,rfl,by decide,by decide,by decide⟩
theorem begL_is {l:List UInt8} (h:0 < (begL l).2.2):BegIs l (begL l).1 (begL l).2.1 (begL l).2.2:=by
 by_cases h1:0 < (ask1 l).2.2
 ·rw [begL_1 h1]
  obtain ⟨e,a,b⟩:=wordN_pos (l:=l) h1
  unfold ask1
  dsimp only
  rw [e]
  exact .word a b
 by_cases h2:0 < (ask2 l).2.2
 ·rw [begL_2 h1 h2]
  cases l with
  | nil=>exact absurd h2 (by decide)
  | cons c r =>
   by_cases hc:c = 64 ∧ wordN r ≠ 0
   ·obtain ⟨e,a,b⟩:=wordN_pos (l:=r) (by omega)
    simp only [ask2,if_pos hc]
    rw [e,hc.1]
    exact .key a b
   ·simp only [ask2,if_neg hc,begNo] at h2;omega
 by_cases h3:0 < (ask3 l).2.2
 ·rw [begL_3 h1 h2 h3]
  cases l with
  | nil=>exact absurd h3 (by decide)
  | cons c r =>
   by_cases hc:c = 34 ∧ spanL quotedC r ≤ 40 ∧ r[spanL quotedC r]? = some 34
   ·simp only [ask3,if_pos hc]
    rw [hc.1]
    exact .text hc.2.1 hc.2.2
   ·simp only [ask3,if_neg hc,begNo] at h3;omega
 rw [begL_4 h1 h2 h3] at h ⊢
 unfold ask4 at h ⊢
 cases hf:signs.find? (fun x=>x.2.isPrefixOf l) with
 | none=>rw [hf] at h;exact absurd h (by decide)
 | some x =>
  have hp:x.2.isPrefixOf l = true:=by simpa using List.find?_some hf
  obtain ⟨r,hr⟩:=List.isPrefixOf_iff_prefix.1 hp
  rw [← hr]
  exact .sign (List.mem_of_find?_eq_some hf)
theorem begL_of {l:List UInt8} {k:Int} {t:List UInt8} {n:Nat} (h:BegIs l k t n):begL l = (k,t,n):=by
 cases h with
 | word h1 h2 =>
  have e:wordN l = spanL letterC l:=by unfold wordN;rw [if_neg (by omega)]
  have:0 < (ask1 l).2.2:=by unfold ask1;dsimp only;omega
  rw [begL_1 this];unfold ask1;rw [e]
 | @key r h1 h2 =>
  have e:wordN r = spanL letterC r:=by unfold wordN;rw [if_neg (by omega)]
  have e0:wordN (64 :: r) = 0:=by unfold wordN;rw [spanL_no (by decide)];rfl
  have n1:¬ 0 < (ask1 (64 :: r)).2.2:=by unfold ask1;dsimp only;omega
  have hc:(64:UInt8) = 64 ∧ wordN r ≠ 0:=⟨rfl,by omega⟩
  have e2:ask2 (64 :: r) = (2,r.take (spanL letterC r),spanL letterC r + 1):=by show (if (64:UInt8) = 64 ∧ wordN r ≠ 0 then _ else _) = _;rw [if_pos hc,e]
  rw [begL_2 n1 (by rw [e2];exact Nat.succ_pos _),e2]
 | @text r h1 h2 =>
  have e0:wordN (34 :: r) = 0:=by unfold wordN;rw [spanL_no (by decide)];rfl
  have n1:¬ 0 < (ask1 (34 :: r)).2.2:=by unfold ask1;dsimp only;omega
  have n2:¬ 0 < (ask2 (34 :: r)).2.2:=by simp [ask2,begNo]
  have hc:(34:UInt8) = 34 ∧ spanL quotedC r ≤ 40 ∧ r[spanL quotedC r]? = some 34:=⟨rfl,h1,h2⟩
  have e3:ask3 (34 :: r) = (3,r.take (spanL quotedC r),spanL quotedC r + 2):=by show (if (34:UInt8) = 34 ∧ spanL quotedC r ≤ 40 ∧ r[spanL quotedC r]? = some 34 then _ else _) = _;rw [if_pos hc]
  rw [begL_3 n1 n2 (by rw [e3];exact Nat.succ_pos _),e3]
 | @sign k x r h =>
  obtain ⟨c,y,rfl,hl,h64,h34⟩:=sign_head h
  have n1:¬ 0 < (ask1 (c :: y ++ r)).2.2:=by unfold ask1 wordN;rw [List.cons_append,spanL_no hl];simp
  have n2:¬ 0 < (ask2 (c :: y ++ r)).2.2:=by rw [List.cons_append];simp [ask2,begNo,h64]
  have n3:¬ 0 < (ask3 (c :: y ++ r)).2.2:=by rw [List.cons_append];simp [ask3,begNo,h34]
  rw [begL_4 n1 n2 n3]
  exact ask4_yes h (List.isPrefixOf_iff_prefix.2 ⟨r,rfl⟩)
theorem BegIs.pos {l:List UInt8} {k:Int} {t:List UInt8} {n:Nat} (h:BegIs l k t n):0 < n:=by
 cases h with
 | word h1 h2=>omega
 | key=>omega
 | text=>omega
 | sign h=>obtain ⟨c,y,rfl,_⟩:=sign_head h;simp
theorem spanL_take (p:Int → Bool) (l:List UInt8):spanL p (l.take (spanL p l)) = spanL p l:=by
 have:=spanL_append p (l.take (spanL p l)) [] (spanL_all p l)
 rw [List.append_nil] at this
 rw [this,List.length_take,Nat.min_eq_left (spanL_le p l)];rfl
theorem allB_iff {p:Int → Bool} {lo hi:Nat} {l:List UInt8}:allB p lo hi l = true ↔ spanL p l = l.length ∧ lo ≤ l.length ∧ l.length ≤ hi:=by
 unfold allB
 simp
theorem all_prefix {p:Int → Bool} {a b:List UInt8} (h:spanL p a = a.length):spanL p (a ++ b) = a.length + spanL p b:=by
 refine spanL_append p a b (fun c hc=>?_)
 have:=spanL_all p a
 rw [h,List.take_of_length_le (Nat.le_refl _)] at this
 exact this c hc
end

/- The iterator of tokens. -/
section
open Go.RowKit Go.Shelf
attribute [local go_sem] Oper.semAt_some wide_fn wide_depth
end

/- Read: the walk. -/
section
open Go.RowKit Go.Shelf Go.Sort
attribute [local go_sem] Oper.semAt_some wide_fn wide_depth
end

/- The reference's Read. -/
section
open Go.RowKit
end

/- Few tokens; their plain text. -/
section
open Go.RowKit
theorem elStr:ElT Tryz.prog 22 9 (.string ⟨#[]⟩) 1 16:=⟨Tryz.underlying22,⟨_,rfl,by kernel_rfl,by kernel_rfl,by kernel_rfl⟩,rfl,by decide⟩
end

/- Whether tokens are the same. -/
section
open Go.RowKit
end

/- The number that a token says. -/
section
open Go.RowKit
end

/- The reference's Same, Plain and Number. -/
section
open Go.RowKit
end

/- The reference's Number. -/
section
open Go.RowKit
end

/- What may be, what is a number, and reading on: plain. -/
section
inductive TokIs:Int → List UInt8 → Prop
 | word {l:List UInt8} (h:allB letterC 1 32 l = true):TokIs 1 l
 | key {l:List UInt8} (h:allB letterC 1 32 l = true):TokIs 2 l
 | text {l:List UInt8} (h:allB quotedC 0 40 l = true):TokIs 3 l
 | sign {k:Int} {x:List UInt8} (h:(k,x) ∈ signs):TokIs k []
theorem TokIs.of_right {k:Int} {l:List UInt8} {a:Int} (h:rightB k l a = true):TokIs k l ∧ 0 ≤ a:=by
 unfold rightB at h
 by_cases ha:a < 0
 ·rw [if_pos ha] at h;cases h
 rw [if_neg ha] at h
 by_cases h1:k = 1 ∨ k = 2
 ·rw [if_pos h1] at h
  rcases h1 with rfl | rfl
  ·exact ⟨.word h,by omega⟩
  ·exact ⟨.key h,by omega⟩
 rw [if_neg h1] at h
 by_cases h3:k = 3
 ·rw [if_pos h3] at h;subst h3;exact ⟨.text h,by omega⟩
 rw [if_neg h3] at h
 obtain ⟨h4,h5,rfl⟩:=of_decide_eq_true h
 obtain ⟨x,hx,_⟩:=sign_in h4 h5
 exact ⟨.sign hx,by omega⟩
theorem TokIs.right {k:Int} {l:List UInt8} {a:Int} (h:TokIs k l) (ha:0 ≤ a):rightB k l a = true:=by
 unfold rightB
 rw [if_neg (by omega)]
 cases h with
 | word h=>rw [if_pos (.inl rfl)];exact h
 | key h=>rw [if_pos (.inr rfl)];exact h
 | text h=>rw [if_neg (by omega),if_pos rfl];exact h
 | sign h =>
  have hk:∀ x ∈ signs,4 ≤ x.1 ∧ x.1 ≤ 11:=by decide
  have hk:=hk _ h
  dsimp only at hk
  rw [if_neg (by omega),if_neg (by omega)]
  exact decide_eq_true ⟨hk.1,hk.2,rfl⟩
def Stop (r:List UInt8):Prop:=r = [] ∨ ∃ c y,r = c :: y ∧ blankC c.toNat = true
theorem Stop.letter {r:List UInt8} (h:Stop r):spanL letterC r = 0:=by
 rcases h with rfl | ⟨c,y,rfl,hc⟩
 ·rfl
 ·have:=of_decide_eq_true hc
  exact spanL_no (decide_eq_false (by omega))
theorem TokIs.begins {k:Int} {l:List UInt8} (h:TokIs k l) {r:List UInt8} (hr:Stop r):BegIs (standsL k l ++ r) k l (standsL k l).length:=by
 cases h with
 | word h =>
  obtain ⟨h1,h2,h3⟩:=allB_iff.1 h
  have e:=all_prefix (b:=r) h1
  rw [hr.letter,Nat.add_zero] at e
  have:=BegIs.word (l:=l ++ r) (by omega) (by omega)
  rw [e,List.take_left] at this
  exact this
 | key h =>
  obtain ⟨h1,h2,h3⟩:=allB_iff.1 h
  have e:=all_prefix (b:=r) h1
  rw [hr.letter,Nat.add_zero] at e
  have:=BegIs.key (r:=l ++ r) (by omega) (by omega)
  rw [e,List.take_left] at this
  exact this
 | text h =>
  obtain ⟨h1,h2,h3⟩:=allB_iff.1 h
  have e:=all_prefix (b:=34 :: r) h1
  rw [spanL_no (by decide),Nat.add_zero] at e
  have:=BegIs.text (r:=l ++ 34 :: r) (by omega) (by rw [e,List.getElem?_append_right (Nat.le_refl _),Nat.sub_self];rfl)
  rw [e,List.take_left] at this
  have e2:standsL 3 l ++ r = 34 :: (l ++ 34 :: r):=by
   show (34 :: (l ++ [34])) ++ r = _
   simp
  rw [e2]
  have e3:(standsL 3 l).length = l.length + 2:=by
   show (34 :: (l ++ [34])).length = _
   simp
  rw [e3];exact this
 | sign h=>rw [standsL_sign h];exact .sign h
theorem BegIs.tok {s:List UInt8} {k:Int} {l:List UInt8} {n:Nat} (h:BegIs s k l n):TokIs k l:=by
 cases h with
 | word h1 h2 =>
  have:=spanL_le letterC s
  exact .word (allB_iff.2 ⟨by rw [spanL_take,List.length_take];omega,by rw [List.length_take];omega,by rw [List.length_take];omega⟩)
 | @key r h1 h2 =>
  have:=spanL_le letterC r
  exact .key (allB_iff.2 ⟨by rw [spanL_take,List.length_take];omega,by rw [List.length_take];omega,by rw [List.length_take];omega⟩)
 | @text r h1 h2 =>
  have:=spanL_le quotedC r
  exact .text (allB_iff.2 ⟨by rw [spanL_take,List.length_take];omega,by rw [List.length_take];omega,by rw [List.length_take];omega⟩)
 | sign h=>exact .sign h
theorem checkB_iff {k:Int} {l:List UInt8} {a:Int}:checkB k l a = true ↔ TokIs k l ∧ 0 ≤ a:=by
 unfold checkB
 constructor
 ·intro h
  simp only [Bool.and_eq_true,decide_eq_true_eq] at h
  obtain ⟨⟨⟨⟨h1,h2⟩,h3⟩,h4⟩,h5⟩:=h
  have:=(begL_is (Nat.pos_of_ne_zero h1)).tok
  rw [h3,h4] at this
  exact ⟨this,h5⟩
 ·rintro ⟨h,ha⟩
  have hb:=h.begins (r:=[]) (.inl rfl)
  rw [List.append_nil] at hb
  have hp:=hb.pos
  rw [begL_of hb]
  simp [ha]
  intro h0;rw [h0] at hp;simp at hp
theorem right_check (k:Int) (l:List UInt8) (a:Int):rightB k l a = checkB k l a:=by
 rw [Bool.eq_iff_iff,checkB_iff]
 exact ⟨TokIs.of_right,fun h=>h.1.right h.2⟩
/-! Numbers. -/
end

/- The document's state: the kind of a token, and taking it. -/
section
open Go.RowKit Go.Shelf Go.Sort
attribute [local go_sem] Oper.semAt_some wide_fn wide_depth
end

/- A region that draws its order, by what holds when some of its operations have been carried out. No program in sight. -/
section
open Go.RowKit Go.Sort
section
variable {P:Program} {md:Region.Mode} {ops:Array Oper} {Q:Exit → Act → World → Prop}
def acycB (md:Region.Mode) (ops:Array Oper):Bool:=(List.range ops.size).all fun i=>match ops[i]? with
 | none=>true
 | some o=>o.after.all (fun e=>!Region.binds md e || decide (e.on < i))
theorem acyc_ready {listed:Array Bool} (hB:acycB md ops = true) (hz:listed.size = ops.size) (hr:Region.ready md ops listed = []):∀ j,j < ops.size → listed.getD j true = true:=by
 intro j
 induction j using Nat.strongRecOn with
 | _ j ih =>
  intro hj
  refine Classical.byContradiction fun hne=>?_
  have hf:listed.getD j true = false:=by simpa using hne
  have hm:j ∈ Region.ready md ops listed:=by
   refine mem_ready.2 ⟨hf,ops[j],Array.getElem?_eq_getElem hj,fun e he hb=>?_⟩
   have h1:=List.all_eq_true.1 hB j (List.mem_range.2 hj)
   simp only [Array.getElem?_eq_getElem hj] at h1
   have h2:=Array.all_eq_true'.1 h1 e he
   simp only [hb,Bool.not_true,Bool.false_or,decide_eq_true_eq] at h2
   have h3:=ih e.on h2 (by omega)
   have hlt:e.on < listed.size:=by omega
   simp only [Array.getD,hlt,dif_pos] at h3 ⊢
   exact h3
  rw [hr] at hm
  cases hm
theorem wpAny_of_inv {R:Array Bool → Act → World → Prop} (hB:acycB md ops = true)
 (hs:∀ listed a w i o,listed.size = ops.size → ops[i]? = some o → i ∈ Region.ready md ops listed → R listed a w → opG P ops Q o (R (listed.setIfInBounds i true)) a w)
 (he:∀ listed a w,listed.size = ops.size → (∀ j,j < ops.size → listed.getD j true = true) → R listed a w → Q .normal a w) :
 ∀ (f:Nat) (listed:Array Bool) (a:Act) (w:World),listed.size = ops.size → listed.toList.count false = f → R listed a w → wpAny P md ops Q f listed a w
 | 0,listed,a,w,hz,hc,h=>by
  have hr:Region.ready md ops listed = []:=by
   refine List.eq_nil_iff_forall_not_mem.2 fun i hi=>?_
   obtain ⟨hf,o,ho,_⟩:=mem_ready.1 hi
   have hlt:i < listed.size:=by rw [hz];exact (Array.getElem?_eq_some_iff.1 ho).1
   simp only [Array.getD,hlt,dif_pos] at hf
   have hm:false ∈ listed.toList:=by
    have h1:=List.getElem_mem (l:=listed.toList) (n:=i) (by simpa using hlt)
    have h2:listed.toList[i]'(by simpa using hlt) = false:=by simpa using hf
    rwa [h2] at h1
   have:=List.count_pos_iff.2 hm
   omega
  exact ⟨hr,he listed a w hz (acyc_ready hB hz hr) h⟩
 | f + 1,listed,a,w,hz,hc,h=>by
  refine ⟨fun hr=>he listed a w hz (acyc_ready hB hz hr) h,fun i hi=>?_⟩
  obtain ⟨hf,o,ho,hdep⟩:=mem_ready.1 hi
  have hlt:i < listed.size:=by rw [hz];exact (Array.getElem?_eq_some_iff.1 ho).1
  simp only [Array.getD,hlt,dif_pos] at hf
  refine wpOp_of_opG ho (opG_mono (fun a' w' h'=>wpAny_of_inv hB hs he f _ a' w' (by simpa using hz) ?_ h') (hs listed a w i o hz ho hi h))
  have hl:i < listed.toList.length:=by simpa using hlt
  have hg:listed.toList[i] = false:=by simpa using hf
  rw [Array.toList_setIfInBounds,List.count_set hl,hg]
  show listed.toList.count false - 1 + 0 = f
  omega
def puts (a:Act):List Tmp → List Value → Act
 | s :: ss,v :: vs=>puts (a.put (some s) v) ss vs
 | _,_=>a
def depB (md:Region.Mode) (ops:Array Oper) (dep:Nat → List Nat):Bool:=(List.range ops.size).all fun i=>match ops[i]? with
 | none=>true
 | some o=>(dep i).all fun d=>o.after.any (fun e=>Region.binds md e && e.on == d)
def updB (S:Nat → Bool) (i:Nat):Nat → Bool:=fun j=>if j = i then true else S j
theorem updB_at (S:Nat → Bool) (i:Nat):updB S i i = true:=if_pos rfl
theorem updB_ne (S:Nat → Bool) {i j:Nat} (h:j ≠ i):updB S i j = S j:=if_neg h
def stepsI (P:Program) (Q:Exit → Act → World → Prop) (l:Array Oper) (a0:Act) (slots:List Tmp) (dep:Nat → List Nat) (F:(Nat → Bool) → List Value → World → Prop):List Oper → Nat → Prop
 | [],_=>True
 | o :: r,i=>(∀ S us w',(∀ d ∈ dep i,S d = true) → S i = false → F S us w' → ∀ K:Act → World → Prop,(∀ us' w'',F (updB S i) us' w'' → K (puts a0 slots us') w'') →
  if Region.wanted o (yielded l (puts a0 slots us).tmps) = true then o.wp P (puts a0 slots us) w' K Q else K ((puts a0 slots us).put o.dst undef) w') ∧ stepsI P Q l a0 slots dep F r (i + 1)
theorem stepsI_at {l:Array Oper} {a0:Act} {slots:List Tmp} {dep:Nat → List Nat} {F:(Nat → Bool) → List Value → World → Prop}:∀ (r:List Oper) (k:Nat),stepsI P Q l a0 slots dep F r k → ∀ i o,r[i]? = some o →
 (∀ S us w',(∀ d ∈ dep (k + i),S d = true) → S (k + i) = false → F S us w' → ∀ K:Act → World → Prop,(∀ us' w'',F (updB S (k + i)) us' w'' → K (puts a0 slots us') w'') →
  if Region.wanted o (yielded l (puts a0 slots us).tmps) = true then o.wp P (puts a0 slots us) w' K Q else K ((puts a0 slots us).put o.dst undef) w')
 | [],_,_,i,o,h=>by simp at h
 | x :: r,k,hs,0,o,h=>by
  simp only [List.getElem?_cons_zero,Option.some.injEq] at h
  subst h
  exact hs.1
 | x :: r,k,hs,i + 1,o,h=>by
  rw [List.getElem?_cons_succ] at h
  have:=stepsI_at r (k + 1) hs.2 i o h
  rw [show k + 1 + i = k + (i + 1) from by omega] at this
  exact this
theorem wp_region_inv {id:Nat} {a0:Act} {w:World} {l:List Oper} (slots:List Tmp) (us0:List Value) (dep:Nat → List Nat) (F:(Nat → Bool) → List Value → World → Prop)
 (hm:P.follows .mixedOrders = true) (hB:acycB .any l.toArray = true) (hD:depB .any l.toArray dep = true)
 (ha:puts a0 slots us0 = a0) (h0:F (fun _=>false) us0 w.drew)
 (hst:stepsI P Q l.toArray a0 slots dep F l 0)
 (he:∀ S us w',(∀ j,j < l.length → S j = true) → F S us w' → Q .normal (puts a0 slots us) w'):(Code.region id l.toArray true).wp P Q a0 w:=by
 have hs:∀ i o,l.toArray[i]? = some o → ∀ S us w',(∀ d ∈ dep i,S d = true) → S i = false → F S us w' → ∀ K:Act → World → Prop,(∀ us' w'',F (updB S i) us' w'' → K (puts a0 slots us') w'') →
  if Region.wanted o (yielded l.toArray (puts a0 slots us).tmps) = true then o.wp P (puts a0 slots us) w' K Q else K ((puts a0 slots us).put o.dst undef) w':=fun i o ho=>by
  have:=stepsI_at l 0 hst i o (by simpa using ho)
  rw [Nat.zero_add] at this
  exact this
 refine wp_region_any hm ?_
 refine wpAny_of_inv (md:=.any) (R:=fun listed a w'=>∃ us,a = puts a0 slots us ∧ F (fun j=>listed.getD j false) us w') hB ?_ ?_ _ _ _ _ (by simp) (by simp) ⟨us0,ha.symm,?_⟩
 ·rintro listed a w' i o hz ho hi ⟨us,rfl,hF⟩
  obtain ⟨hf,o',ho',hdep⟩:=mem_ready.1 hi
  obtain rfl:o = o':=Option.some.inj (ho.symm.trans ho')
  have hlt:i < listed.size:=by rw [hz];exact (Array.getElem?_eq_some_iff.1 ho).1
  have hlt':i < l.toArray.size:=by omega
  have hfi:listed.getD i false = false:=by
   simp only [Array.getD,hlt,dif_pos] at hf ⊢
   exact hf
  refine hs i o ho (fun j=>listed.getD j false) us w' (fun d hd=>?_) hfi hF _ (fun us' w'' h'=>⟨us',rfl,?_⟩)
  ·have h1:=List.all_eq_true.1 hD i (List.mem_range.2 hlt')
   simp only [ho] at h1
   have h2:=List.all_eq_true.1 h1 d hd
   obtain ⟨e,he1,he2⟩:=Array.any_eq_true'.1 h2
   simp only [Bool.and_eq_true,beq_iff_eq] at he2
   have h3:=hdep e he1 he2.1
   rw [he2.2] at h3
   exact h3
  ·have:(fun j=>(listed.setIfInBounds i true).getD j false) = updB (fun j=>listed.getD j false) i:=by
    funext j
    by_cases e:j = i
    ·subst e;rw [updB_at];simp [Array.getD,hlt]
    ·rw [updB_ne _ e,getD_set_ne false (Ne.symm e)]
   rw [this]
   exact h'
 ·rintro listed a w' hz hall ⟨us,rfl,hF⟩
  refine he _ us w' (fun j hj=>?_) hF
  have h1:=hall j (by simpa using hj)
  have hlt:j < listed.size:=by rw [hz];simpa using hj
  simp only [Array.getD,hlt,dif_pos] at h1 ⊢
  exact h1
 ·have:(fun j=>(Array.replicate l.toArray.size false).getD j false) = fun _=>false:=by
   funext j
   simp only [Array.getD]
   split
   ·simp
   ·rfl
  rw [this]
  exact h0
end
end

/- Two structs are made by two calls, each kept in a box of its own, in one statement: whatever order the calls, the boxes and the stores come in. No program in sight. -/
section
open Go.RowKit Go.Sort
section
variable {w0:World} {V0 V1:Value} {O0 O1:World → Value → Prop} {T0 T1:TypeId} {z0 z1:List Value} {S:Nat → Bool} {l0 c0 l1 c1 x0 x1:Value} {W:World}
end
theorem puts_self:∀ (a:Act) (slots:List Tmp),puts a slots (slots.map fun s=>a.tmps.getD s undef) = a
 | _,[]=>rfl
 | a,s :: ss=>by
  have h:a.put (some s) (a.tmps.getD s undef) = a:=by
   obtain ⟨t,d⟩:=a
   show (⟨t.setIfInBounds s (t.getD s undef),d⟩:Act) = ⟨t,d⟩
   congr 1
   apply Array.ext_getElem?
   intro i
   rw [Array.getElem?_setIfInBounds]
   split
   ·rename_i e
    subst e
    split
    ·rename_i hl
     simp [Array.getD,hl]
    ·rename_i hl
     rw [Array.getElem?_eq_none (by omega)]
   ·rfl
  show puts (a.put (some s) (a.tmps.getD s undef)) ss (ss.map fun s=>a.tmps.getD s undef) = a
  rw [h]
  exact puts_self a ss
end

end Go.Proofs.YtkmbnghghbfkdaaGreat
