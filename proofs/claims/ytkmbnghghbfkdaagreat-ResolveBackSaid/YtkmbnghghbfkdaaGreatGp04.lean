/- Hash, and the reference's. -/
import Derived.Test.YtkmbnghghbfkdaaGreatGp03
import Derived.Test.YtkmbnghghbfkdaaGreatProg
set_option linter.unusedSimpArgs false
set_option linter.unusedVariables false
set_option maxHeartbeats 2000000
set_option maxRecDepth 100000
namespace Go.Proofs.YtkmbnghghbfkdaaGreat
open Go.Lib (hid)

section
open Go.RowKit
theorem hash_any (s:ByteArray) (w:World) (hs:s.size ≤ 9223372036854775807) :
 Calls Tryz.prog 145 #[.string s] w fun e w'=>e = .returned (.int .u64 (hashL 14695981039346656037 (sbt s))) ∧ w = w':=by
 go_enter Tryz.func145,Tryz.ntmps145
 go_wp2
 go_loop [3,4,7] (fun n _ i=>∃ k:Nat,k ≤ s.size ∧ i = .int .i64 k ∧ n = .int .u64 (hashL 14695981039346656037 ((sbt s).take k))) (fun _ _ i=>s.size - (intOf i).toNat)
 case atStart=>exact ⟨0,Nat.zero_le _,rfl,rfl⟩
 case round =>
  obtain ⟨k,hk,rfl,rfl⟩:=hrel
  by_cases hlt:k < s.size
  ·have hr:=hashL_range 14695981039346656037 ((sbt s).take k) (by omega) (by omega)
   have hb:s[k].toNat < 256:=s[k].toNat_lt
   go_wp2
   go_round
   case rel=>exact ⟨k + 1,by omega,by go_num,int_congr (by rw [xor_step _ _ hr.1 hr.2 (by omega) (by omega),take_snoc _ k (by rw [sbt_len];exact hlt),hashL_snoc,sbt_get s k hlt])⟩
   case measure=>simp [intOf];omega
  ·go_wp2
   go_ret
   exact ⟨ret_int (by rw [List.take_of_length_le (by rw [sbt_len];omega)]),rfl⟩
theorem refHash_any (s:ByteArray) (w:World) (hs:s.size ≤ 9223372036854775807) :
 Calls Tryz.prog 108 #[.string s] w fun e w'=>e = .returned (.int .u64 (hashL 14695981039346656037 (sbt s))) ∧ ∃ n,w' = w.drewN n:=by
 go_enter Tryz.func108,Tryz.ntmps108
 go_wp2
 go_loopw [3,4,5,6,7,10] (fun h _ _ _ _ i wr=>(∃ n,wr = w.drewN n) ∧ ∃ k:Nat,k ≤ s.size ∧ i = .int .i64 k ∧ h = .int .u64 (hashL 14695981039346656037 ((sbt s).take k))) (fun _ _ _ _ _ i _=>s.size - (intOf i).toNat)
 case atStart=>exact ⟨⟨0,rfl⟩,0,Nat.zero_le _,rfl,rfl⟩
 case round =>
  obtain ⟨⟨n0,rfl⟩,k,hk,rfl,rfl⟩:=hrel
  by_cases hlt:k < s.size
  ·obtain ⟨hr0,hr1⟩:=hashL_range 14695981039346656037 ((sbt s).take k) (by omega) (by omega)
   have hb:s[k].toNat < 256:=s[k].toNat_lt
   have hfin:∀ n:Int,n = hashStep (hashL 14695981039346656037 ((sbt s).take k)) s[k].toNat → n = hashL 14695981039346656037 ((sbt s).take (k + 1)):=fun n hn=>by
    rw [hn,take_snoc _ k (by rw [sbt_len];exact hlt),hashL_snoc,sbt_get s k hlt]
   generalize hashL 14695981039346656037 ((sbt s).take k) = h at hr0 hr1 hfin
   obtain ⟨H,rfl⟩:=Int.eq_ofNat_of_zero_le hr0
   have Hfin:=hid hfin
   clear hfin
   go_wp2_with fail
   go_loopw [6,7,15] (fun t b i wr=>(∃ n,wr = w.drewN n) ∧ ∃ j bt tn:Nat,j ≤ 8 ∧ bt = 2 ^ j ∧ tn = turn (H % 256) s[k].toNat j ∧ i = .int .i64 j ∧ b = .int .u64 bt ∧ t = .int .u64 tn) (fun _ _ i _=>8 - (intOf i).toNat)
   case atStart=>exact ⟨⟨n0,rfl⟩,0,1,0,Nat.zero_le _,rfl,rfl,rfl,rfl,rfl⟩
   case round =>
    obtain ⟨⟨n1,rfl⟩,j,bt,tn,hj,hbt,htn,rfl,rfl,rfl⟩:=hrel
    have hb1:0 < bt:=by rw [hbt];exact Nat.pow_pos (by omega)
    have hb2:bt ≤ 256:=by rw [hbt];exact Nat.pow_le_pow_right (by omega:0 < 2) hj
    have ht2:tn < bt:=by rw [htn,hbt];exact turn_lt _ _ _
    by_cases hj8:j < 8
    ·have hb3:2 * bt = 2 ^ (j + 1):=by rw [hbt,Nat.pow_succ];omega
     by_cases hne:H % 256 / bt % 2 = s[k].toNat / bt % 2
     ·have hs2:tn = turn (H % 256) s[k].toNat (j + 1):=by rw [turn_succ,← hbt,if_neg (by simpa using hne),← htn]
      have hd:(((H:Int) % 256 / (bt:Int)).tmod 2 != (IntKind.u64.wrap ((s[k].toNat:Int) / (bt:Int))).tmod 2) = false:=by
       have e1:((H:Int) % 256 / (bt:Int)).tmod 2 = ((H % 256 / bt % 2:Nat):Int):=rfl
       have e2:(IntKind.u64.wrap ((s[k].toNat:Int) / (bt:Int))).tmod 2 = ((s[k].toNat / bt % 2:Nat):Int):=by
        have h1:s[k].toNat / bt < 18446744073709551616:=Nat.lt_of_le_of_lt (Nat.div_le_self _ _) (by omega)
        have h2:(s[k].toNat:Int) / (bt:Int) = ((s[k].toNat / bt:Nat):Int):=rfl
        rw [wrap64,h2]
        generalize s[k].toNat / bt = q at h1
        rw [show (q:Int) % 18446744073709551616 = q from by omega]
        rfl
       rw [e1,e2,hne];simp
      have Hs2:=hid hs2
      have Hb3:=hid hb3
      clear hs2 hb3 hbt htn hne hr0 hr1
      go_wp2_with fail
      go_quiet (fail)
      go_wp2
      go_roundw
      case rel=>exact ⟨⟨_,rfl⟩,j + 1,2 * bt,tn,by omega,Hb3.out,Hs2.out,by go_num,int_congr (by omega),rfl⟩
      case measure=>simp [intOf];omega
     ·have hs2:tn + bt = turn (H % 256) s[k].toNat (j + 1):=by rw [turn_succ,← hbt,if_pos (by simpa using hne),← htn]
      have hd:(((H:Int) % 256 / (bt:Int)).tmod 2 != (IntKind.u64.wrap ((s[k].toNat:Int) / (bt:Int))).tmod 2) = true:=by
       have e1:((H:Int) % 256 / (bt:Int)).tmod 2 = ((H % 256 / bt % 2:Nat):Int):=rfl
       have e2:(IntKind.u64.wrap ((s[k].toNat:Int) / (bt:Int))).tmod 2 = ((s[k].toNat / bt % 2:Nat):Int):=by
        have h1:s[k].toNat / bt < 18446744073709551616:=Nat.lt_of_le_of_lt (Nat.div_le_self _ _) (by omega)
        have h2:(s[k].toNat:Int) / (bt:Int) = ((s[k].toNat / bt:Nat):Int):=rfl
        rw [wrap64,h2]
        generalize s[k].toNat / bt = q at h1
        rw [show (q:Int) % 18446744073709551616 = q from by omega]
        rfl
       rw [e1,e2];exact bne_iff_ne.2 (fun h=>hne (Int.ofNat.inj h))
      have Hs2:=hid hs2
      have Hb3:=hid hb3
      clear hs2 hb3 hbt htn hne hr0 hr1
      go_wp2_with fail
      go_quiet (fail)
      go_wp2
      go_roundw
      case rel=>exact ⟨⟨_,rfl⟩,j + 1,2 * bt,tn + bt,by omega,Hb3.out,Hs2.out,by go_num,int_congr (by omega),int_congr (by omega)⟩
      case measure=>simp [intOf];omega
    ·obtain rfl:j = 8:=by omega
     have hx:=xor_turn H s[k].toNat (by omega)
     rw [← htn] at hx
     have hle:H % 256 ≤ H:=Nat.mod_le _ _
     have Hx:=hid hx
     clear hx htn hbt
     go_wp2_with fail
     go_roundw
     case rel =>
      refine ⟨⟨_,rfl⟩,k + 1,by omega,by go_num,int_congr (Hfin.out _ ?_)⟩
      have hx:=Hx.out
      rw [wrap64]
      unfold hashStep
      rw [Int.toNat_natCast,Int.toNat_natCast,hx]
      congr 2
      omega
     case measure=>simp [intOf];omega
  ·go_wp2
   go_ret
   exact ⟨ret_int (by rw [List.take_of_length_le (by rw [sbt_len];omega)]),_,rfl⟩
end

/- Tables: the plain law, no program in sight. -/
section
def hit (T:List ByteArray) (S:List Int) (s:ByteArray) (at_:Nat):Bool:=S.getD at_ 0 == 0 || decide (T.getD (S.getD at_ 0 - 1).toNat ⟨#[]⟩ = s)
def hashN (s:ByteArray):Nat:=(hashL 14695981039346656037 (sbt s)).toNat
def probe (m:Nat) (s:ByteArray) (k:Nat):Nat:=(hashN s + k) % m
def placeFrom (T:List ByteArray) (S:List Int) (s:ByteArray):Nat → Nat → Int
 | 0,_=>-1
 | f + 1,k=>if hit T S s (probe S.length s k) then probe S.length s k else placeFrom T S s f (k + 1)
def placeF (T:List ByteArray) (S:List Int) (s:ByteArray):Int:=placeFrom T S s S.length 0
theorem placeFrom_no (T:List ByteArray) (S:List Int) (s:ByteArray) (f k:Nat):placeFrom T S s f k = -1 ↔ ∀ j,k ≤ j → j < k + f → hit T S s (probe S.length s j) = false:=by
 induction f generalizing k with
 | zero=>simp [placeFrom];intro j h1 h2;omega
 | succ f ih =>
  unfold placeFrom
  cases h:hit T S s (probe S.length s k) with
  | true =>
   simp only [if_true]
   constructor
   ·intro h';omega
   ·intro h';have:=h' k (Nat.le_refl _) (by omega);rw [h] at this;cases this
  | false =>
   simp only [Bool.false_eq_true,if_false]
   rw [ih]
   constructor
   ·intro h' j h1 h2
    rcases Nat.eq_or_lt_of_le h1 with rfl | h1
    ·exact h
    ·exact h' j (by omega) (by omega)
   ·intro h' j h1 h2;exact h' j (by omega) (by omega)
theorem placeFrom_yes (T:List ByteArray) (S:List Int) (s:ByteArray) (f k p:Nat):placeFrom T S s f k = p ↔ ∃ j,k ≤ j ∧ j < k + f ∧ probe S.length s j = p ∧ hit T S s p = true ∧ ∀ i,k ≤ i → i < j → hit T S s (probe S.length s i) = false:=by
 induction f generalizing k with
 | zero=>simp only [placeFrom];constructor
         ·intro h;omega
         ·rintro ⟨j,h1,h2,_⟩;omega
 | succ f ih =>
  unfold placeFrom
  cases h:hit T S s (probe S.length s k) with
  | true =>
   simp only [if_true]
   constructor
   ·intro h'
    have h':probe S.length s k = p:=by omega
    exact ⟨k,Nat.le_refl _,by omega,h',h' ▸ h,fun i h1 h2=>by omega⟩
   ·rintro ⟨j,h1,h2,h3,h4,h5⟩
    rcases Nat.eq_or_lt_of_le h1 with rfl | h1
    ·rw [h3]
    ·have:=h5 k (Nat.le_refl _) h1;rw [h] at this;cases this
  | false =>
   simp only [Bool.false_eq_true,if_false]
   rw [ih]
   constructor
   ·rintro ⟨j,h1,h2,h3,h4,h5⟩
    refine ⟨j,by omega,by omega,h3,h4,fun i hi1 hi2=>?_⟩
    rcases Nat.eq_or_lt_of_le hi1 with rfl | hi1
    ·exact h
    ·exact h5 i (by omega) hi2
   ·rintro ⟨j,h1,h2,h3,h4,h5⟩
    rcases Nat.eq_or_lt_of_le h1 with rfl | h1
    ·rw [h3,h4] at h;cases h
    ·exact ⟨j,by omega,by omega,h3,h4,fun i hi1 hi2=>h5 i (by omega) hi2⟩
theorem placeFrom_cases (T:List ByteArray) (S:List Int) (s:ByteArray) (f k:Nat):placeFrom T S s f k = -1 ∨ ∃ p:Nat,placeFrom T S s f k = p:=by
 induction f generalizing k with
 | zero=>exact .inl rfl
 | succ f ih =>
  unfold placeFrom
  split
  ·exact .inr ⟨_,rfl⟩
  ·exact ih _
theorem probe_lt (m:Nat) (s:ByteArray) (k:Nat) (hm:0 < m):probe m s k < m:=Nat.mod_lt _ hm
theorem probe_onto (m:Nat) (s:ByteArray) (p:Nat) (hp:p < m):∃ k,k < m ∧ probe m s k = p:=by
 refine ⟨(p + m - hashN s % m) % m,Nat.mod_lt _ (by omega),?_⟩
 have h1:=Nat.mod_lt (hashN s) (show 0 < m by omega)
 unfold probe
 rw [Nat.add_mod,Nat.mod_mod,← Nat.add_mod,Nat.add_mod,Nat.add_mod_mod,show hashN s % m + (p + m - hashN s % m) = p + m from by omega]
 simp [Nat.mod_eq_of_lt hp]
theorem placeF_yes {T:List ByteArray} {S:List Int} {s:ByteArray} {p:Nat}:placeF T S s = p ↔ ∃ j,j < S.length ∧ probe S.length s j = p ∧ hit T S s p = true ∧ ∀ i,i < j → hit T S s (probe S.length s i) = false:=by
 unfold placeF
 rw [placeFrom_yes]
 constructor
 ·rintro ⟨j,_,h2,h3,h4,h5⟩;exact ⟨j,by omega,h3,h4,fun i hi=>h5 i (Nat.zero_le _) hi⟩
 ·rintro ⟨j,h2,h3,h4,h5⟩;exact ⟨j,Nat.zero_le _,by omega,h3,h4,fun i _ hi=>h5 i hi⟩
theorem placeF_lt {T:List ByteArray} {S:List Int} {s:ByteArray} {p:Nat} (h:placeF T S s = p):p < S.length:=by
 obtain ⟨j,h1,h2,_⟩:=placeF_yes.1 h
 rw [← h2];exact probe_lt _ _ _ (by omega)
theorem placeF_some {T:List ByteArray} {S:List Int} {s:ByteArray} {q:Nat} (hq:q < S.length) (h:hit T S s q = true):∃ p:Nat,placeF T S s = p:=by
 rcases placeFrom_cases T S s S.length 0 with h' | h'
 ·rw [placeFrom_no] at h'
  obtain ⟨k,h1,h2⟩:=probe_onto S.length s q hq
  have:=h' k (Nat.zero_le _) (by omega)
  rw [h2,h] at this;cases this
 ·exact h'
def usedN (S:List Int):Nat:=(S.filter (fun x=>decide (0 < x))).length
structure Laid (T:List ByteArray) (S:List Int) (n:Nat):Prop where
 range:∀ x ∈ S,0 ≤ x ∧ x ≤ n
 used:usedN S = n
 at_:∀ i (h:i < n) (h':i < T.length),∃ p:Nat,placeF T S T[i] = p ∧ S.getD p 0 = i + 1
def Distinct (T:List ByteArray):Prop:=∀ i j (hi:i < T.length) (hj:j < T.length),T[i] = T[j] → i = j
theorem Laid.free {T:List ByteArray} {S:List Int} {n:Nat} (h:Laid T S n) (hn:n < S.length):∃ q,q < S.length ∧ S.getD q 0 = 0:=by
 refine Classical.byContradiction fun hne=>?_
 have hall:∀ x ∈ S,decide (0 < x) = true:=by
  intro x hx
  obtain ⟨q,hq,rfl⟩:=List.getElem_of_mem hx
  have h0:=(h.range _ hx).1
  have:S[q] ≠ 0:=fun e=>hne ⟨q,hq,by simp [List.getD,hq,e]⟩
  simp;omega
 have:=h.used
 unfold usedN at this
 rw [List.filter_eq_self.2 hall] at this
 omega
theorem hit_zero {T:List ByteArray} {S:List Int} {s:ByteArray} {q:Nat} (h:S.getD q 0 = 0):hit T S s q = true:=by unfold hit;rw [h];rfl
theorem Laid.place {T:List ByteArray} {S:List Int} {n:Nat} (h:Laid T S n) (hn:n < S.length) (s:ByteArray):∃ p:Nat,placeF T S s = p ∧ p < S.length ∧ hit T S s p = true:=by
 obtain ⟨q,hq,h0⟩:=h.free hn
 obtain ⟨p,hp⟩:=placeF_some hq (hit_zero (T:=T) (s:=s) h0)
 obtain ⟨j,h1,h2,h3,_⟩:=placeF_yes.1 hp
 exact ⟨p,hp,placeF_lt hp,h3⟩
theorem getD_mem {S:List Int} {q:Nat} (h:q < S.length):S.getD q 0 ∈ S:=by
 simp [List.getD,h]
theorem getD_at {T:List ByteArray} {i:Nat} (h:i < T.length):T.getD i ⟨#[]⟩ = T[i]:=by simp [List.getD,h]
theorem Laid.hit_ {T:List ByteArray} {S:List Int} {n:Nat} (h:Laid T S n) (hT:n ≤ T.length) {s:ByteArray} {p:Nat} (hp:p < S.length) (hh:hit T S s p = true) :
 S.getD p 0 = 0 ∨ ∃ i:Nat,∃ hi:i < n,S.getD p 0 = i + 1 ∧ T[i] = s:=by
 unfold hit at hh
 rw [Bool.or_eq_true] at hh
 rcases hh with hh | hh
 ·exact .inl (by simpa using hh)
 ·have hr:=h.range _ (getD_mem hp)
  by_cases h0:S.getD p 0 = 0
  ·exact .inl h0
  ·refine .inr ⟨(S.getD p 0 - 1).toNat,by omega,by omega,?_⟩
   have hlt:(S.getD p 0 - 1).toNat < T.length:=by omega
   have:=of_decide_eq_true hh
   rw [← this];exact (getD_at hlt).symm
theorem Laid.place_free {T:List ByteArray} {S:List Int} {n:Nat} (h:Laid T S n) (hT:n ≤ T.length) (hn:n < S.length) {s:ByteArray} (hs:∀ i (hi:i < n),T[i] ≠ s) :
 ∃ p:Nat,placeF T S s = p ∧ p < S.length ∧ S.getD p 0 = 0:=by
 obtain ⟨p,h1,h2,h3⟩:=h.place hn s
 rcases h.hit_ hT h2 h3 with h4 | ⟨i,hi,_,h5⟩
 ·exact ⟨p,h1,h2,h4⟩
 ·exact absurd h5 (hs i hi)
theorem getD_set_neT {S:List Int} {p q:Nat} (h:p ≠ q) (x:Int):(S.set p x).getD q 0 = S.getD q 0:=by simp [List.getD,List.getElem?_set_ne h]
theorem getD_set_eq {S:List Int} {p:Nat} (h:p < S.length) (x:Int):(S.set p x).getD p 0 = x:=by simp [List.getD,h]
theorem hit_set_ne {T:List ByteArray} {S:List Int} {s:ByteArray} {p q:Nat} (h:p ≠ q) (x:Int):hit T (S.set p x) s q = hit T S s q:=by unfold hit;rw [getD_set_neT h]
theorem usedN_set {S:List Int} {p:Nat} (h:p < S.length) (h0:S.getD p 0 = 0) (x:Int) (hx:0 < x):usedN (S.set p x) = usedN S + 1:=by
 induction S generalizing p with
 | nil=>simp at h
 | cons y S ih =>
  cases p with
  | zero =>
   simp at h0
   subst h0
   simp [usedN,hx]
  | succ p =>
   have:=ih (p:=p) (by simpa using h) (by simpa using h0)
   unfold usedN at *
   simp only [List.set_cons_succ,List.filter_cons]
   split <;> simp [this]
theorem Laid.set {T:List ByteArray} {S:List Int} {n:Nat} (h:Laid T S n) (hn:n < T.length) (hS:n < S.length) (hd:Distinct T) {p:Nat} (hp:placeF T S T[n] = p):p < S.length ∧ S.getD p 0 = 0 ∧ Laid T (S.set p (n + 1)) (n + 1):=by
 obtain ⟨p',h1,h2,h3⟩:=h.place_free (Nat.le_of_lt hn) hS (s:=T[n]) (fun i hi e=>by have:=hd i n (by omega) hn e;omega)
 obtain rfl:p' = p:=by rw [hp] at h1;omega
 refine ⟨h2,h3,?_,?_,?_⟩
 ·intro x hx
  rcases List.mem_or_eq_of_mem_set hx with hx | rfl
  ·have:=h.range x hx;omega
  ·omega
 ·rw [usedN_set h2 h3 _ (by omega),h.used]
 ·intro i hi hiT
  rcases Nat.lt_or_ge i n with hin | hin
  ·obtain ⟨q,q1,q2⟩:=h.at_ i hin hiT
   have hne:p' ≠ q:=by rintro rfl;rw [h3] at q2;omega
   refine ⟨q,?_,by rw [getD_set_neT hne];exact q2⟩
   obtain ⟨j,j1,j2,j3,j4⟩:=placeF_yes.1 q1
   refine placeF_yes.2 ⟨j,by simpa using j1,by simpa using j2,by rw [hit_set_ne hne];exact j3,fun i' hi'=>?_⟩
   have:=j4 i' hi'
   rw [List.length_set]
   by_cases e:p' = probe S.length T[i] i'
   ·rw [← e,hit_zero h3] at this;cases this
   ·rw [hit_set_ne e];exact this
  ·obtain rfl:i = n:=by omega
   refine ⟨p',?_,getD_set_eq h2 _⟩
   obtain ⟨j,j1,j2,j3,j4⟩:=placeF_yes.1 hp
   refine placeF_yes.2 ⟨j,by simpa using j1,by simpa using j2,?_,fun i' hi'=>?_⟩
   ·unfold hit
    rw [getD_set_eq h2,show ((i:Int) + 1 - 1).toNat = i from by omega]
    simp [List.getD,hiT]
   ·have:=j4 i' hi'
    rw [List.length_set]
    by_cases e:p' = probe S.length T[i] i'
    ·rw [← e,hit_zero h3] at this;cases this
    ·rw [hit_set_ne e];exact this
theorem Laid.nil (T:List ByteArray) (m:Nat):Laid T (List.replicate m 0) 0:=by
 refine ⟨fun x hx=>?_,?_,fun i hi=>by omega⟩
 ·have:=List.eq_of_mem_replicate hx;omega
 ·unfold usedN;simp
def laidN (T:List ByteArray) (m:Nat):Nat → List Int
 | 0=>List.replicate m 0
 | n + 1=>(laidN T m n).set (placeF T (laidN T m n) (T.getD n ⟨#[]⟩)).toNat (n + 1)
theorem laidN_len (T:List ByteArray) (m n:Nat):(laidN T m n).length = m:=by
 induction n with
 | zero=>simp [laidN]
 | succ n ih=>simp [laidN,ih]
theorem laidN_ok (T:List ByteArray) (m n:Nat) (hd:Distinct T) (hm:T.length < m) (hn:n ≤ T.length):Laid T (laidN T m n) n:=by
 induction n with
 | zero=>exact Laid.nil T m
 | succ n ih =>
  have h:=ih (by omega)
  have hl:=laidN_len T m n
  obtain ⟨p,hp,_⟩:=h.place (by omega) (T[n])
  have:=(h.set (by omega) (by omega) hd hp).2.2
  unfold laidN
  rw [show T.getD n ⟨#[]⟩ = T[n] from by simp [List.getD,show n < T.length from by omega],hp,Int.toNat_natCast]
  exact this
theorem laidN_next (T:List ByteArray) (m n:Nat) (hd:Distinct T) (hm:T.length < m) (hn:n < T.length):∃ p:Nat,placeF T (laidN T m n) T[n] = p ∧ p < m ∧ (laidN T m n).getD p 0 = 0 ∧ laidN T m (n + 1) = (laidN T m n).set p (n + 1):=by
 have h:=laidN_ok T m n hd hm (by omega)
 have hl:=laidN_len T m n
 obtain ⟨p,hp,hp2,_⟩:=h.place (by omega) (T[n])
 have:=h.set hn (by omega) hd hp
 refine ⟨p,hp,by omega,this.2.1,?_⟩
 rw [laidN,show T.getD n ⟨#[]⟩ = T[n] from by simp [List.getD,show n < T.length from by omega],hp,Int.toNat_natCast]
structure TabOK (T:List ByteArray) (S:List Int):Prop where
 pow:∃ e,S.length = 8 * 2 ^ e
 most:T.length ≤ 1024
 half:2 * T.length ≤ S.length
 laid:Laid T S T.length
theorem TabOK.lt {T:List ByteArray} {S:List Int} (h:TabOK T S):T.length < S.length:=by
 obtain ⟨e,he⟩:=h.pow
 have:=h.half
 have:0 < 2 ^ e:=Nat.pow_pos (by omega)
 omega
theorem TabOK.distinct {T:List ByteArray} {S:List Int} (h:TabOK T S):Distinct T:=by
 intro i j hi hj e
 obtain ⟨p,p1,p2⟩:=h.laid.at_ i hi hi
 obtain ⟨q,q1,q2⟩:=h.laid.at_ j hj hj
 rw [e,q1] at p1
 obtain rfl:q = p:=by omega
 rw [p2] at q2;omega
theorem TabOK.mk' {T:List ByteArray} {m:Nat} (hd:Distinct T) (hp:∃ e,m = 8 * 2 ^ e) (h1:T.length ≤ 1024) (h2:2 * T.length ≤ m):TabOK T (laidN T m T.length):=by
 have hm:T.length < m:=by obtain ⟨e,he⟩:=hp;have:0 < 2 ^ e:=Nat.pow_pos (by omega);omega
 exact ⟨by rw [laidN_len];exact hp,h1,by rw [laidN_len];exact h2,laidN_ok T m _ hd hm (Nat.le_refl _)⟩
theorem TabOK.find {T:List ByteArray} {S:List Int} (h:TabOK T S) (s:ByteArray):∃ p:Nat,placeF T S s = p ∧ p < S.length ∧
 ((S.getD p 0 = 0 ∧ s ∉ T) ∨ ∃ i:Nat,∃ hi:i < T.length,S.getD p 0 = i + 1 ∧ T[i] = s):=by
 obtain ⟨p,h1,h2,h3⟩:=h.laid.place h.lt s
 refine ⟨p,h1,h2,?_⟩
 rcases h.laid.hit_ (Nat.le_refl _) h2 h3 with h4 | ⟨i,hi,h4,h5⟩
 ·refine .inl ⟨h4,fun hs=>?_⟩
  obtain ⟨i,hi,rfl⟩:=List.getElem_of_mem hs
  obtain ⟨q,q1,q2⟩:=h.laid.at_ i hi hi
  obtain rfl:q = p:=by rw [h1] at q1;omega
  rw [h4] at q2;omega
 ·exact .inr ⟨i,hi,h4,h5⟩
theorem Distinct.snoc {T:List ByteArray} (h:Distinct T) {s:ByteArray} (hs:s ∉ T):Distinct (T ++ [s]):=by
 intro i j hi hj e
 simp only [List.length_append,List.length_cons,List.length_nil] at hi hj
 rcases Nat.lt_or_ge i T.length with h1 | h1 <;> rcases Nat.lt_or_ge j T.length with h2 | h2
 ·rw [List.getElem_append_left h1,List.getElem_append_left h2] at e;exact h i j h1 h2 e
 ·rw [List.getElem_append_left h1,List.getElem_append_right h2] at e
  simp at e;exact absurd (e ▸ List.getElem_mem h1) hs
 ·rw [List.getElem_append_right h1,List.getElem_append_left h2] at e
  simp at e;exact absurd (e ▸ List.getElem_mem h2) hs
 ·omega
def moreN (T:List ByteArray) (m:Nat):Nat:=if m < 2 * (T.length + 1) then 2 * m else m
theorem TabOK.more {T:List ByteArray} {S:List Int} (h:TabOK T S) {s:ByteArray} (hs:s ∉ T) (hn:T.length < 1024):TabOK (T ++ [s]) (laidN (T ++ [s]) (moreN T S.length) (T.length + 1)):=by
 have:=TabOK.mk' (m:=moreN T S.length) (h.distinct.snoc hs) ?_ (by simp;omega) ?_
 ·simpa using this
 ·obtain ⟨e,he⟩:=h.pow
  unfold moreN
  split
  ·exact ⟨e + 1,by rw [he,Nat.pow_succ];omega⟩
  ·exact ⟨e,he⟩
 ·have:=h.half
  have:=h.lt
  unfold moreN
  simp only [List.length_append,List.length_cons,List.length_nil]
  split <;> omega
end

/- Which tables may be: the code's answer and the document's. Plain. -/
section
theorem pigeon (N:Nat) (U:List Int) (h:∀ n:Nat,n < N → (n:Int) + 1 ∈ U):N ≤ U.length ∧ (U.length = N → (∀ n:Nat,n < N → U.count ((n:Int) + 1) = 1) ∧ ∀ x ∈ U,1 ≤ x ∧ x ≤ N):=by
 induction N generalizing U with
 | zero =>
  refine ⟨Nat.zero_le _,fun e=>⟨fun n hn=>by omega,fun x hx=>?_⟩⟩
  rw [List.eq_nil_of_length_eq_zero e] at hx;simp at hx
 | succ N ih =>
  have hN:=h N (by omega)
  have hc:0 < U.count ((N:Int) + 1):=List.count_pos_iff.2 hN
  have hlen:U.length = (U.filter (fun x=>!(x == (N:Int) + 1))).length + U.count ((N:Int) + 1):=by
   have:=List.length_eq_countP_add_countP (fun x=>x == (N:Int) + 1) (l:=U)
   rw [this,List.count]
   rw [Nat.add_comm,List.countP_eq_length_filter,List.countP_eq_length_filter]
   congr 3
   funext x;rw [Bool.eq_iff_iff];simp
  obtain ⟨i1,i2⟩:=ih (U.filter (fun x=>!(x == (N:Int) + 1))) (fun n hn=>List.mem_filter.2 ⟨h n (by omega),by simp;omega⟩)
  refine ⟨by omega,fun e=>?_⟩
  obtain ⟨i3,i4⟩:=i2 (by omega)
  refine ⟨fun n hn=>?_,fun x hx=>?_⟩
  ·by_cases e':n = N
   ·subst e';omega
   ·have:=i3 n (by omega)
    rw [List.count_filter (by simp;omega)] at this
    exact this
  ·by_cases e':x = (N:Int) + 1
   ·omega
   ·have:=i4 x (List.mem_filter.2 ⟨hx,by simpa using e'⟩)
    omega
theorem once_len (N:Nat) (U:List Int) (h:∀ x ∈ U,1 ≤ x ∧ x ≤ N) (h1:∀ n:Nat,n < N → U.count ((n:Int) + 1) = 1):U.length = N:=by
 induction N generalizing U with
 | zero =>
  cases U with
  | nil=>rfl
  | cons x U=>have:=h x (by simp);omega
 | succ N ih =>
  have hc:=h1 N (by omega)
  have hlen:U.length = (U.filter (fun x=>!(x == (N:Int) + 1))).length + U.count ((N:Int) + 1):=by
   have:=List.length_eq_countP_add_countP (fun x=>x == (N:Int) + 1) (l:=U)
   rw [this,List.count]
   rw [Nat.add_comm,List.countP_eq_length_filter,List.countP_eq_length_filter]
   congr 3
   funext x;rw [Bool.eq_iff_iff];simp
  have:=ih (U.filter (fun x=>!(x == (N:Int) + 1))) (fun x hx=>by
   obtain ⟨a,b⟩:=List.mem_filter.1 hx
   have:=h x a
   simp at b;omega) (fun n hn=>by rw [List.count_filter (by simp;omega)];exact h1 n (by omega))
  omega
theorem count_pos (S:List Int) (n:Nat):(S.filter (fun x=>decide (0 < x))).count ((n:Int) + 1) = S.count ((n:Int) + 1):=by
 rw [List.count_filter]
 simp
theorem two_le_count {S:List Int} {p q:Nat} {v:Int} (hpq:p < q) (hq:q < S.length) (h1:S.getD p 0 = v) (h2:S.getD q 0 = v):2 ≤ S.count v:=by
 have hp:p < S.length:=by omega
 have e:=List.take_append_drop q S
 have m1:v ∈ S.take q:=List.mem_take_iff_getElem.2 ⟨p,by omega,by rw [← h1];simp [List.getD,hp]⟩
 have m2:v ∈ S.drop q:=List.mem_drop_iff_getElem.2 ⟨0,by omega,by rw [← h2];simp [List.getD,hq]⟩
 rw [← e,List.count_append]
 have:=List.count_pos_iff.2 m1
 have:=List.count_pos_iff.2 m2
 omega
def standsFrom (T:List ByteArray) (S:List Int) (s:ByteArray) (n:Nat):Nat → Nat → Bool → Bool
 | 0,_,found=>found
 | f + 1,k,found =>
  if S.getD (probe S.length s k) 0 = 0 ∧ found = false then false
  else if S.getD (probe S.length s k) 0 = n + 1 then (if found then false else standsFrom T S s n f (k + 1) true)
  else standsFrom T S s n f (k + 1) found
theorem stands_true (T:List ByteArray) (S:List Int) (s:ByteArray) (n f k:Nat):standsFrom T S s n f k true = true ↔ ∀ j,k ≤ j → j < k + f → S.getD (probe S.length s j) 0 ≠ n + 1:=by
 induction f generalizing k with
 | zero=>simp [standsFrom];intro j h1 h2;omega
 | succ f ih =>
  unfold standsFrom
  rw [if_neg (by simp)]
  split
  ·rename_i h
   constructor
   ·intro h';simp at h'
   ·intro h';exact absurd h (h' k (Nat.le_refl _) (by omega))
  ·rename_i h
   rw [ih]
   constructor
   ·intro h' j h1 h2
    rcases Nat.eq_or_lt_of_le h1 with rfl | h1
    ·exact h
    ·exact h' j (by omega) (by omega)
   ·intro h' j h1 h2;exact h' j (by omega) (by omega)
theorem stands_false (T:List ByteArray) (S:List Int) (s:ByteArray) (n f k:Nat):standsFrom T S s n f k false = true ↔
 ∃ j,k ≤ j ∧ j < k + f ∧ S.getD (probe S.length s j) 0 = n + 1 ∧ (∀ i,k ≤ i → i < j → S.getD (probe S.length s i) 0 ≠ 0 ∧ S.getD (probe S.length s i) 0 ≠ n + 1) ∧ ∀ i,j < i → i < k + f → S.getD (probe S.length s i) 0 ≠ n + 1:=by
 induction f generalizing k with
 | zero=>simp [standsFrom];intro j h1 h2;omega
 | succ f ih =>
  unfold standsFrom
  by_cases h0:S.getD (probe S.length s k) 0 = 0
  ·rw [if_pos ⟨h0,rfl⟩]
   constructor
   ·intro h;cases h
   ·rintro ⟨j,h1,h2,h3,h4,h5⟩
    rcases Nat.eq_or_lt_of_le h1 with rfl | h1
    ·rw [h0] at h3;omega
    ·exact absurd h0 (h4 k (Nat.le_refl _) h1).1
  ·rw [if_neg (fun h=>h0 h.1)]
   by_cases hn:S.getD (probe S.length s k) 0 = n + 1
   ·rw [if_pos hn,if_neg (by simp),stands_true]
    constructor
    ·intro h;exact ⟨k,Nat.le_refl _,by omega,hn,fun i h1 h2=>by omega,fun i h1 h2=>h i (by omega) (by omega)⟩
    ·rintro ⟨j,h1,h2,h3,h4,h5⟩
     rcases Nat.eq_or_lt_of_le h1 with rfl | h1
     ·intro i i1 i2;exact h5 i (by omega) (by omega)
     ·exact absurd hn (h4 k (Nat.le_refl _) h1).2
   ·rw [if_neg hn,ih]
    constructor
    ·rintro ⟨j,h1,h2,h3,h4,h5⟩
     refine ⟨j,by omega,by omega,h3,fun i i1 i2=>?_,fun i i1 i2=>h5 i i1 (by omega)⟩
     rcases Nat.eq_or_lt_of_le i1 with rfl | i1
     ·exact ⟨h0,hn⟩
     ·exact h4 i (by omega) i2
    ·rintro ⟨j,h1,h2,h3,h4,h5⟩
     rcases Nat.eq_or_lt_of_le h1 with rfl | h1
     ·exact absurd h3 hn
     ·exact ⟨j,by omega,by omega,h3,fun i i1 i2=>h4 i (by omega) i2,fun i i1 i2=>h5 i i1 (by omega)⟩
def standsF (T:List ByteArray) (S:List Int) (s:ByteArray) (n:Nat):Bool:=standsFrom T S s n S.length 0 false
def findF (T:List ByteArray) (s:ByteArray):Int:=if T.findIdx (fun x=>decide (x = s)) < T.length then T.findIdx (fun x=>decide (x = s)) else -1
theorem findF_no {T:List ByteArray} {s:ByteArray}:findF T s = -1 ↔ s ∉ T:=by
 unfold findF
 split
 ·rename_i h
  constructor
  ·intro h';omega
  ·intro h'
   have:=List.findIdx_getElem (w:=h)
   simp at this
   exact absurd (this ▸ List.getElem_mem h) h'
 ·rename_i h
  simp only [true_iff]
  intro hm
  exact h (List.findIdx_lt_length_of_exists ⟨s,hm,by simp⟩)
theorem findF_yes {T:List ByteArray} {s:ByteArray} {n:Nat}:findF T s = n ↔ ∃ h:n < T.length,T[n] = s ∧ ∀ i (hi:i < n),T[i] ≠ s:=by
 unfold findF
 split
 ·rename_i h
  constructor
  ·intro e
   have e:T.findIdx (fun x=>decide (x = s)) = n:=by omega
   subst e
   refine ⟨h,by simpa using List.findIdx_getElem (w:=h),fun i hi=>?_⟩
   have:=List.not_of_lt_findIdx hi
   simpa using this
  ·rintro ⟨hn,h1,h2⟩
   congr 1
   rw [List.findIdx_eq hn]
   exact ⟨by simpa using h1,fun j hj=>by simpa using h2 j hj⟩
 ·rename_i h
  constructor
  ·intro e;omega
  ·rintro ⟨hn,h1,h2⟩
   exact absurd (List.findIdx_lt_length_of_exists ⟨T[n],List.getElem_mem hn,by simpa using h1⟩) h
theorem findF_distinct {T:List ByteArray} (h:Distinct T) {n:Nat} (hn:n < T.length):findF T T[n] = n :=
 findF_yes.2 ⟨hn,rfl,fun i hi e=>by have:=h i n (by omega) hn e;omega⟩
theorem findF_range (T:List ByteArray) (s:ByteArray):-1 ≤ findF T s ∧ findF T s < T.length:=by unfold findF;split <;> omega
theorem getD_count {S:List Int} {p:Nat} {n:Nat} (h:S.getD p 0 = n + 1):(n:Int) + 1 ∈ S:=by
 have hp:p < S.length:=by
  refine Classical.byContradiction fun hc=>?_
  simp [List.getD,show S.length ≤ p from by omega] at h
  omega
 rw [← h];exact getD_mem hp
theorem TabOK.once {T:List ByteArray} {S:List Int} (h:TabOK T S) (n:Nat) (hn:n < T.length):S.count ((n:Int) + 1) = 1:=by
 rw [← count_pos]
 have hp:=pigeon T.length (S.filter (fun x=>decide (0 < x))) (fun i hi=>by
  obtain ⟨p,_,p2⟩:=h.laid.at_ i hi hi
  exact List.mem_filter.2 ⟨getD_count p2,by simp⟩)
 exact (hp.2 h.laid.used).1 n hn
theorem at_once {S:List Int} {p q:Nat} {n:Nat} (h1:S.count ((n:Int) + 1) = 1) (hp:p < S.length) (hq:q < S.length) (e1:S.getD p 0 = n + 1) (e2:S.getD q 0 = n + 1):p = q:=by
 rcases Nat.lt_trichotomy p q with h | h | h
 ·have:=two_le_count h hq e1 e2;omega
 ·exact h
 ·have:=two_le_count h hp e2 e1;omega
theorem probe_inj (m:Nat) (s:ByteArray) (i j:Nat) (hi:i < m) (hj:j < m) (h:probe m s i = probe m s j):i = j:=by
 unfold probe at h
 rw [Nat.add_mod,Nat.add_mod (hashN s) j,Nat.mod_eq_of_lt hi,Nat.mod_eq_of_lt hj] at h
 have h0:=Nat.mod_lt (hashN s) (show 0 < m by omega)
 generalize hashN s % m = a at h h0
 have key:∀ x,x < m → (a + x) % m = if a + x < m then a + x else a + x - m:=by
  intro x hx
  split
  ·rename_i h;exact Nat.mod_eq_of_lt h
  ·rename_i h;rw [Nat.mod_eq_sub_mod (by omega),Nat.mod_eq_of_lt (by omega)]
 rw [key i hi,key j hj] at h
 split at h <;> split at h <;> omega
structure RightP (T:List ByteArray) (S:List Int):Prop where
 pow:∃ e,S.length = 8 * 2 ^ e
 most:T.length ≤ 1024
 half:2 * T.length ≤ S.length
 range:∀ x ∈ S,0 ≤ x ∧ x ≤ T.length
 at_:∀ n (h:n < T.length),findF T T[n] = n ∧ standsF T S T[n] n = true
theorem right_iff {T:List ByteArray} {S:List Int}:RightP T S ↔ TabOK T S:=by
 constructor
 ·intro h
  have hm:T.length < S.length:=by
   obtain ⟨e,he⟩:=h.pow
   have:=h.half
   have:0 < 2 ^ e:=Nat.pow_pos (by omega)
   omega
  have hd:Distinct T:=by
   intro i j hi hj e
   have h1:=(h.at_ i hi).1
   have h2:=(h.at_ j hj).1
   rw [e,h2] at h1;omega
  have hst:∀ n (hn:n < T.length),∃ j,j < S.length ∧ S.getD (probe S.length T[n] j) 0 = n + 1 ∧ (∀ i,i < j → S.getD (probe S.length T[n] i) 0 ≠ 0 ∧ S.getD (probe S.length T[n] i) 0 ≠ n + 1) ∧ ∀ i,j < i → i < S.length → S.getD (probe S.length T[n] i) 0 ≠ n + 1:=by
   intro n hn
   obtain ⟨j,j1,j2,j3,j4,j5⟩:=(stands_false T S T[n] n S.length 0).1 (h.at_ n hn).2
   exact ⟨j,by omega,j3,fun i hi=>j4 i (by omega) hi,fun i h1 h2=>j5 i h1 (by omega)⟩
  refine ⟨h.pow,h.most,h.half,h.range,?_,?_⟩
  ·unfold usedN
   refine once_len T.length _ (fun x hx=>?_) (fun n hn=>?_)
   ·obtain ⟨a,b⟩:=List.mem_filter.1 hx
    have:=h.range x a
    simp at b;omega
   ·rw [count_pos]
    obtain ⟨j,j1,j2,j3,j4⟩:=hst n hn
    refine Nat.le_antisymm ?_ (List.count_pos_iff.2 (getD_count j2))
    refine Classical.byContradiction fun hc=>?_
    have h2:∃ q,q < S.length ∧ q ≠ probe S.length T[n] j ∧ S.getD q 0 = n + 1:=by
     have hp:=probe_lt S.length T[n] j (by omega)
     generalize probe S.length T[n] j = p at *
     refine Classical.byContradiction fun hne=>hc ?_
     have e:=List.take_append_drop p S
     have e2:S.drop p = S[p] :: S.drop (p + 1):=List.drop_eq_getElem_cons hp
     rw [← e,e2,List.count_append,List.count_cons]
     have c1:(S.take p).count ((n:Int) + 1) = 0:=List.count_eq_zero.2 fun hm=>by
      obtain ⟨i,hi,hi2⟩:=List.mem_take_iff_getElem.1 hm
      have hip:i < p:=Nat.lt_of_lt_of_le hi (Nat.min_le_left _ _)
      exact hne ⟨i,by omega,by omega,by rw [← hi2];simp [List.getD,show i < S.length from by omega]⟩
     have c2:(S.drop (p + 1)).count ((n:Int) + 1) = 0:=List.count_eq_zero.2 fun hm=>by
      obtain ⟨i,hi,hi2⟩:=List.mem_drop_iff_getElem.1 hm
      exact hne ⟨p + 1 + i,by omega,by omega,by rw [← hi2];simp [List.getD,show p + 1 + i < S.length from by omega]⟩
     rw [c1,c2]
     split <;> omega
    obtain ⟨q,q1,q2,q3⟩:=h2
    obtain ⟨i,i1,rfl⟩:=probe_onto S.length T[n] q q1
    rcases Nat.lt_trichotomy i j with h | h | h
    ·exact (j3 i h).2 q3
    ·exact q2 (by rw [h])
    ·exact j4 i h i1 q3
  ·intro n hn _
   obtain ⟨j,j1,j2,j3,j4⟩:=hst n hn
   refine ⟨probe S.length T[n] j,placeF_yes.2 ⟨j,j1,rfl,?_,fun i hi=>?_⟩,j2⟩
   ·unfold hit
    rw [j2,show ((n:Int) + 1 - 1).toNat = n from by omega,getD_at hn]
    simp
   ·have hr:=h.range _ (getD_mem (probe_lt S.length T[n] i (by omega)))
    have:=j3 i hi
    unfold hit
    generalize S.getD (probe S.length T[n] i) 0 = x at hr this
    rw [Bool.or_eq_false_iff]
    refine ⟨by simpa using this.1,decide_eq_false fun e=>?_⟩
    rw [getD_at (show (x - 1).toNat < T.length by omega)] at e
    have:=hd _ n (by omega) hn e
    omega
 ·intro h
  refine ⟨h.pow,h.most,h.half,h.laid.range,fun n hn=>⟨findF_distinct h.distinct hn,?_⟩⟩
  obtain ⟨p,p1,p2⟩:=h.laid.at_ n hn hn
  obtain ⟨j,j1,j2,j3,j4⟩:=placeF_yes.1 p1
  have hlt:=h.lt
  refine (stands_false T S T[n] n S.length 0).2 ⟨j,by omega,by omega,by rw [j2];exact p2,fun i _ hi=>⟨fun e=>?_,fun e=>?_⟩,fun i hi1 hi2 e=>?_⟩
  ·have:=j4 i hi;rw [hit_zero e] at this;cases this
  ·have:=at_once (h.once n hn) (probe_lt _ _ _ (by omega)) (placeF_lt p1) e p2
   rw [← j2] at this
   have:=probe_inj _ _ _ _ (by omega) j1 this
   omega
  ·have:=at_once (h.once n hn) (probe_lt _ _ _ (by omega)) (placeF_lt p1) e p2
   rw [← j2] at this
   have:=probe_inj _ _ _ _ (by omega) j1 this
   omega
end

end Go.Proofs.YtkmbnghghbfkdaaGreat
