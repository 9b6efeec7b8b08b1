/- laid: the walk. -/
import Derived.Test.YtkmbnghghbfkdaaGreatGp06
import Derived.Deep.RegionWith
import Derived.IntWalk
import Derived.Deep.RegionLaw
import Derived.Test.YtkmbnghghbfkdaaGreatGp01
import Derived.Test.YtkmbnghghbfkdaaGreatProg
import Derived.Lib.SmallJoins
import Derived.Test.YtkmbnghghbfkdaaGreatGp00
import Derived.Lib.AppendStr
import Derived.Laws.BytesArg
import Derived.Laws.CopyOwn
set_option linter.unusedSimpArgs false
set_option linter.unusedVariables false
set_option maxHeartbeats 2000000
set_option maxRecDepth 100000
namespace Go.Proofs.YtkmbnghghbfkdaaGreat
open Go.Lib (hid)

section
open Go.RowKit Go.Shelf Go.Sort
set_option maxHeartbeats 1000000 in
theorem laid_any (T:List ByteArray) (a:Option Addr) (n c m:Nat) (w:World) (hT:Strs w (.slice a n c) T) (hm:m ≤ 1048576) (hn:n < m) (hn2:n ≤ 1024)
 (hTs:∀ s ∈ T,s.size ≤ 9223372036854775807) (hd:Distinct T) :
 Calls Tryz.prog 133 #[.slice a n c,.int .i64 m] w fun e w'=>∃ v,e = .returned v ∧ TabOwn w.heap.size w' v T (laidN T m n) ∧ Ext w w':=by
 have HT:=hid hT
 have HTs:=hid hTs
 have Hd:=hid hd
 have hmS:=make_S n (by omega)
 have hmI:=make_I m (by omega)
 clear hT hTs hd
 go_enter Tryz.func133,Tryz.ntmps133
 go_upto_region 1 with fail
 go_cut [5] (fun s5 wx=>∃ B g1 g2,s5 = .pointer (some ⟨B,0,none⟩) ∧ LaidAt w n m B g1 g2 (List.replicate n (.string ⟨#[]⟩)) (List.replicate m (.int .i64 0)) wx)
 case first =>
  go_region_with (fail)
  all_goals (go_wp2_with fail;go_meet)
  all_goals
   first
   | (refine ⟨_,w.heap.size + 1,w.heap.size + 1 + 1,rfl,below_drewN ((((((Below.refl _ _).alloc (Nat.le_refl _) _).alloc (by simp) _).alloc (by simp;omega) _).alloc (by simp;omega) _)) 1,?_,?_,?_,?_,?_,?_,?_,?_⟩;all_goals first | omega | exact (row_at (by simp)).ext (Ext.drewN _ 1) | exact ((row_at (by simp)).ext (Ext.alloc _ _)).ext (Ext.drewN _ 1) | exact (((row_at (by simp)).ext (Ext.alloc _ _)).ext (Ext.alloc _ _)).ext (Ext.drewN _ 1) | exact ((((row_at (by simp)).ext (Ext.alloc _ _)).ext (Ext.alloc _ _)).ext (Ext.alloc _ _)).ext (Ext.drewN _ 1))
   | (refine ⟨_,w.heap.size + 1,w.heap.size + 1 + 1 + 1,rfl,below_drewN ((((((Below.refl _ _).alloc (Nat.le_refl _) _).alloc (by simp) _).alloc (by simp;omega) _).alloc (by simp;omega) _)) 1,?_,?_,?_,?_,?_,?_,?_,?_⟩;all_goals first | omega | exact (row_at (by simp)).ext (Ext.drewN _ 1) | exact ((row_at (by simp)).ext (Ext.alloc _ _)).ext (Ext.drewN _ 1) | exact (((row_at (by simp)).ext (Ext.alloc _ _)).ext (Ext.alloc _ _)).ext (Ext.drewN _ 1) | exact ((((row_at (by simp)).ext (Ext.alloc _ _)).ext (Ext.alloc _ _)).ext (Ext.alloc _ _)).ext (Ext.drewN _ 1))
   | (refine ⟨_,w.heap.size + 1 + 1,w.heap.size + 1,rfl,below_drewN ((((((Below.refl _ _).alloc (Nat.le_refl _) _).alloc (by simp) _).alloc (by simp;omega) _).alloc (by simp;omega) _)) 1,?_,?_,?_,?_,?_,?_,?_,?_⟩;all_goals first | omega | exact (row_at (by simp)).ext (Ext.drewN _ 1) | exact ((row_at (by simp)).ext (Ext.alloc _ _)).ext (Ext.drewN _ 1) | exact (((row_at (by simp)).ext (Ext.alloc _ _)).ext (Ext.alloc _ _)).ext (Ext.drewN _ 1) | exact ((((row_at (by simp)).ext (Ext.alloc _ _)).ext (Ext.alloc _ _)).ext (Ext.alloc _ _)).ext (Ext.drewN _ 1))
   | (refine ⟨_,w.heap.size + 1 + 1 + 1,w.heap.size + 1,rfl,below_drewN ((((((Below.refl _ _).alloc (Nat.le_refl _) _).alloc (by simp) _).alloc (by simp;omega) _).alloc (by simp;omega) _)) 1,?_,?_,?_,?_,?_,?_,?_,?_⟩;all_goals first | omega | exact (row_at (by simp)).ext (Ext.drewN _ 1) | exact ((row_at (by simp)).ext (Ext.alloc _ _)).ext (Ext.drewN _ 1) | exact (((row_at (by simp)).ext (Ext.alloc _ _)).ext (Ext.alloc _ _)).ext (Ext.drewN _ 1) | exact ((((row_at (by simp)).ext (Ext.alloc _ _)).ext (Ext.alloc _ _)).ext (Ext.alloc _ _)).ext (Ext.drewN _ 1))
   | (refine ⟨_,w.heap.size + 1 + 1,w.heap.size + 1 + 1 + 1,rfl,below_drewN ((((((Below.refl _ _).alloc (Nat.le_refl _) _).alloc (by simp) _).alloc (by simp;omega) _).alloc (by simp;omega) _)) 1,?_,?_,?_,?_,?_,?_,?_,?_⟩;all_goals first | omega | exact (row_at (by simp)).ext (Ext.drewN _ 1) | exact ((row_at (by simp)).ext (Ext.alloc _ _)).ext (Ext.drewN _ 1) | exact (((row_at (by simp)).ext (Ext.alloc _ _)).ext (Ext.alloc _ _)).ext (Ext.drewN _ 1) | exact ((((row_at (by simp)).ext (Ext.alloc _ _)).ext (Ext.alloc _ _)).ext (Ext.alloc _ _)).ext (Ext.drewN _ 1))
   | (refine ⟨_,w.heap.size + 1 + 1 + 1,w.heap.size + 1 + 1,rfl,below_drewN ((((((Below.refl _ _).alloc (Nat.le_refl _) _).alloc (by simp) _).alloc (by simp;omega) _).alloc (by simp;omega) _)) 1,?_,?_,?_,?_,?_,?_,?_,?_⟩;all_goals first | omega | exact (row_at (by simp)).ext (Ext.drewN _ 1) | exact ((row_at (by simp)).ext (Ext.alloc _ _)).ext (Ext.drewN _ 1) | exact (((row_at (by simp)).ext (Ext.alloc _ _)).ext (Ext.alloc _ _)).ext (Ext.drewN _ 1) | exact ((((row_at (by simp)).ext (Ext.alloc _ _)).ext (Ext.alloc _ _)).ext (Ext.alloc _ _)).ext (Ext.drewN _ 1))
 case rest =>
  obtain ⟨B,g1,g2,rfl,hL⟩:=hcut
  have HT2:=hid (Strs.ext HT.out hL.below)
  have b0:=hL.box.cell (i:=0) rfl
  have b1:=hL.box.cell (i:=1) rfl
  have hlenT:=HT.out.len
  obtain ⟨wd,hcp,hrw,hgw⟩:=run_copy_onto (P:=Tryz.prog) 22 22 3 elS (n:=n) (g:=g1) (cap:=n) (u:=.slice a n c) (xs:=T.map Value.string) (show Sl wc (.slice a n c) n _ from by have h:=HT2.out;unfold Strs at h;rw [hlenT] at h;exact h) (by simpa using hlenT) (str_one _) hL.row1 (by simp)
  have hL2:=hL.copied hrw hgw
  rw [show (List.replicate m (Value.int .i64 0)) = (laidN T m 0).map (Value.int .i64) from by simp [laidN]] at hL2
  have HL2:=hid hL2
  have HlenT:=hid hlenT
  clear hrw hgw HT2 hL hL2 hlenT hmS hmI
  go_wp2_with fail
  clear hcp b0 b1
  go_loopg [7,21] n (fun g _ i wr=>∃ k:Nat,k ≤ n ∧ g = n - k ∧ i = .int .i64 k ∧ LaidAt w n m B g1 g2 (T.map Value.string) ((laidN T m k).map (Value.int .i64)) wr)
  case atStart=>exact ⟨0,Nat.zero_le _,rfl,rfl,HL2.out⟩
  case round =>
   obtain ⟨k,hk,hg,rfl,hL⟩:=hrel
   have hlenT:=HlenT.out
   have Hg:=hid hg
   have HL:=hid hL
   clear hg
   by_cases hlt:k < n
   ·obtain ⟨p,hp,hpm,hp0,hnext⟩:=laidN_next T m k Hd.out (by omega) (by omega)
    have hlay:=laidN_ok T m k Hd.out (by omega) (by omega)
    have hl:=laidN_len T m k
    have hone:=lay_one T (laidN T m k) (some ⟨g1,0,none⟩) n n g2 m m B k p wr
     (show Strs wr _ T from by have:=hL.row1.sl n n (Nat.le_refl _) (by unfold maxLen;omega);unfold Strs;rw [hlenT];exact this)
     (show Ints wr .i64 _ (laidN T m k) from by have:=hL.row2.sl m m (Nat.le_refl _) (by unfold maxLen;omega);unfold Ints;rw [hl];exact this)
     (by omega) HTs.out (fun x hx=>by have:=hlay.range x hx;omega) (by omega) (by omega) hp hpm (hL.box.cell rfl) (hL.box.cell rfl) (hL.row2.frozen p)
    have Hone:=hid hone
    have Hnext:=hid hnext
    clear hL hp hp0 hnext hlay hl hone hlenT
    go_wp2_with fail
    refine Hone.out.mono ?_
    rintro e w3 ⟨⟨v,rfl⟩,w2,hx2,rfl⟩
    have hL3:=(HL.out.ext hx2).set p (.int .i64 ((k:Int) + 1))
    rw [← List.map_set,← Hnext.out] at hL3
    have HL3:=hid hL3
    clear hL3
    go_wp2_with fail
    go_roundg (n - (k + 1))
    case measure=>have:=Hg.out;omega
    case rel=>exact ⟨k + 1,by omega,rfl,by go_num,HL3.out⟩
   ·obtain rfl:k = n:=by omega
    have b0:=hL.box.cell (i:=0) rfl
    have b1:=hL.box.cell (i:=1) rfl
    have r0:=hL.res.cell (i:=0) rfl
    have r1:=hL.res.cell (i:=1) rfl
    have f0:=hL.res.frozen 0
    have f1:=hL.res.frozen 1
    clear hL hlenT hlt
    go_wp2
    exact bodyPost_ret (v:=.agg #[.slice (some ⟨g1,0,none⟩) k k,.slice (some ⟨g2,0,none⟩) m m]) (by simp [results,Tryz.results133,go_sem,r0,r1]) rfl ⟨_,rfl,HL.out.done HlenT.out (laidN_len _ _ _) (by unfold maxLen;omega) (by unfold maxLen;omega) _ _⟩
end

/- Clones, and the rows held against one another. -/
section
open Go.RowKit Go.Shelf Go.Sort
theorem eqNil_cloneS0 (a:Option Addr) (n c n' c':Nat) (w:World):(binOp .eql 22 (.slice a n c) (.slice none n' c')).run Tryz.prog w = .ok (.bool a.isNone) w :=
 Lib.run_eql_slice_nil w _ _ a n c n' c' Tryz.underlying22
set_option maxHeartbeats 400000 in
theorem cloneS0 (v:Value) (n:Nat) (xs:List Value) (w:World) (hv:Sl w v n xs) (hl:xs.length = n) (h1:∀ x ∈ xs,x.oneCell' = true) (hn:n ≤ 1048576) :
 Calls Tryz.prog 36 #[v] w fun e w'=>∃ u,e = .returned u ∧ w'.ownsRow w.heap.size 9 1 u n xs ∧ Ext w w':=by
 have hv':=hv
 obtain ⟨a,cap,rfl,hcap,hmax,hc⟩:=hv'.open_
 have hq:=eqNil_cloneS0
 have H1:=hid h1
 have HL:=hid hl
 cases a with
 | none =>
  have hl':xs = []:=List.eq_nil_of_length_eq_zero (by rcases Nat.eq_zero_or_pos xs.length with h | h;exact h;obtain ⟨_,_,h,_⟩:=hc 0 h;cases h)
  clear hv' hc
  subst hl'
  obtain rfl:n = 0:=by simpa using hl.symm
  clear h1 hl
  go_enter Tryz.func36,Tryz.ntmps36
  go_wp2
  go_ret
  exact ⟨_,rfl,World.ownsRow_nil _ _ _ _,Ext.refl _⟩
 | some ad =>
  have HV:=hid hv
  clear hv' hc h1 hl hv
  go_enter Tryz.func36,Tryz.ntmps36
  go_wp2_with (at_builtin;refine wpList_append_sl _ rfl _ _ _ rfl elS rfl (own_new w w.heap.size #[] 9 1 0 (Nat.le_refl _) rfl (Nat.zero_le _)) rfl (HV.out.ext (Ext.alloc _ _)) ?_ H1.out ?_ ?_ ?_ ?_)
  ·rw [HL.out,Nat.mul_one]
  ·omega
  ·unfold maxLen;omega
  ·simp
  intro v1 w1 hown hb _ _
  go_wp2
  go_ret
  exact ⟨_,rfl,by simpa using hown,Below.trans (Ext.alloc w _) hb⟩
theorem eqNil_cloneI0 (a:Option Addr) (n c n' c':Nat) (w:World):(binOp .eql 23 (.slice a n c) (.slice none n' c')).run Tryz.prog w = .ok (.bool a.isNone) w :=
 Lib.run_eql_slice_nil w _ _ a n c n' c' Tryz.underlying23
set_option maxHeartbeats 400000 in
theorem cloneI0 (v:Value) (n:Nat) (xs:List Value) (w:World) (hv:Sl w v n xs) (hl:xs.length = n) (h1:∀ x ∈ xs,x.oneCell' = true) (hn:n ≤ 1048576) :
 Calls Tryz.prog 37 #[v] w fun e w'=>∃ u,e = .returned u ∧ w'.ownsRow w.heap.size 3 1 u n xs ∧ Ext w w':=by
 have hv':=hv
 obtain ⟨a,cap,rfl,hcap,hmax,hc⟩:=hv'.open_
 have hq:=eqNil_cloneI0
 have H1:=hid h1
 have HL:=hid hl
 cases a with
 | none =>
  have hl':xs = []:=List.eq_nil_of_length_eq_zero (by rcases Nat.eq_zero_or_pos xs.length with h | h;exact h;obtain ⟨_,_,h,_⟩:=hc 0 h;cases h)
  clear hv' hc
  subst hl'
  obtain rfl:n = 0:=by simpa using hl.symm
  clear h1 hl
  go_enter Tryz.func37,Tryz.ntmps37
  go_wp2
  go_ret
  exact ⟨_,rfl,World.ownsRow_nil _ _ _ _,Ext.refl _⟩
 | some ad =>
  have HV:=hid hv
  clear hv' hc h1 hl hv
  go_enter Tryz.func37,Tryz.ntmps37
  go_wp2_with (at_builtin;refine wpList_append_sl _ rfl _ _ _ rfl elI rfl (own_new w w.heap.size #[] 3 1 0 (Nat.le_refl _) rfl (Nat.zero_le _)) rfl (HV.out.ext (Ext.alloc _ _)) ?_ H1.out ?_ ?_ ?_ ?_)
  ·rw [HL.out,Nat.mul_one]
  ·omega
  ·unfold maxLen;omega
  ·simp
  intro v1 w1 hown hb _ _
  go_wp2
  go_ret
  exact ⟨_,rfl,by simpa using hown,Below.trans (Ext.alloc w _) hb⟩
theorem own_sl {w:World} {B size n:Nat} {e:TypeId} {v:Value} {xs:List Value} (h:w.ownsRow B e size v n xs):∃ a c,v = .slice a n c:=by
 rcases h.2 with ⟨h1,h2⟩ | ⟨g,cap,cur,h1,_⟩
 ·exact ⟨none,0,by rw [h1,h2]⟩
 ·exact ⟨_,_,h1⟩
theorem cloneS (v:Value) (T:List ByteArray) (w:World) (hT:Strs w v T) (hn:T.length ≤ 1048576) :
 Calls Tryz.prog 36 #[v] w fun e w'=>∃ a c,e = .returned (.slice a T.length c) ∧ w'.ownsRow w.heap.size 9 1 (.slice a T.length c) T.length (T.map Value.string) ∧ Ext w w' :=
 (cloneS0 v T.length _ w hT (by simp) (str_one _) hn).mono fun e w' ⟨u,he,ho,hx⟩=>by obtain ⟨a,c,rfl⟩:=own_sl ho;exact ⟨a,c,he,ho,hx⟩
theorem cloneI (v:Value) (S:List Int) (w:World) (hS:Ints w .i64 v S) (hn:S.length ≤ 1048576) :
 Calls Tryz.prog 37 #[v] w fun e w'=>∃ a c,e = .returned (.slice a S.length c) ∧ w'.ownsRow w.heap.size 3 1 (.slice a S.length c) S.length (S.map (Value.int .i64)) ∧ Ext w w' :=
 (cloneI0 v S.length _ w hS (by simp) (ints_one _ _) hn).mono fun e w' ⟨u,he,ho,hx⟩=>by obtain ⟨a,c,rfl⟩:=own_sl ho;exact ⟨a,c,he,ho,hx⟩
end

/- own, cut, small, same; Equal. -/
section
open Go.RowKit Go.Shelf Go.Sort
theorem own_set_other {w:World} {B size n:Nat} {e:TypeId} {v:Value} {xs:List Value} (h:w.ownsRow B e size v n xs) {g:Nat} (hg:g < B) (i:Nat) (u:Value):(w.setCell ⟨g,i,none⟩ u).ownsRow B e size v n xs:=by
 refine ⟨h.1,?_⟩
 rcases h.2 with hn | ⟨k,cap,cur,rfl,hbg,hgg,rest⟩
 ·exact .inl hn
 ·exact .inr ⟨k,cap,cur,rfl,hbg,((grown_set w g i u).block k (Array.getElem?_eq_some_iff.1 hgg).1 (fun e=>by cases e;omega)).trans hgg,rest⟩
theorem tabOwn_end {w0 w1 wa wb:World} {T:List ByteArray} {S:List Int} {ua ub:Option Addr} {ca cb g:Nat} {k:Nat} (ha:wa.ownsRow (w1.drewN k).heap.size 9 1 (.slice ua T.length ca) T.length (T.map Value.string)) (hxb:Ext wa wb)
 (hb:wb.ownsRow wa.heap.size 3 1 (.slice ub S.length cb) S.length (S.map (Value.int .i64))) (h0:w0.heap.size ≤ w1.heap.size) (hg:g < w1.heap.size) (h1:(w1.drewN k).heap.size ≤ wa.heap.size) (h2:w0.heap.size ≤ g) (u v:Value) :
 TabOwn w0.heap.size ((wb.setCell ⟨g,0,none⟩ u).setCell ⟨g,1,none⟩ v) (.agg #[.slice ua T.length ca,.slice ub S.length cb]) T S :=
 ⟨_,_,_,_,_,_,rfl,own_base (own_set_other (own_set_other (own_ext ha hxb) hg 0 u) hg 1 v) h0,own_base (own_set_other (own_set_other hb (Nat.lt_of_lt_of_le hg h1) 0 u) (Nat.lt_of_lt_of_le hg h1) 1 v) (Nat.le_trans h0 h1)⟩
end

/- Put. -/
section
open Go.RowKit Go.Shelf Go.Sort
def putF (T:List ByteArray) (S:List Int) (s:ByteArray):Option (List ByteArray × List Int × Int) :=
 if 0 ≤ findF T s then some (T,S,findF T s) else if T.length = 1024 then none else some (T ++ [s],laidN (T ++ [s]) (moreN T S.length) (T.length + 1),T.length)
def nilTab:Value:=.agg #[.slice none 0 0,.slice none 0 0]
def PutPost (w0:World) (r:Option (List ByteArray × List Int × Int)) (e:Ending) (w':World):Prop:=Ext w0 w' ∧
 match r with
 | some (T,S,n)=>∃ v,e = .returned (.tuple #[v,.int .i64 n,.int .i64 0]) ∧ TabOwn w0.heap.size w' v T S
 | none=>e = .returned (.tuple #[nilTab,.int .i64 0,.int .i64 6])
set_option maxHeartbeats 1000000 in
theorem put_no (T:List ByteArray) (S:List Int) (s:ByteArray) (a:Option Addr) (n c:Nat) (b:Option Addr) (m d:Nat) (w:World) (hT:Strs w (.slice a n c) T) (hS:Ints w .i64 (.slice b m d) S)
 (hm:m ≤ 1048576) (hTs:∀ s ∈ T,s.size ≤ 9223372036854775807) (hno:¬ TabOK T S):Calls Tryz.prog 102 #[.agg #[.slice a n c,.slice b m d],.string s] w fun e w'=>e = .returned (.tuple #[nilTab,.int .i64 0,.int .i64 150]) ∧ Ext w w':=by
 have Hno:=hid hno
 have HTs:=hid hTs
 clear hno hTs
 go_enter Tryz.func102,Tryz.ntmps102
 go_upto_region 1 with fail
 have hx1:Ext w ((w.alloc (.cells #[.slice a n c,.slice b m d] 25)).alloc (.cells #[.slice none 0 0,.slice none 0 0] 25)):=(Ext.alloc _ _).trans (Ext.alloc _ _)
 have b0:((w.alloc (.cells #[.slice a n c,.slice b m d] 25)).alloc (.cells #[.slice none 0 0,.slice none 0 0] 25)).cell? ⟨w.heap.size,0,none⟩ = some (.slice a n c):=by simp [go_sem]
 have b1:((w.alloc (.cells #[.slice a n c,.slice b m d] 25)).alloc (.cells #[.slice none 0 0,.slice none 0 0] 25)).cell? ⟨w.heap.size,1,none⟩ = some (.slice b m d):=by simp [go_sem]
 have hr:RowAt ((w.alloc (.cells #[.slice a n c,.slice b m d] 25)).alloc (.cells #[.slice none 0 0,.slice none 0 0] 25)) (w.heap.size + 1) 25 [.slice none 0 0,.slice none 0 0]:=row_at (by simp)
 generalize ((w.alloc (.cells #[.slice a n c,.slice b m d] 25)).alloc (.cells #[.slice none 0 0,.slice none 0 0] 25)) = w1 at *
 have HS:=hid (hS.ext hx1)
 have HT:=hid (hT.ext hx1)
 go_wp2_with fail
 refine (tcheck_no HT.out HS.out hm HTs.out Hno.out).mono ?_
 rintro e w2 ⟨rfl,hx2⟩
 have hr2:=hr.ext hx2
 have r0:=hr2.cell (i:=0) rfl
 have r1:=hr2.cell (i:=1) rfl
 have f0:=hr2.frozen 0
 have f1:=hr2.frozen 1
 have hB2:Below w.heap.size w w2:=hx1.trans hx2
 clear hr hr2
 go_wp2
 exact bodyPost_ret (v:=.tuple #[nilTab,.int .i64 0,.int .i64 150]) (by simp [results,Tryz.results102,go_sem,r0,r1,nilTab]) rfl ⟨rfl,below_set2 hB2 (by omega) _ _⟩
set_option maxHeartbeats 1000000 in
theorem put_yes (T:List ByteArray) (S:List Int) (s:ByteArray) (a:Option Addr) (n c:Nat) (b:Option Addr) (m d:Nat) (w:World) (hT:Strs w (.slice a n c) T) (hS:Ints w .i64 (.slice b m d) S)
 (hm:m ≤ 500000) (hTs:∀ s ∈ T,s.size ≤ 9223372036854775807) (hs:s.size ≤ 9223372036854775807) (hok:TabOK T S):Calls Tryz.prog 102 #[.agg #[.slice a n c,.slice b m d],.string s] w (PutPost w (putF T S s)):=by
 have Hok:=hid hok
 have HTs:=hid hTs
 have hlen:=hid hS.len
 have hlenT:=hid hT.len
 have hfr:=findF_range T s
 have hT2:T.length ≤ 1048576:=by have:=hok.most;omega
 have hS2:S.length ≤ 1048576:=by have:=hlen.out;omega
 have hrg:∀ x ∈ S,0 ≤ x ∧ x ≤ T.length:=hok.laid.range
 have Hrg:=hid hrg
 obtain ⟨p,hp,hpl,hpx⟩:=hok.findx s
 rw [hlen.out] at hpl
 have Hp:=hid hp
 have Hpx:=hid hpx
 generalize hpf:putF T S s = pf
 have Hpf:=hid hpf
 clear hok hTs hrg hp hpx hpf
 go_enter Tryz.func102,Tryz.ntmps102
 go_upto_region 1 with fail
 have hx1:Ext w ((w.alloc (.cells #[.slice a n c,.slice b m d] 25)).alloc (.cells #[.slice none 0 0,.slice none 0 0] 25)):=(Ext.alloc _ _).trans (Ext.alloc _ _)
 have b0:((w.alloc (.cells #[.slice a n c,.slice b m d] 25)).alloc (.cells #[.slice none 0 0,.slice none 0 0] 25)).cell? ⟨w.heap.size,0,none⟩ = some (.slice a n c):=by simp [go_sem]
 have b1:((w.alloc (.cells #[.slice a n c,.slice b m d] 25)).alloc (.cells #[.slice none 0 0,.slice none 0 0] 25)).cell? ⟨w.heap.size,1,none⟩ = some (.slice b m d):=by simp [go_sem]
 have hr:RowAt ((w.alloc (.cells #[.slice a n c,.slice b m d] 25)).alloc (.cells #[.slice none 0 0,.slice none 0 0] 25)) (w.heap.size + 1) 25 [.slice none 0 0,.slice none 0 0]:=row_at (by simp)
 generalize ((w.alloc (.cells #[.slice a n c,.slice b m d] 25)).alloc (.cells #[.slice none 0 0,.slice none 0 0] 25)) = w1 at *
 have HS:=hid (hS.ext hx1)
 have HT:=hid (hT.ext hx1)
 go_wp2_with fail
 refine (tcheck_yes HT.out HS.out (by omega) HTs.out Hok.out).mono ?_
 rintro e w2 ⟨rfl,hx2⟩
 have hr2:=hr.ext hx2
 have HS2:=hid (HS.out.ext hx2)
 have HT2:=hid (HT.out.ext hx2)
 have b0:=ext_cell hx2 b0
 have b1:=ext_cell hx2 b1
 obtain ⟨sb,so,rfl,hck⟩:=HS2.out.atD (k:=p) (by rw [hlen.out];exact hpl)
 rw [Hpx.out] at hck
 generalize hfe:findF T s = f at hck hfr
 have Hfe:=hid hfe
 have hx12:=hx1.trans hx2
 clear hfe hx1 hx2 HS HT hr
 have cP:=calls_quiet (w:=w2) (v:=.int .i64 p) fun w' hx=>(place_any T S s a n c _ m d w' (HT2.out.ext hx) (HS2.out.ext hx) Hrg.out (by omega) hs).mono fun e w'' ⟨he,hx'⟩=>⟨by rw [he,Hp.out],hx'⟩
 have k0:=cell_regrown b0
 have k1:=cell_regrown b1
 have k2:=cell_regrown hck
 go_wp2_with fail
 refine wp_region_quiet_below (by kernel_rfl) (by kernel_rfl) ?_
 repeat (any_goals (first | go_big_quiet_step (exact cP _ _) | quiet_step (exact cP _ _)))
 refine wpQuiet_nil ?_
 intro wq hw'
 have hxq:=ext_regrown hw'
 clear hw'
 clear cP k0 k1 k2 hck
 have b0:=ext_cell hxq b0
 have b1:=ext_cell hxq b1
 have hr:=hr2.ext hxq
 have hx1:=hx12.trans hxq
 have hB1:Below w.heap.size w wq:=hx1
 have HS3:=hid (HS2.out.ext hxq)
 have HT3:=hid (HT2.out.ext hxq)
 clear hxq hx12 hr2
 by_cases h0:0 ≤ f
 ·have hd:decide (0 < f + 1) = true:=by simp;omega
  have hpf:pf = some (T,S,f):=by rw [← Hpf.out];unfold putF;rw [Hfe.out,if_pos h0]
  have Hpf2:=hid hpf
  have hwf:IntKind.i64.wrap f = f:=IntWalk.i64_in _ (by omega)
  clear hpf
  go_wp2_with fail
  go_region_with (first | (go_at_call 36;refine (cloneS _ T _ (Sl.below hT (below_drewN hB1 1) (Nat.le_refl _)) hT2).mono ?_;rintro e wa ⟨ua,ca,rfl,hoa,hxa⟩;have hrA:=(hr.ext (Ext.drewN _ 1)).ext hxa;have hbA:=below_step (below_drewN hB1 1) hxa;have c0A:=ext_cell hxa (show (wq.drewN 1).cell? _ = _ from b0);have c1A:=ext_cell hxa (show (wq.drewN 1).cell? _ = _ from b1)) | (go_at_call 37;refine (cloneI _ S _ (Sl.below hS hbA (Nat.le_refl _)) hS2).mono ?_;rintro e wb ⟨ub,cb,rfl,hob,hxb⟩;have hrB:=hrA.ext hxb;have hbB:=below_step hbA hxb;have r0:=hrB.cell (i:=0) rfl;have r1:=hrB.cell (i:=1) rfl;have f0:=hrB.frozen 0;have f1:=hrB.frozen 1))
  all_goals
   go_wp2_with fail
   exact bodyPost_ret (v:=.tuple #[.agg #[.slice ua T.length ca,.slice ub S.length cb],.int .i64 f,.int .i64 0]) (by simp [results,Tryz.results102,go_sem,r0,r1,hwf]) rfl
    ⟨below_set2 hbB (by omega) _ _,by rw [Hpf2.out];exact ⟨_,rfl,tabOwn_end hoa hxb hob hx1.size hr.lt hxa.size (by omega) _ _⟩⟩
 ·obtain rfl:f = -1:=by omega
  have hs0:s ∉ T:=findF_no.1 Hfe.out
  have Hs0:=hid hs0
  have hTn:T.length = n:=hlenT.out
  have hmost:=Hok.out.most
  clear hs0
  by_cases hn:n = 1024
  ·have hd:((n:Int) == 1024) = true:=by simp;omega
   have hpf:pf = none:=by rw [← Hpf.out];unfold putF;rw [Hfe.out,if_neg (by omega),if_pos (by omega)]
   have Hpf2:=hid hpf
   have r0:=hr.cell (i:=0) rfl
   have r1:=hr.cell (i:=1) rfl
   have f0:=hr.frozen 0
   have f1:=hr.frozen 1
   clear hn hpf hTn
   go_wp2_with fail
   exact bodyPost_ret (v:=.tuple #[nilTab,.int .i64 0,.int .i64 6]) (by simp [results,Tryz.results102,go_sem,r0,r1,nilTab]) rfl ⟨below_set2 hB1 (by omega) _ _,by rw [Hpf2.out]⟩
  ·have hd:((n:Int) == 1024) = false:=by simp;omega
   have hpf:pf = some (T ++ [s],laidN (T ++ [s]) (moreN T m) (T.length + 1),(T.length:Int)):=by rw [← Hpf.out];unfold putF;rw [Hfe.out,if_neg (by omega),if_neg (by omega),hlen.out]
   have Hpf2:=hid hpf
   have HTn:=hid hTn
   have Hn:=hid (show n < 1024 by omega)
   have hn3:T.length ≤ 1023:=by omega
   clear hn hpf hTn hmost
   go_wp2_with fail
   refine (cloneS _ T _ HT3.out hT2).mono ?_
   rintro e wa ⟨ua,ca,rfl,hoa,hxa⟩
   have b0:=ext_cell hxa b0
   have b1:=ext_cell hxa b1
   have hrA:=hr.ext hxa
   have hbA:=below_step hB1 hxa
   go_wp2_with (at_builtin;refine wpList_append_sl _ rfl _ _ 22 rfl elS rfl (hoa.alloc _) rfl (Sl.new _ #[.string s] 9 1 1 (Nat.le_refl _) ?_) rfl ?_ ?_ ?_ ?_ ?_)
   ·unfold maxLen;omega
   ·rfl
   ·omega
   ·unfold maxLen;omega
   ·have:=hbA.size;have:=hxa.size;simp;omega
   intro v1 w4 hown hb4 _ _
   obtain ⟨g4,c4,rfl⟩:=ownsRow_succ hown
   have hlw:=hr.lt
   have hB4:Below w.heap.size w w4:=(below_step hbA (Ext.alloc _ _)).trans (hb4.mono (by omega))
   have b1:=(hb4.cell (p:=⟨w.heap.size,1,none⟩) (by show w.heap.size < wq.heap.size;omega)).trans (ext_cell (Ext.alloc _ _) b1)
   have hr4:=(hrA.ext (Ext.alloc _ (.cells #[.string s] 9))).below hb4 hlw
   have hT4:Strs w4 (.slice (some ⟨g4,0,none⟩) (T.length + 1) c4) (T ++ [s]):=by
    have:=Sl.of_own hown
    unfold Strs
    simpa using this
   have HT4:=hid hT4
   have hml:m < 2 * (T.length + 1) ∧ moreN T m = 2 * m ∨ ¬ m < 2 * (T.length + 1) ∧ moreN T m = m:=by unfold moreN;by_cases h:m < 2 * (T.length + 1) <;> simp [h]
   have hhalf:=Hok.out.half
   rw [hlen.out] at hhalf
   have hlt4:=Hok.out.lt
   rw [hlen.out] at hlt4
   generalize hmo:moreN T m = mo at hml
   have Hmo:=hid hmo
   have Hml:=hid hml
   have Hhalf:=hid hhalf
   have hlt4:=hid hlt4
   clear hT4 hmo hml hhalf hown hb4 hoa hxa hrA hbA b0 hr
   go_wp2_with fail
   go_loopg [10] 1 (fun g s10 wr=>∃ q:Nat,s10 = .int .i64 q ∧ q ≤ 1000000 ∧ ((q = m ∧ g = 1) ∨ (q = mo ∧ g = 0 ∧ ¬ mo < 2 * (T.length + 1))) ∧ wr = w4)
   case atStart=>exact ⟨m,rfl,by omega,.inl ⟨rfl,rfl⟩,rfl⟩
   case round =>
    obtain ⟨q,rfl,hq,hcase,rfl⟩:=hrel
    by_cases hlq:q < 2 * (T.length + 1)
    ·have hcase:q = m ∧ gk = 1:=by omega
     obtain ⟨rfl,hg⟩:=hcase
     have Hg:=hid hg
     clear hg
     go_wp2_with fail
     go_roundg 0
     case measure=>have:=Hg.out;omega
     case rel=>exact ⟨2 * q,by go_num,by omega,.inr ⟨by have:=Hml.out;omega,rfl,by have:=Hml.out;have:=Hhalf.out;have:=hlt4.out;omega⟩,rfl⟩
    ·have hqm:q = mo:=by have:=Hml.out;omega
     subst hqm
     have hd:=Hok.out.distinct.snoc Hs0.out
     have hla:=laid_any (T ++ [s]) (some ⟨g4,0,none⟩) (T.length + 1) c4 q wr HT4.out (by omega) (by have:=Hml.out;have:=hlt4.out;omega) (by omega) (fun x hx=>by rcases List.mem_append.1 hx with h | h;exact HTs.out x h;simp at h;subst h;exact hs) hd
     have Hla:=hid hla
     clear hcase hd hla
     go_wp2_with fail
     refine Hla.out.mono ?_
     rintro e w5 ⟨v5,rfl,ho5,hx5⟩
     obtain ⟨a5,n5,c5,b5,m5,d5,rfl,ho5a,ho5b⟩:=ho5
     have hr5:=hr4.ext hx5
     have r0:=hr5.cell (i:=0) rfl
     have r1:=hr5.cell (i:=1) rfl
     have f0:=hr5.frozen 0
     have f1:=hr5.frozen 1
     have hB5:=below_step hB4 hx5
     have hl4:=hr4.lt
     clear hr4 hr5
     go_wp2_with fail
     refine bodyPost_ret (v:=.tuple #[.agg #[.slice a5 n5 c5,.slice b5 m5 d5],.int .i64 T.length,.int .i64 0]) (by simp [results,Tryz.results102,go_sem,r0,r1]) rfl ⟨below_set2 hB5 (by omega) _ _,?_⟩
     rw [Hpf2.out]
     refine ⟨_,rfl,_,_,_,_,_,_,rfl,?_,?_⟩
     ·exact own_base (own_set_other (own_set_other ho5a hl4 0 _) hl4 1 _) (by have:=hB4.size;omega)
     ·have h6:=own_base (own_set_other (own_set_other ho5b hl4 0 (.slice a5 n5 c5)) hl4 1 (.slice b5 m5 d5)) (show w.heap.size ≤ wr.heap.size by have:=hB4.size;omega)
      rw [Hmo.out]
      exact h6
end

/- All, New. -/
section
open Go.RowKit Go.Shelf Go.Sort
theorem new_any (w:World):Calls Tryz.prog 107 #[] w fun e w'=>∃ v,e = .returned v ∧ TabOwn w.heap.size w' v [] (List.replicate 8 0) ∧ Ext w w':=by
 have hmI:∀ w,(Instr.makeSlice 23 (.int .i64 8) (.int .i64 8)).run Tryz.prog w = .ok (.slice (some ⟨w.heap.size,0,none⟩) 8 8) (w.alloc (.cells (List.replicate 8 (.int .i64 0)).toArray 3)):=fun w=>make_I 8 (by omega) w
 go_enter Tryz.func107,Tryz.ntmps107
 go_wp2
 have hrow:RowAt ((w.alloc (.cells #[.slice none 0 0,.slice (some ⟨w.heap.size + 1,0,none⟩) 8 8] 25)).alloc (.cells #[.int .i64 0,.int .i64 0,.int .i64 0,.int .i64 0,.int .i64 0,.int .i64 0,.int .i64 0,.int .i64 0] 3)) (w.heap.size + 1) 3 ((List.replicate 8 0).map (Value.int .i64)):=row_at (by simp)
 exact bodyPost_ret (v:=.agg #[.slice none 0 0,.slice (some ⟨w.heap.size + 1,0,none⟩) 8 8]) (by simp [results,Tryz.results107,go_sem]) rfl ⟨_,rfl,⟨_,_,_,_,_,_,rfl,World.ownsRow_nil _ _ _ _,hrow.own (Nat.le_succ _) (by unfold maxLen;decide)⟩,(Ext.alloc _ _).trans (Ext.alloc _ _)⟩
theorem putF_ok {T:List ByteArray} {S:List Int} {s:ByteArray} {T':List ByteArray} {S':List Int} {n:Int} (h:TabOK T S) (hp:putF T S s = some (T',S',n)):TabOK T' S' ∧ (∀ x ∈ T',x ∈ T ∨ x = s) ∧ S'.length ≤ max S.length 4096 ∧ 0 ≤ n ∧ n < T'.length:=by
 unfold putF at hp
 split at hp
 ·cases hp
  have:=findF_range T s
  exact ⟨h,fun x hx=>.inl hx,by omega,by omega,by omega⟩
 ·rename_i hf
  split at hp
  ·cases hp
  ·rename_i hn
   cases hp
   have hmost:=h.most
   have hs:s ∉ T:=findF_no.1 (by have:=findF_range T s;omega)
   refine ⟨h.more hs (by omega),fun x hx=>?_,?_,by omega,by simp;omega⟩
   ·rcases List.mem_append.1 hx with h | h
    ·exact .inl h
    ·exact .inr (by simpa using h)
   ·rw [laidN_len]
    unfold moreN
    split <;> omega
theorem Strs.below {B:Nat} {w w':World} {v:Value} {ss:List ByteArray} (h:Strs w v ss) (hb:Below B w w') (hB:w.heap.size ≤ B):Strs w' v ss:=Sl.below h hb hB
end

/- Rows held against one another; small, cut, same. -/
section
open Go.RowKit Go.Shelf Go.Sort
end

/- small, cut, same. -/
section
open Go.RowKit Go.Shelf Go.Sort
end

/- What wakes the layer. -/
section
open Go.RowKit Go.Shelf Go.Sort
theorem tabOK_new:TabOK [] (List.replicate 8 0):=by
 refine ⟨⟨0,by simp⟩,by simp,by simp,Laid.nil [] 8⟩
end

/- An argument that is a table. -/
section
open Go.ChangeShapes Go.WideShapes Go.ChangeAt Go.RowKit Go.Deep Go.Joins
theorem trod_slice_shape {H:Type} {enc:TypeId × Value → H} {P:Program} {w:World} {base:Nat} {spare:Nat → Bool} {held:Bool} {n:Nat} {t e:TypeId} {v:Value} {y:DataW H × List MemPlace}
 (ht:P.underlying t = some (.slice e)) (h:DataW.trod enc P w base spare held n t [v] = some y):∃ a len cap,v = .slice a len cap:=by
 rcases open_slice ht h with ⟨hcs,_⟩ | ⟨a,len,cap,m,k,D,Pl,hcs,_⟩
 ·simp at hcs;exact ⟨_,_,_,hcs⟩
 ·simp at hcs;exact ⟨_,_,_,hcs⟩
end

/- Arguments that are texts, numbers. -/
section
open Go.ChangeShapes Go.WideShapes Go.ChangeAt Go.RowKit
end

/- The walks of the small functions: need, Sum, Equal of bytes and of numbers. -/
section
open Go.RowKit
end

/- Clone, few. -/
section
open Go.RowKit
end

/- Numbers as bytes: plain, no program in sight. -/
section
end

/- Number: a range over the bytes of a number. -/
section
open Go.RowKit Go.Shelf
attribute [local go_sem] Oper.semAt_some wide_fn wide_depth
end

/- The reference's Number; rows and texts, both. -/
section
open Go.RowKit
def sb (s:ByteArray):List Int:=s.data.toList.map fun b=>(b.toNat:Int)
end

/- The reader: number. -/
section
open Go.RowKit
def Only (R:Nat) (w w':World):Prop:=w.grownBy w' (some R)
end

/- read: what all its instances share. -/
section
open Go.RowKit
end

/- read, at uint64. Written by genread.py out of read.in. -/
section
open Go.RowKit
end

/- The reader: row. -/
section
open Go.RowKit
end

/- The reader: some, text; sums as bytes; Grow and Concat. -/
section
open Go.RowKit
end

/- read, at string. Written by genread.py out of read.in. -/
section
open Go.RowKit
end

/- Grow, Concat, frames. -/
section
open Go.RowKit
end

/- The reader: frame. -/
section
open Go.RowKit
end

/- What is written is read again; what is read is written as it stood there: plain. -/
section
end

end Go.Proofs.YtkmbnghghbfkdaaGreat
