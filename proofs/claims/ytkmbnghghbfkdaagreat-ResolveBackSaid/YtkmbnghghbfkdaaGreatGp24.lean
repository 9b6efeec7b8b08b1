/- An argument's term, where it is a variable. -/
import Derived.Test.YtkmbnghghbfkdaaGreatGp23
import Derived.Test.YtkmbnghghbfkdaaGreatGp16
import Derived.Test.YtkmbnghghbfkdaaGreatGp14
set_option linter.unusedSimpArgs false
set_option linter.unusedVariables false
set_option maxHeartbeats 2000000
set_option maxRecDepth 100000
namespace Go.Proofs.YtkmbnghghbfkdaaGreat
open Go.Lib (hid)

section
open Go.RowKit Go.Shelf Go.Sort
attribute [local go_sem] Oper.semAt_some wide_fn wide_depth
theorem nterm_var (vs:Nat → Value × Value) (m:Nat) (a:Option Addr) (c:Nat) (D:Dic) (V:List ByteArray) (w:World) (hA:Strs w (.slice a V.length c) V) (x q:Int) (hx:x ≠ -1) (hl:V.length ≤ 1000000) :
 Calls Tryz.prog 118 #[nmV vs m (.slice a V.length c),.agg #[.int .i64 x,.int .i64 q]] w fun e w'=>e = outE (termF D V ⟨x,q⟩) termV ∧ Ext w w':=by
 have hr:termF D V ⟨x,q⟩ = if 0 ≤ x ∧ x < V.length ∧ q = 0 then some (false,V.getD x.toNat nilB) else none:=by
  unfold termF;rw [if_neg hx]
 obtain ⟨X,hX⟩:∃ X,outE (termF D V ⟨x,q⟩) termV = X:=⟨_,rfl⟩
 rw [hX]
 rw [hr] at hX
 have hne:(x == -1) = false:=by simpa using hx
 have HA:=hid hA
 unfold nmV at *
 by_cases hok:0 ≤ x ∧ x < V.length ∧ q = 0
 ·obtain ⟨h1,h2,rfl⟩:=hok
  obtain ⟨k,rfl⟩:∃ k:Nat,x = k:=⟨x.toNat,by omega⟩
  have hkl:k < V.length:=by omega
  rw [if_pos ⟨h1,h2,rfl⟩,Int.toNat_natCast,List.getD_eq_getElem?_getD,List.getElem?_eq_getElem hkl] at hX
  have hX':Ending.returned (.agg #[.bool false,.string V[k]]) = X:=hX
  have HXE:=hid hX'
  have HL:=hid hl
  clear hX hX' hr hx h1 h2 hA
  have hbx:=boxes3 w (nmL vs m (.slice a V.length c)) 98 ([.int .i64 k,.int .i64 0]) 73 ([.bool false,.string ⟨#[]⟩]) 86
  have HBX:=hid hbx
  clear hbx
  go_enter Tryz.func118,Tryz.ntmps118
  go_upto_region 1 with fail
  generalize ((w.alloc (.cells (nmL vs m (.slice a V.length c)).toArray 98)).alloc (.cells ([.int .i64 k,.int .i64 0]).toArray 73)).alloc (.cells ([.bool false,.string ⟨#[]⟩]).toArray 86) = w1 at *
  obtain ⟨y0,hy0⟩:∃ x,w.heap.size = x:=⟨_,rfl⟩
  obtain ⟨y1,hy1⟩:∃ x,y0 + 1 = x:=⟨_,rfl⟩
  obtain ⟨y2,hy2⟩:∃ x,y1 + 1 = x:=⟨_,rfl⟩
  rw [hy0,hy1,hy2] at HBX
  simp only [hy0,hy1,hy2]
  have HN:=hid (show w.heap.size = y0 ∧ y0 + 1 = y1 ∧ y1 + 1 = y2 from ⟨hy0,hy1,hy2⟩)
  have HX:=hid HBX.out.1
  have H0:=hid HBX.out.2.1
  have H1:=hid HBX.out.2.2.1
  have H2:=hid HBX.out.2.2.2
  clear hy0 hy1 hy2 HBX
  obtain ⟨b,o,rfl,c0⟩:=(HA.out.ext HX.out).at_ hkl
  generalize V[k] = s at *
  have k0:=H1.out.cell (i:=0) rfl
  have k1:=H1.out.cell (i:=1) rfl
  obtain ⟨n0,n1⟩:=nm_map H0.out
  clear hl
  go_wp2_with fail
  refine (need_yes _).mono ?_
  rintro e w3 ⟨rfl,rfl⟩
  go_upto_region 4 with fail
  apply wp_region_lit
  iterate 7 (refine wpList_plain rfl fun Y y'=>?_;go_simp;refine y' _ _ ?_;clear y' Y)
  clear k0 k1 n0 n1 c0
  refine plain_store rfl _ _ _ rfl y2 ([.bool false,.string s]) rfl rfl (H2.out) (by kernel_rfl) rfl ((by simp [Value.oneCell'])) ?_
  have HRR:=hid ((H2.out).setRow ([.bool false,.string s]))
  have HXX:=hid (show Ext w ((w1).setRow y2 ([.bool false,.string s]).toArray) from below_setRow (HX.out) ((by have:=HN.out;omega)) _)
  go_simp
  apply wpList_nil
  go_wp2_with fail
  exact bodyPost_ret (results_row0 rfl rfl HRR.out Tryz.underlying86 rfl (by kernel_rfl)) rfl (⟨HXE.out,HXX.out⟩)
 ·rw [if_neg hok] at hX
  have HXE:=hid (show unknE = X from hX)
  obtain ⟨b1,hb1⟩:∃ b,decide (0 ≤ x) = b:=⟨_,rfl⟩
  obtain ⟨b2,hb2⟩:∃ b,decide (x < (V.length:Int)) = b:=⟨_,rfl⟩
  obtain ⟨b3,hb3⟩:∃ b,(q == 0) = b:=⟨_,rfl⟩
  have HNO:Hid (¬ (b1 = true ∧ b2 = true ∧ b3 = true)):=hid (by
   rintro ⟨rfl,rfl,rfl⟩
   exact hok ⟨of_decide_eq_true hb1,of_decide_eq_true hb2,by simpa using hb3⟩)
  clear hok hX hr hx hA hl
  cases b1
  case false =>
   have hbx:=boxes3 w (nmL vs m (.slice a V.length c)) 98 ([.int .i64 x,.int .i64 q]) 73 ([.bool false,.string ⟨#[]⟩]) 86
   have HBX:=hid hbx
   clear hbx
   go_enter Tryz.func118,Tryz.ntmps118
   go_upto_region 1 with fail
   generalize ((w.alloc (.cells (nmL vs m (.slice a V.length c)).toArray 98)).alloc (.cells ([.int .i64 x,.int .i64 q]).toArray 73)).alloc (.cells ([.bool false,.string ⟨#[]⟩]).toArray 86) = w1 at *
   obtain ⟨y0,hy0⟩:∃ x,w.heap.size = x:=⟨_,rfl⟩
   obtain ⟨y1,hy1⟩:∃ x,y0 + 1 = x:=⟨_,rfl⟩
   obtain ⟨y2,hy2⟩:∃ x,y1 + 1 = x:=⟨_,rfl⟩
   rw [hy0,hy1,hy2] at HBX
   simp only [hy0,hy1,hy2]
   have HN:=hid (show w.heap.size = y0 ∧ y0 + 1 = y1 ∧ y1 + 1 = y2 from ⟨hy0,hy1,hy2⟩)
   have HX:=hid HBX.out.1
   have H0:=hid HBX.out.2.1
   have H1:=hid HBX.out.2.2.1
   have H2:=hid HBX.out.2.2.2
   clear hy0 hy1 hy2 HBX
   have k0:=H1.out.cell (i:=0) rfl
   have k1:=H1.out.cell (i:=1) rfl
   obtain ⟨n0,n1⟩:=nm_map H0.out
   go_wp2_with fail
   refine (need_no _).mono ?_
   rintro e w3 ⟨rfl,rfl⟩
   unfold unknE
   dsimp only
   go_wp2_with fail
   exact ⟨rfl,HXE.out,HX.out⟩
  case true =>
   cases b2
   case false =>
    have hbx:=boxes3 w (nmL vs m (.slice a V.length c)) 98 ([.int .i64 x,.int .i64 q]) 73 ([.bool false,.string ⟨#[]⟩]) 86
    have HBX:=hid hbx
    clear hbx
    go_enter Tryz.func118,Tryz.ntmps118
    go_upto_region 1 with fail
    generalize ((w.alloc (.cells (nmL vs m (.slice a V.length c)).toArray 98)).alloc (.cells ([.int .i64 x,.int .i64 q]).toArray 73)).alloc (.cells ([.bool false,.string ⟨#[]⟩]).toArray 86) = w1 at *
    obtain ⟨y0,hy0⟩:∃ x,w.heap.size = x:=⟨_,rfl⟩
    obtain ⟨y1,hy1⟩:∃ x,y0 + 1 = x:=⟨_,rfl⟩
    obtain ⟨y2,hy2⟩:∃ x,y1 + 1 = x:=⟨_,rfl⟩
    rw [hy0,hy1,hy2] at HBX
    simp only [hy0,hy1,hy2]
    have HN:=hid (show w.heap.size = y0 ∧ y0 + 1 = y1 ∧ y1 + 1 = y2 from ⟨hy0,hy1,hy2⟩)
    have HX:=hid HBX.out.1
    have H0:=hid HBX.out.2.1
    have H1:=hid HBX.out.2.2.1
    have H2:=hid HBX.out.2.2.2
    clear hy0 hy1 hy2 HBX
    have k0:=H1.out.cell (i:=0) rfl
    have k1:=H1.out.cell (i:=1) rfl
    obtain ⟨n0,n1⟩:=nm_map H0.out
    go_wp2_with fail
    refine (need_no _).mono ?_
    rintro e w3 ⟨rfl,rfl⟩
    unfold unknE
    dsimp only
    go_wp2_with fail
    exact ⟨rfl,HXE.out,HX.out⟩
   case true =>
    cases b3
    case true=>exact absurd ⟨rfl,rfl,rfl⟩ HNO.out
    case false =>
     have hbx:=boxes3 w (nmL vs m (.slice a V.length c)) 98 ([.int .i64 x,.int .i64 q]) 73 ([.bool false,.string ⟨#[]⟩]) 86
     have HBX:=hid hbx
     clear hbx
     go_enter Tryz.func118,Tryz.ntmps118
     go_upto_region 1 with fail
     generalize ((w.alloc (.cells (nmL vs m (.slice a V.length c)).toArray 98)).alloc (.cells ([.int .i64 x,.int .i64 q]).toArray 73)).alloc (.cells ([.bool false,.string ⟨#[]⟩]).toArray 86) = w1 at *
     obtain ⟨y0,hy0⟩:∃ x,w.heap.size = x:=⟨_,rfl⟩
     obtain ⟨y1,hy1⟩:∃ x,y0 + 1 = x:=⟨_,rfl⟩
     obtain ⟨y2,hy2⟩:∃ x,y1 + 1 = x:=⟨_,rfl⟩
     rw [hy0,hy1,hy2] at HBX
     simp only [hy0,hy1,hy2]
     have HN:=hid (show w.heap.size = y0 ∧ y0 + 1 = y1 ∧ y1 + 1 = y2 from ⟨hy0,hy1,hy2⟩)
     have HX:=hid HBX.out.1
     have H0:=hid HBX.out.2.1
     have H1:=hid HBX.out.2.2.1
     have H2:=hid HBX.out.2.2.2
     clear hy0 hy1 hy2 HBX
     have k0:=H1.out.cell (i:=0) rfl
     have k1:=H1.out.cell (i:=1) rfl
     obtain ⟨n0,n1⟩:=nm_map H0.out
     go_wp2_with fail
     refine (need_no _).mono ?_
     rintro e w3 ⟨rfl,rfl⟩
     unfold unknE
     dsimp only
     go_wp2_with fail
     exact ⟨rfl,HXE.out,HX.out⟩
theorem nterm_any (vs:Nat → Value × Value) (m:Nat) (a:Option Addr) (c:Nat) (D:Dic) (V:List ByteArray) (w:World) (hV:DicV w vs D) (hS:DicS D) (h:DicOK D) (hA:Strs w (.slice a V.length c) V) (hl:V.length ≤ 1000000) (x:Arg) :
 Calls Tryz.prog 118 #[nmV vs m (.slice a V.length c),argV x] w fun e w'=>e = outE (termF D V x) termV ∧ Ext w w':=by
 obtain ⟨v,q⟩:=x
 by_cases hx:v = -1
 ·subst hx
  exact nterm_key vs m _ D V w hV hS h q
 ·exact nterm_var vs m a c D V w hA v q hx hl
end

/- A region that draws its order: what each operation comes to is known, or it leaves. No program in sight. -/
section
open Go.RowKit Go.Sort
theorem qA {α:Type} (l:List α) (i:Nat) (a:α):l.toArray.setIfInBounds i a = (l.set i a).toArray:=by simp
theorem qB {α:Type} (x:α) (l:List α) (i:Nat) (a:α):(x :: l).set (i + 1) a = x :: l.set i a:=rfl
theorem qC {α:Type} (x:α) (l:List α) (a:α):(x :: l).set 0 a = a :: l:=rfl
structure PlF (I:Bool → World → Prop) (vals:List (Option Value)) (last:Nat) (S:Nat → Bool) (us:List Value) (W:World):Prop where
 inv:I (S last) W
 len:us.length = vals.length
 val:∀ i,S i = true → i < vals.length → ∃ v,vals[i]? = some (some v) ∧ us[i]? = some v
section
variable {I:Bool → World → Prop} {vals:List (Option Value)} {last:Nat} {S:Nat → Bool} {us:List Value} {W W':World}
theorem PlF.start (hl:us.length = vals.length) (h:I false W):PlF I vals last (fun _=>false) us W:=⟨h,hl,nofun⟩
theorem PlF.put (h:PlF I vals last S us W) {i:Nat} {v:Value} (hi:vals[i]? = some (some v)) (hne:last ≠ i) (hI:I (S last) W'):PlF I vals last (updB S i) (us.set i v) W':=by
 refine ⟨by rw [updB_ne S hne];exact hI,by rw [List.length_set];exact h.len,fun j hj hl=>?_⟩
 by_cases e:j = i
 ·subst e
  exact ⟨v,hi,by rw [List.getElem?_set_self (by have:=h.len;omega)]⟩
 ·rw [updB_ne S e] at hj
  obtain ⟨u,h1,h2⟩:=h.val j hj hl
  exact ⟨u,h1,by rw [List.getElem?_set_ne (Ne.symm e)];exact h2⟩
theorem PlF.fin (h:PlF I vals last S us W) (hl:vals.length ≤ last) (hI:I true W'):PlF I vals last (updB S last) us W':=by
 refine ⟨by rw [updB_at];exact hI,h.len,fun j hj hl'=>?_⟩
 rw [updB_ne S (show j ≠ last by omega)] at hj
 exact h.val j hj hl'
theorem PlF.alloc (h:PlF I vals last S us W) {i:Nat} {v:Value} (hn:S i = false) (hl:i < vals.length) (hne:last ≠ i) {J:Bool → World → Prop} (hI:J (S last) W'):PlF J (vals.set i (some v)) last (updB S i) (us.set i v) W':=by
 refine ⟨by rw [updB_ne S hne];exact hI,by rw [List.length_set,List.length_set];exact h.len,fun j hj hl'=>?_⟩
 rw [List.length_set] at hl'
 by_cases e:j = i
 ·subst e
  exact ⟨v,by rw [List.getElem?_set_self hl],by rw [List.getElem?_set_self (by have:=h.len;omega)]⟩
 ·rw [updB_ne S e] at hj
  obtain ⟨u,h1,h2⟩:=h.val j hj hl'
  exact ⟨u,by rw [List.getElem?_set_ne (Ne.symm e)];exact h1,by rw [List.getElem?_set_ne (Ne.symm e)];exact h2⟩
theorem PlF.get (h:PlF I vals last S us W) {i:Nat} (hS:S i = true) {o:Option Value} (hi:vals[i]? = some o):∃ v,o = some v ∧ us[i]? = some v:=by
 obtain ⟨v,h1,h2⟩:=h.val i hS (List.getElem?_eq_some_iff.1 hi).1
 rw [hi] at h1
 exact ⟨v,Option.some.inj h1,h2⟩
theorem PlF.got (h:PlF I vals last S us W) {i:Nat} (hS:S i = true) {v u:Value} (hi:vals[i]? = some (some v)) (hu:us[i]? = some u):u = v:=by
 obtain ⟨v',h1,h2⟩:=h.get hS hi
 rw [hu] at h2
 cases h1
 exact Option.some.inj h2
theorem PlF.map {α:Type} (h:PlF I vals last S us W) {i:Nat} (hS:S i = true) {r:Option α} {f:α → Value} {u:Value} (hi:vals[i]? = some (r.map f)) (hu:us[i]? = some u):∃ x,r = some x ∧ u = f x:=by
 obtain ⟨v',h1,h2⟩:=h.get hS hi
 rw [hu] at h2
 cases r with
 | none=>cases h1
 | some x=>exact ⟨x,rfl,by cases h1;exact Option.some.inj h2⟩
end
structure PlS (vals:List (Option Value)) (S:Nat → Bool) (us:List Value):Prop where
 len:us.length = vals.length
 val:∀ i,S i = true → i < vals.length → ∃ v,vals[i]? = some (some v) ∧ us[i]? = some v
section
variable {vals:List (Option Value)} {S:Nat → Bool} {us:List Value}
theorem PlS.start (hl:us.length = vals.length):PlS vals (fun _=>false) us:=⟨hl,nofun⟩
theorem PlS.put (h:PlS vals S us) {i:Nat} {v:Value} (hi:vals[i]? = some (some v)):PlS vals (updB S i) (us.set i v):=by
 refine ⟨by rw [List.length_set];exact h.len,fun j hj hl=>?_⟩
 by_cases e:j = i
 ·subst e
  exact ⟨v,hi,by rw [List.getElem?_set_self (by have:=h.len;omega)]⟩
 ·rw [updB_ne S e] at hj
  obtain ⟨u,h1,h2⟩:=h.val j hj hl
  exact ⟨u,h1,by rw [List.getElem?_set_ne (Ne.symm e)];exact h2⟩
theorem PlS.new (h:PlS vals S us) {i:Nat} (v:Value) (hn:S i = false) (hl:i < vals.length):PlS (vals.set i (some v)) (updB S i) (us.set i v):=by
 refine ⟨by rw [List.length_set,List.length_set];exact h.len,fun j hj hl'=>?_⟩
 rw [List.length_set] at hl'
 by_cases e:j = i
 ·subst e
  exact ⟨v,by rw [List.getElem?_set_self hl],by rw [List.getElem?_set_self (by have:=h.len;omega)]⟩
 ·rw [updB_ne S e] at hj
  obtain ⟨u,h1,h2⟩:=h.val j hj hl'
  exact ⟨u,by rw [List.getElem?_set_ne (Ne.symm e)];exact h1,by rw [List.getElem?_set_ne (Ne.symm e)];exact h2⟩
theorem PlS.out (h:PlS vals S us) {i:Nat} (hl:vals.length ≤ i):PlS vals (updB S i) us:=by
 refine ⟨h.len,fun j hj hl'=>?_⟩
 rw [updB_ne S (show j ≠ i by omega)] at hj
 exact h.val j hj hl'
theorem PlS.get (h:PlS vals S us) {i:Nat} (hS:S i = true) {o:Option Value} (hi:vals[i]? = some o):∃ v,o = some v ∧ us[i]? = some v:=by
 obtain ⟨v,h1,h2⟩:=h.val i hS (List.getElem?_eq_some_iff.1 hi).1
 rw [hi] at h1
 exact ⟨v,Option.some.inj h1,h2⟩
theorem PlS.got (h:PlS vals S us) {i:Nat} (hS:S i = true) {v u:Value} (hi:vals[i]? = some (some v)) (hu:us[i]? = some u):u = v:=by
 obtain ⟨v',h1,h2⟩:=h.get hS hi
 rw [hu] at h2
 cases h1
 exact Option.some.inj h2
theorem PlS.map {α:Type} (h:PlS vals S us) {i:Nat} (hS:S i = true) {r:Option α} {f:α → Value} {u:Value} (hi:vals[i]? = some (r.map f)) (hu:us[i]? = some u):∃ x,r = some x ∧ u = f x:=by
 obtain ⟨v',h1,h2⟩:=h.get hS hi
 rw [hu] at h2
 cases r with
 | none=>cases h1
 | some x=>exact ⟨x,rfl,by cases h1;exact Option.some.inj h2⟩
end
section
variable {P:Program} {Q:Exit → Act → World → Prop} {K:Act → World → Prop} {ops:Array Oper} {o:Oper} {a:Act} {w:World} {E:Prop}
end
theorem len6 {l:List Value} {vals:List (Option Value)} (h:l.length = vals.length) (hv:vals.length = 6):∃ u0 u1 u2 u3 u4 u5,l = [u0,u1,u2,u3,u4,u5]:=by
 rw [hv] at h
 match l,h with
 | [u0,u1,u2,u3,u4,u5],_=>exact ⟨u0,u1,u2,u3,u4,u5,rfl⟩
theorem len8 {l:List Value} {vals:List (Option Value)} (h:l.length = vals.length) (hv:vals.length = 8):∃ u0 u1 u2 u3 u4 u5 u6 u7,l = [u0,u1,u2,u3,u4,u5,u6,u7]:=by
 rw [hv] at h
 match l,h with
 | [u0,u1,u2,u3,u4,u5,u6,u7],_=>exact ⟨u0,u1,u2,u3,u4,u5,u6,u7,rfl⟩
theorem len10 {l:List Value} {vals:List (Option Value)} (h:l.length = vals.length) (hv:vals.length = 10):∃ u0 u1 u2 u3 u4 u5 u6 u7 u8 u9,l = [u0,u1,u2,u3,u4,u5,u6,u7,u8,u9]:=by
 rw [hv] at h
 match l,h with
 | [u0,u1,u2,u3,u4,u5,u6,u7,u8,u9],_=>exact ⟨u0,u1,u2,u3,u4,u5,u6,u7,u8,u9,rfl⟩
theorem len11 {l:List Value} {vals:List (Option Value)} (h:l.length = vals.length) (hv:vals.length = 11):∃ u0 u1 u2 u3 u4 u5 u6 u7 u8 u9 u10,l = [u0,u1,u2,u3,u4,u5,u6,u7,u8,u9,u10]:=by
 rw [hv] at h
 match l,h with
 | [u0,u1,u2,u3,u4,u5,u6,u7,u8,u9,u10],_=>exact ⟨u0,u1,u2,u3,u4,u5,u6,u7,u8,u9,u10,rfl⟩
theorem len12 {l:List Value} {vals:List (Option Value)} (h:l.length = vals.length) (hv:vals.length = 12):∃ u0 u1 u2 u3 u4 u5 u6 u7 u8 u9 u10 u11,l = [u0,u1,u2,u3,u4,u5,u6,u7,u8,u9,u10,u11]:=by
 rw [hv] at h
 match l,h with
 | [u0,u1,u2,u3,u4,u5,u6,u7,u8,u9,u10,u11],_=>exact ⟨u0,u1,u2,u3,u4,u5,u6,u7,u8,u9,u10,u11,rfl⟩
theorem len14 {l:List Value} {vals:List (Option Value)} (h:l.length = vals.length) (hv:vals.length = 14):∃ u0 u1 u2 u3 u4 u5 u6 u7 u8 u9 u10 u11 u12 u13,l = [u0,u1,u2,u3,u4,u5,u6,u7,u8,u9,u10,u11,u12,u13]:=by
 rw [hv] at h
 match l,h with
 | [u0,u1,u2,u3,u4,u5,u6,u7,u8,u9,u10,u11,u12,u13],_=>exact ⟨u0,u1,u2,u3,u4,u5,u6,u7,u8,u9,u10,u11,u12,u13,rfl⟩
theorem len15 {l:List Value} {vals:List (Option Value)} (h:l.length = vals.length) (hv:vals.length = 15):∃ u0 u1 u2 u3 u4 u5 u6 u7 u8 u9 u10 u11 u12 u13 u14,l = [u0,u1,u2,u3,u4,u5,u6,u7,u8,u9,u10,u11,u12,u13,u14]:=by
 rw [hv] at h
 match l,h with
 | [u0,u1,u2,u3,u4,u5,u6,u7,u8,u9,u10,u11,u12,u13,u14],_=>exact ⟨u0,u1,u2,u3,u4,u5,u6,u7,u8,u9,u10,u11,u12,u13,u14,rfl⟩
theorem len21 {l:List Value} {vals:List (Option Value)} (h:l.length = vals.length) (hv:vals.length = 21):∃ u0 u1 u2 u3 u4 u5 u6 u7 u8 u9 u10 u11 u12 u13 u14 u15 u16 u17 u18 u19 u20,l = [u0,u1,u2,u3,u4,u5,u6,u7,u8,u9,u10,u11,u12,u13,u14,u15,u16,u17,u18,u19,u20]:=by
 rw [hv] at h
 match l,h with
 | [u0,u1,u2,u3,u4,u5,u6,u7,u8,u9,u10,u11,u12,u13,u14,u15,u16,u17,u18,u19,u20],_=>exact ⟨u0,u1,u2,u3,u4,u5,u6,u7,u8,u9,u10,u11,u12,u13,u14,u15,u16,u17,u18,u19,u20,rfl⟩
end

/- Relations and atoms in memory. -/
section
open Go.RowKit Go.Shelf Go.Sort
def bndCells (b:Bnd):List Value:=[.int .i64 b.kind,.int .i64 b.name,.int .i64 b.a.var,.int .i64 b.a.id,.int .i64 b.b.var,.int .i64 b.b.id]
def bndV (b:Bnd):Value:=.agg (bndCells b).toArray
def bnd0 (b:Bnd):Bnd:=⟨0,b.name,b.a,b.b⟩
def atm0 (a:Atm):Atm:=⟨0,a.fk,a.fn,a.name,a.value,a.tk,a.tn⟩
def zA:Arg:=⟨0,0⟩
def Atm.In (V:List ByteArray) (a:Atm):Prop:=(a.fk = false → a.fn ∈ V) ∧ (a.kind = 4 → a.tk = false → a.tn ∈ V)
section
variable (D:Dic) (V:List ByteArray) (fk:Bool) (fn name value:ByteArray) (tk:Bool) (tn:ByteArray)
theorem bndF1:bndF D V ⟨1,fk,fn,name,value,tk,tn⟩ = (argF D V fk fn).map fun x=>⟨0,0,x,x⟩:=by
 unfold bndF;rw [if_pos rfl]
theorem bndF2:bndF D V ⟨2,fk,fn,name,value,tk,tn⟩ = (argF D V fk fn).bind fun x=>if 0 ≤ idF D 1 name then some ⟨1,idF D 1 name,x,x⟩ else none:=by
 unfold bndF;rw [if_neg (show ¬ (2:Int) = 1 by decide),if_pos rfl]
theorem bndF3:bndF D V ⟨3,fk,fn,name,value,tk,tn⟩ = (argF D V fk fn).bind fun x=>if 0 ≤ idF D 3 name ∧ 0 ≤ idF D 4 value then some ⟨2,idF D 3 name,⟨-1,idF D 4 value⟩,x⟩ else none:=by
 unfold bndF;rw [if_neg (show ¬ (3:Int) = 1 by decide),if_neg (show ¬ (3:Int) = 2 by decide),if_pos rfl]
theorem bndF4:bndF D V ⟨4,fk,fn,name,value,tk,tn⟩ = (argF D V fk fn).bind fun x=>(argF D V tk tn).bind fun y=>if 0 ≤ idF D 2 name then some ⟨3,idF D 2 name,x,y⟩ else none:=by
 unfold bndF;rw [if_neg (show ¬ (4:Int) = 1 by decide),if_neg (show ¬ (4:Int) = 2 by decide),if_neg (show ¬ (4:Int) = 3 by decide),if_pos rfl]
end
theorem way_e {D:Dic} {V:List ByteArray} {fk tk:Bool} {fn name value tn:ByteArray} {k:Int} {X:Ending} (hk:k = 4) (hX:outE ((bndF D V ⟨k,fk,fn,name,value,tk,tn⟩).map bnd0) bndV = X) :
 (∀ q x y,idO D 2 name = some q → argF D V fk fn = some x → argF D V tk tn = some y → Ending.returned (.agg #[.int .i64 0,.int .i64 q,.int .i64 x.var,.int .i64 x.id,.int .i64 y.var,.int .i64 y.id]) = X) ∧
  (idO D 2 name = none → unknE = X) ∧ (argF D V fk fn = none → unknE = X) ∧ (argF D V tk tn = none → unknE = X):=by
 subst hk hX
 rw [bndF4]
 unfold idO
 generalize idF D 2 name = q0
 generalize argF D V fk fn = r1
 generalize argF D V tk tn = r2
 by_cases h:0 ≤ q0
 ·simp only [h,if_true]
  clear h
  cases r1 <;> cases r2 <;> simp [outE,bnd0,bndV,bndCells]
 ·simp only [h,if_false]
  cases r1 <;> cases r2 <;> simp [outE]
theorem way_e1 {D:Dic} {V:List ByteArray} {fk tk:Bool} {fn name value tn:ByteArray} {X:Ending} (hX:outE ((bndF D V ⟨1,fk,fn,name,value,tk,tn⟩).map bnd0) bndV = X) :
 (∀ x,argF D V fk fn = some x → Ending.returned (.agg #[.int .i64 0,.int .i64 0,.int .i64 x.var,.int .i64 x.id,.int .i64 x.var,.int .i64 x.id]) = X) ∧ (argF D V fk fn = none → unknE = X):=by
 subst hX
 rw [bndF1]
 cases argF D V fk fn <;> simp [outE,bnd0,bndV,bndCells]
theorem way_e2 {D:Dic} {V:List ByteArray} {fk tk:Bool} {fn name value tn:ByteArray} {X:Ending} (hX:outE ((bndF D V ⟨2,fk,fn,name,value,tk,tn⟩).map bnd0) bndV = X) :
 (∀ q x,idO D 1 name = some q → argF D V fk fn = some x → Ending.returned (.agg #[.int .i64 0,.int .i64 q,.int .i64 x.var,.int .i64 x.id,.int .i64 x.var,.int .i64 x.id]) = X) ∧ (idO D 1 name = none → unknE = X) ∧ (argF D V fk fn = none → unknE = X):=by
 subst hX
 rw [bndF2]
 unfold idO
 generalize idF D 1 name = q0
 generalize argF D V fk fn = r1
 by_cases h:0 ≤ q0
 ·simp only [h,if_true]
  clear h
  cases r1 <;> simp [outE,bnd0,bndV,bndCells]
 ·simp only [h,if_false]
  cases r1 <;> simp [outE]
theorem way_e3 {D:Dic} {V:List ByteArray} {fk tk:Bool} {fn name value tn:ByteArray} {X:Ending} (hX:outE ((bndF D V ⟨3,fk,fn,name,value,tk,tn⟩).map bnd0) bndV = X) :
 (∀ q v x,idO D 3 name = some q → idO D 4 value = some v → argF D V fk fn = some x → Ending.returned (.agg #[.int .i64 0,.int .i64 q,.int .i64 (-1),.int .i64 v,.int .i64 x.var,.int .i64 x.id]) = X) ∧
  (idO D 3 name = none → unknE = X) ∧ (idO D 4 value = none → unknE = X) ∧ (argF D V fk fn = none → unknE = X):=by
 subst hX
 rw [bndF3]
 unfold idO
 generalize idF D 3 name = q0
 generalize idF D 4 value = q1
 generalize argF D V fk fn = r1
 by_cases h:0 ≤ q0
 ·by_cases h':0 ≤ q1
  ·simp only [h,h',if_true,and_self]
   clear h h'
   cases r1 <;> simp [outE,bnd0,bndV,bndCells]
  ·simp only [h,h',if_false,and_false]
   cases r1 <;> simp [outE]
 ·simp only [h,if_false,false_and]
  cases r1 <;> simp [outE]
section
variable (D:Dic) (V:List ByteArray) (n:Int) (a b:Arg)
theorem atmF0:atmF D V ⟨0,n,a,b⟩ = (termF D V a).map fun t=>⟨1,t.1,t.2,nilB,nilB,false,nilB⟩:=by
 unfold atmF;rw [if_pos rfl]
theorem atmF1:atmF D V ⟨1,n,a,b⟩ = (termF D V a).bind fun t=>(nameO D 1 n).map fun s=>⟨2,t.1,t.2,s,nilB,false,nilB⟩:=by
 unfold atmF;rw [if_neg (show ¬ (1:Int) = 0 by decide),if_pos rfl]
theorem atmF2:atmF D V ⟨2,n,a,b⟩ = (termF D V b).bind fun t=>(nameO D 3 n).bind fun s=>(nameO D 4 a.id).map fun v=>⟨3,t.1,t.2,s,v,false,nilB⟩:=by
 unfold atmF;rw [if_neg (show ¬ (2:Int) = 0 by decide),if_neg (show ¬ (2:Int) = 1 by decide),if_pos rfl]
theorem atmF3:atmF D V ⟨3,n,a,b⟩ = (termF D V a).bind fun t=>(nameO D 2 n).bind fun s=>(termF D V b).map fun u=>⟨4,t.1,t.2,s,nilB,u.1,u.2⟩:=by
 unfold atmF;rw [if_neg (show ¬ (3:Int) = 0 by decide),if_neg (show ¬ (3:Int) = 1 by decide),if_neg (show ¬ (3:Int) = 2 by decide),if_pos rfl]
end
section
variable {D:Dic} {V:List ByteArray} {n:Int} {a b:Arg} {X:Ending}
theorem back_e0 (hX:outE ((atmF D V ⟨0,n,a,b⟩).map atm0) atV = X) :
 (∀ t,termF D V a = some t → Ending.returned (.agg #[.int .i64 0,.bool t.1,.string t.2,.string ⟨#[]⟩,.string ⟨#[]⟩,.bool false,.string ⟨#[]⟩]) = X) ∧ (termF D V a = none → unknE = X):=by
 subst hX
 rw [atmF0]
 cases termF D V a <;> simp [outE,atm0,atV,nilB]
theorem back_e1 (hX:outE ((atmF D V ⟨1,n,a,b⟩).map atm0) atV = X) :
 (∀ t s,termF D V a = some t → nameO D 1 n = some s → Ending.returned (.agg #[.int .i64 0,.bool t.1,.string t.2,.string s,.string ⟨#[]⟩,.bool false,.string ⟨#[]⟩]) = X) ∧ (termF D V a = none → unknE = X) ∧ (nameO D 1 n = none → unknE = X):=by
 subst hX
 rw [atmF1]
 cases termF D V a <;> cases nameO D 1 n <;> simp [outE,atm0,atV,nilB]
theorem back_e2 (hX:outE ((atmF D V ⟨2,n,a,b⟩).map atm0) atV = X) :
 (∀ t s v,termF D V b = some t → nameO D 3 n = some s → nameO D 4 a.id = some v → Ending.returned (.agg #[.int .i64 0,.bool t.1,.string t.2,.string s,.string v,.bool false,.string ⟨#[]⟩]) = X) ∧
  (termF D V b = none → unknE = X) ∧ (nameO D 3 n = none → unknE = X) ∧ (nameO D 4 a.id = none → unknE = X):=by
 subst hX
 rw [atmF2]
 cases termF D V b <;> cases nameO D 3 n <;> cases nameO D 4 a.id <;> simp [outE,atm0,atV,nilB]
theorem back_e3 (hX:outE ((atmF D V ⟨3,n,a,b⟩).map atm0) atV = X) :
 (∀ t s u,termF D V a = some t → nameO D 2 n = some s → termF D V b = some u → Ending.returned (.agg #[.int .i64 0,.bool t.1,.string t.2,.string s,.string ⟨#[]⟩,.bool u.1,.string u.2]) = X) ∧
  (termF D V a = none → unknE = X) ∧ (nameO D 2 n = none → unknE = X) ∧ (termF D V b = none → unknE = X):=by
 subst hX
 rw [atmF3]
 cases termF D V a <;> cases nameO D 2 n <;> cases termF D V b <;> simp [outE,atm0,atV,nilB]
end
end

/- How an atom comes to a relation, or back: there, kind 1. -/
section
open Go.RowKit Go.Shelf Go.Sort
attribute [local go_sem] Oper.semAt_some wide_fn wide_depth
set_option maxHeartbeats 4000000 in
theorem way1_any (vs:Nat → Value × Value) (m:Nat) (av:Value) (D:Dic) (V:List ByteArray) (w:World) (hV:DicV w vs D) (hS:DicS D) (h:DicOK D) (hm:VarsAt w m V) (hd:Distinct V) (fk:Bool) (fn name value:ByteArray) (tk:Bool) (tn:ByteArray)
 (hf:(⟨1,fk,fn,name,value,tk,tn⟩:Atm).Fits) (hin:(⟨1,fk,fn,name,value,tk,tn⟩:Atm).In V) :
 Calls Tryz.prog 115 #[nmV vs m av,atV ⟨1,fk,fn,name,value,tk,tn⟩] w fun e w'=>e = outE ((bndF D V ⟨1,fk,fn,name,value,tk,tn⟩).map bnd0) bndV ∧ Ext w w':=by
 have hmo:Tryz.prog.follows .mixedOrders = true:=by kernel_rfl
 obtain ⟨X,hX⟩:∃ X,outE ((bndF D V ⟨1,fk,fn,name,value,tk,tn⟩).map bnd0) bndV = X:=⟨_,rfl⟩
 rw [hX]
 obtain ⟨hY,hN0⟩:=way_e1 hX
 obtain ⟨r0,hr0⟩:∃ r,argF D V fk fn = r:=⟨_,rfl⟩
 have hC0:=fun w' (hx:Ext w w')=>narg_any vs m av D V w' (hV.ext hx) hS h (hm.ext hx) hd fk fn (by have:=hf.fn;dsimp only at this;omega) hin.1
 rw [hr0] at hY hN0 hC0
 have HX0:=hid hY
 have HN0:=hid hN0
 have HC0:=hid hC0
 clear hX hY hN0 hC0 hr0 hV hS h hm hd hf hin
 unfold nmV atV at *
 dsimp only at *
 have hbx:=boxes3 w (nmL vs m av) 98 ([.int .i64 1,.bool fk,.string fn,.string name,.string value,.bool tk,.string tn]) 88 ([.int .i64 0,.int .i64 0,.int .i64 0,.int .i64 0,.int .i64 0,.int .i64 0]) 75
 have HBX:=hid hbx
 clear hbx
 go_enter Tryz.func115,Tryz.ntmps115
 go_upto_region 1 with fail
 generalize ((w.alloc (.cells (nmL vs m av).toArray 98)).alloc (.cells ([.int .i64 1,.bool fk,.string fn,.string name,.string value,.bool tk,.string tn]).toArray 88)).alloc (.cells ([.int .i64 0,.int .i64 0,.int .i64 0,.int .i64 0,.int .i64 0,.int .i64 0]).toArray 75) = w1 at *
 obtain ⟨y0,hy0⟩:∃ x,w.heap.size = x:=⟨_,rfl⟩
 obtain ⟨y1,hy1⟩:∃ x,y0 + 1 = x:=⟨_,rfl⟩
 obtain ⟨y2,hy2⟩:∃ x,y1 + 1 = x:=⟨_,rfl⟩
 rw [hy0,hy1,hy2] at HBX
 simp only [hy0,hy1,hy2]
 have HN:=hid (show w.heap.size = y0 ∧ y0 + 1 = y1 ∧ y1 + 1 = y2 from ⟨hy0,hy1,hy2⟩)
 have HX:=hid HBX.out.1
 have H0:=hid HBX.out.2.1
 have H1:=hid HBX.out.2.2.1
 have H2:=hid HBX.out.2.2.2
 clear hy0 hy1 hy2 HBX
 have HY:=hid (show y0 ≠ y2 ∧ y1 ≠ y2 ∧ w.heap.size ≤ y2 by have:=HN.out;omega)
 clear HN
 have k1:=H1.out.cell (i:=1) rfl
 have k2:=H1.out.cell (i:=2) rfl
 apply wp_region_lit
 refine plain_load rfl _ _ rfl y0 rfl _ _ (H0.out) Tryz.underlying98 rfl (by kernel_rfl) ?_
 go_simp
 iterate 2 (refine wpList_plain rfl fun Y y'=>?_;go_simp;refine y' _ _ ?_;clear y' Y)
 refine wpList_plain rfl fun K1 hK1=>?_
 go_simp
 refine (HC0.out w1 HX.out).mono ?_
 rintro e w2 ⟨rfl,hxw2⟩
 rcases hrx:r0 with _ | x
 ·unfold outE unknE
  go_wp2_with fail
  exact ⟨rfl,HN0.out hrx,HX.out.trans hxw2⟩
 unfold outE
 dsimp only
 go_simp
 refine hK1 _ _ ?_
 clear hK1 K1
 have HXw2:=hid (HX.out.trans hxw2)
 have HB2:=hid (H2.out.ext hxw2)
 clear hxw2 HX H0 H1 H2 k1 k2
 obtain ⟨x1,x2⟩:=x
 unfold argV
 dsimp only
 (refine wpList_plain rfl fun Y y'=>?_;go_simp;refine y' _ _ ?_;clear y' Y)
 have hx3:=Ext.alloc w2 (.cells #[.int .i64 0,.int .i64 0] 73)
 have ha3:RowAt (w2.alloc (.cells #[.int .i64 0,.int .i64 0] 73)) w2.heap.size 73 [.int .i64 0,.int .i64 0]:=RowAt.new _ _ _
 have hlt2:y2 < w2.heap.size:=HB2.out.lt
 have hw2:=HXw2.out.size
 have HX3:=hid (HXw2.out.trans hx3)
 have HB3:=hid (HB2.out.ext hx3)
 have HA3:=hid ha3
 clear hx3 ha3 HXw2 HB2
 generalize w2.alloc (.cells #[.int .i64 0,.int .i64 0] 73) = w3 at *
 obtain ⟨x,hx⟩:∃ x,w2.heap.size = x:=⟨_,rfl⟩
 rw [hx] at HA3 hlt2 hw2
 simp only [hx]
 clear hx
 refine plain_store rfl _ _ _ rfl x [.int .i64 x1,.int .i64 x2] rfl rfl HA3.out (by kernel_rfl) rfl (by simp [Value.oneCell']) ?_
 have HB4:=hid (show RowAt (w3.setRow x #[.int .i64 x1,.int .i64 x2]) y2 75 [.int .i64 0,.int .i64 0,.int .i64 0,.int .i64 0,.int .i64 0,.int .i64 0] from (setRow_other w3 x y2 #[.int .i64 x1,.int .i64 x2] (by omega)).trans HB3.out)
 have HA4:=hid (HA3.out.setRow [.int .i64 x1,.int .i64 x2])
 have HX4:=hid (show Ext w (w3.setRow x #[.int .i64 x1,.int .i64 x2]) from below_setRow HX3.out hw2 _)
 have HXY:=hid hlt2
 clear HX3 HB3 HA3 hlt2 hw2
 go_simp
 generalize w3.setRow x #[.int .i64 x1,.int .i64 x2] = w4 at *
 apply wpList_nil
 go_upto_region 2 with fail
 obtain ⟨d0,d1⟩:=(show RowAt w4 x 73 [.int .i64 x1,.int .i64 x2] from HA4.out).facts2 |> fun h=>(⟨h.1,h.2.1⟩:_ ∧ _)
 apply wp_region_lit
 iterate 3 (refine wpList_plain rfl fun Y y'=>?_;go_simp;refine y' _ _ ?_;clear y' Y)
 clear d0 d1
 refine plain_store rfl _ _ _ rfl y2 ([.int .i64 0,.int .i64 0,.int .i64 x1,.int .i64 x2,.int .i64 x1,.int .i64 x2]) rfl rfl (HB4.out) (by kernel_rfl) rfl ((by simp [Value.oneCell'])) ?_
 have HRR:=hid ((HB4.out).setRow ([.int .i64 0,.int .i64 0,.int .i64 x1,.int .i64 x2,.int .i64 x1,.int .i64 x2]))
 have HXX:=hid (show Ext w ((w4).setRow y2 ([.int .i64 0,.int .i64 0,.int .i64 x1,.int .i64 x2,.int .i64 x1,.int .i64 x2]).toArray) from below_setRow (HX4.out) (HY.out.2.2) _)
 go_simp
 apply wpList_nil
 go_wp2_with fail
 exact bodyPost_ret (results_row0 rfl rfl HRR.out Tryz.underlying75 rfl (by kernel_rfl)) rfl (⟨HX0.out ⟨x1,x2⟩ hrx,HXX.out⟩)
end

end Go.Proofs.YtkmbnghghbfkdaaGreat
