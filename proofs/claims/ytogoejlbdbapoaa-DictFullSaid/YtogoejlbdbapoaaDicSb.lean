/- Does a text stand in a row? The names of a kind that stand at a place. -/
import Derived.Test.YtogoejlbdbapoaaDicRt
import Derived.Test.YtogoejlbdbapoaaDicX
import Derived.Test.YtogoejlbdbapoaaCodX
namespace Go.Proofs.Ytogoejlbdbapoaa
set_option maxRecDepth 100000
set_option maxHeartbeats 2000000
set_option linter.unusedSimpArgs false
open Go.RowKit Go.Shelf Go.Sort
set_option linter.unusedVariables false

theorem indexS_any (T : List ByteArray) (s : ByteArray) (v : Value) (w : World) (hT : Strs w v T) :
    Calls Try.prog 83 #[v, .string s] w fun e w' => e = .returned (.int .i64 (findF T s)) ∧ w = w' := by
  obtain ⟨a, c, rfl, hc1, hc2⟩ := Sl.shape hT
  go_enter Try.func83, Try.ntmps83
  go_wp2
  go_loopg [8] T.length (fun g i wr => ∃ k : Nat, k ≤ T.length ∧ g = T.length - k ∧ i = .int .i64 k ∧ (∀ j (h : j < T.length), j < k → T[j] ≠ s) ∧ w = wr)
  case atStart => exact ⟨0, Nat.zero_le _, rfl, rfl, fun j _ h => by omega, rfl⟩
  case round =>
    obtain ⟨k, hk, hg, rfl, hall, rfl⟩ := hrel
    have Hall := Lib.hid hall
    have Hg := Lib.hid hg
    clear hall hg
    by_cases hlt : k < T.length
    · obtain ⟨tb, tO, rfl, htk⟩ := hT.atD hlt
      rw [getD_at hlt] at htk
      generalize hx : T[k] = x at htk
      have Hx := Lib.hid hx
      clear hx
      by_cases hxs : s = x
      · have hb := str_yes hxs
        have Hxs := Lib.hid hxs
        clear hxs
        go_wp2
        go_ret
        exact ⟨ret_int (findF_yes.2 ⟨hlt, by rw [Hx.out, Hxs.out], fun j hj => Hall.out j (by omega) hj⟩).symm, rfl⟩
      · have hb := str_no hxs
        have Hxs := Lib.hid hxs
        clear hxs
        go_wp2
        go_roundg (T.length - (k + 1))
        case measure => have := Hg.out; omega
        case rel =>
          refine ⟨k + 1, by omega, rfl, by go_num, fun j h hj => ?_, rfl⟩
          by_cases e : j = k
          · subst e; rw [Hx.out]; exact fun h => Hxs.out h.symm
          · exact Hall.out j h (by omega)
    · have hno : findF T s = -1 := findF_no.2 (fun h => by
        obtain ⟨i, hi, e⟩ := List.getElem_of_mem h
        exact Hall.out i hi (by omega) e)
      have Hno := Lib.hid hno
      clear hno
      go_wp2
      go_ret
      exact ⟨ret_int Hno.out.symm, rfl⟩
theorem containsS_any (T : List ByteArray) (s : ByteArray) (v : Value) (w : World) (hT : Strs w v T) :
    Calls Try.prog 72 #[v, .string s] w fun e w' => e = .returned (.bool (decide (0 ≤ findF T s))) ∧ w = w' := by
  obtain ⟨a, c, rfl, hc1, hc2⟩ := Sl.shape hT
  have hi := indexS_any T s _ w hT
  generalize findF T s = f at *
  have HI := Lib.hid hi
  clear hi
  go_enter Try.func72, Try.ntmps72
  go_wp2_with fail
  refine HI.out.mono ?_
  rintro e w2 ⟨rfl, rfl⟩
  go_wp2_with fail
  go_ret
  exact ⟨rfl, rfl⟩
/-- The names that stand behind each other. -/
def readTs (k : Int) (b : List Int) : Nat → Nat → List ByteArray → Option (List ByteArray × Nat)
  | 0, p, out => some (out, p)
  | m + 1, p, out => match rdText (b.drop p) with
    | .no _ => none
    | .ok x used => if mayB k (bts (strOfNums x)) = true ∧ findF out (strOfNums x) < 0 then readTs k b m (p + used) (out ++ [strOfNums x]) else none
def readK (k : Int) (b : List Int) (p : Nat) : Option (List ByteArray × Nat) := match rdNum (b.drop p) with
  | .no _ => none
  | .ok many used => if many ≤ 128 then readTs k b many.toNat (p + used) [] else none
def NamesPost (w : World) (r : Option (List ByteArray × Nat)) (e : Ending) (w' : World) : Prop := Ext w w' ∧
  match r with
  | some (l, p) => ∃ u, e = .returned (.tuple #[u, .int .i64 p, .bool true]) ∧ w'.ownsRow w.heap.size 9 1 u l.length (l.map Value.string)
  | none => e = .returned (.tuple #[.slice none 0 0, .int .i64 0, .bool false])
theorem rdNum_no0 {l : List Int} {c : Int} (h : rdNum l = .no c) : c ≠ 0 := rdn_no0 _ _ _ _ h
theorem rdText_no0 {l : List Int} {c : Int} (h : rdText l = .no c) : c ≠ 0 := by
  unfold rdText at h
  split at h
  · rename_i e he; cases h; exact rdNum_no0 he
  · split at h
    · split at h
      · cases h
      · cases h; decide
    · cases h; decide
theorem sb_inj {s t : ByteArray} (h : sb s = sb t) : s = t := by
  obtain ⟨⟨s⟩⟩ := s
  obtain ⟨⟨t⟩⟩ := t
  simp only [sb] at h
  have h2 : s.map UInt8.toNat = t.map UInt8.toNat := by
    have := congrArg (List.map Int.toNat) h
    simpa [List.map_map, Function.comp_def] using this
  have : s = t := List.map_inj_right (fun a b => UInt8.toNat_inj.1) |>.1 h2
  rw [this]
theorem strOf_sb {s : ByteArray} {x : List Int} (h : sb s = x) (hb : Byt x) : strOfNums x = s := sb_inj ((sb_str hb).trans h.symm)
theorem textB_small {l : List Int} (hb : Byt l) {x : List Int} {used : Nat} (h : rdText l = .ok x used) : used ≤ l.length ∧ x.length ≤ 4000 ∧ Byt x := by
  have := rdText_inv hb h
  exact this.2
set_option maxHeartbeats 2000000 in
theorem dnames_any (v : Value) (l : List Int) (p : Nat) (kind : Int) (w : World) (hl : Byt l) (hv : Ints w .u8 v l) (hp : p ≤ l.length) (hlen : l.length ≤ 10000000) :
    Calls Try.prog 55 #[v, .int .i64 p, .int .i64 kind] w (NamesPost w (readK kind l p)) := by
  have hr := readNumber_any v l p w hl hv hlen
  obtain ⟨R, hR⟩ : ∃ R, readK kind l p = R := ⟨_, rfl⟩
  rw [hR]
  have hat : ∀ {α : Type} (f : List Int → Rd α) (q : Nat), q ≤ l.length → rdAt (q : Int) l f = f (l.drop q) := fun f q hq => by unfold rdAt; rw [if_neg (by omega)]; rfl
  rw [hat _ _ hp] at hr
  obtain ⟨a, cap, rfl, hcap, hmax, _⟩ := hv.open_
  unfold readK at hR
  have Hv := Lib.hid hv
  have Hl := Lib.hid hl
  cases hnum : rdNum (l.drop p) with
  | no c =>
    rw [hnum] at hR hr
    have hc := rdNum_no0 hnum
    subst hR
    have HR := Lib.hid hr
    clear hr hnum hat hl hv
    go_enter Try.func55, Try.ntmps55
    go_wp2_with fail
    refine HR.out.mono ?_
    rintro e w2 ⟨hx2, rfl⟩
    go_wp2_with fail
    go_ret3
    exact ⟨hx2, rfl⟩
  | ok many used =>
    rw [hnum] at hR hr
    obtain ⟨hb1, hb2, hb3, hb4⟩ := rdNum_ok (hl.drop p) hnum
    have hdl : (l.drop p).length = l.length - p := List.length_drop
    obtain ⟨q, hq⟩ : ∃ q : Nat, p + used = q := ⟨_, rfl⟩
    have HQ : Hid ((p : Int) + (used : Int) = (q : Int)) := Lib.hid (by omega)
    have hql : q ≤ l.length := by omega
    dsimp only at hR
    rw [hq] at hR
    have HR := Lib.hid hr
    obtain ⟨M, rfl⟩ := Int.eq_ofNat_of_zero_le hb3
    clear hr hnum hl hv hb1 hb2 hb3 hb4 hdl
    by_cases hM : (M : Int) ≤ 128
    · rw [if_pos hM] at hR
      have hd : decide ((128 : Int) < (M : Int)) = false := decide_eq_false (by omega)
      have HRR : Hid (readTs kind l M q [] = R) := Lib.hid hR
      have HAT := Lib.hid (hat rdText)
      clear hR hat
      go_enter Try.func55, Try.ntmps55
      go_wp2_with fail
      refine HR.out.mono ?_
      rintro e w2 ⟨hx2, u2, rfl, hu2⟩
      obtain rfl : u2 = _ := hu2
      rw [HQ.out]
      go_wp2_with fail
      go_loopg [1, 11, 29] M (fun g s1 o i wr => ∃ (m x : Nat) (out : List ByteArray), m ≤ M ∧ g = m ∧ i = .int .u64 ((M : Int) - (m : Int)) ∧ s1 = .int .i64 x ∧ x ≤ l.length ∧ readTs kind l m x out = R ∧ Ext w wr ∧ wr.ownsRow w.heap.size 9 1 o out.length (out.map Value.string) ∧ out.length + m ≤ 200)
      case atStart => exact ⟨M, q, [], Nat.le_refl _, rfl, by rw [show (M : Int) - (M : Int) = 0 by omega], rfl, hql, HRR.out, hx2, World.ownsRow_nil _ _ _ _, by simp; omega⟩
      case round =>
        obtain ⟨m, x, out, hm, hg, rfl, rfl, hx, hall, hxr, hown, hol⟩ := hrel
        have Hall := Lib.hid hall
        have Hg := Lib.hid hg
        clear hall hg hql HRR
        obtain ⟨ao, co, rfl⟩ := own_sl hown
        cases m with
        | zero =>
          have HP : Hid (NamesPost w R (.returned (.tuple #[.slice ao out.length co, .int .i64 x, .bool true])) wr) := Lib.hid (by rw [← Hall.out]; exact ⟨hxr, _, rfl, hown⟩)
          have hz : decide ((M : Int) - ((0 : Nat) : Int) < (M : Int)) = false := decide_eq_false (by omega)
          clear hown
          go_wp2_with fail
          go_ret3
          exact HP.out
        | succ m =>
          have hz : decide ((M : Int) - ((m + 1 : Nat) : Int) < (M : Int)) = true := decide_eq_true (by omega)
          obtain ⟨z, hze⟩ : ∃ z : Int, (M : Int) - ((m + 1 : Nat) : Int) = z := ⟨_, rfl⟩
          rw [hze] at hz
          have hz2 : z < (M : Int) := by omega
          have hz3 : 0 ≤ z := by omega
          have HZ : Hid (z + 1 = (M : Int) - (m : Int)) := Lib.hid (by omega)
          have hrt := readText_any (.slice a l.length cap) l x wr Hl.out (Hv.out.ext hxr) hlen
          rw [HAT.out x hx] at hrt
          have hall := Hall.out
          unfold readTs at hall
          rw [hze]
          cases htx : rdText (l.drop x) with
          | no c =>
            rw [htx] at hall hrt
            have hc := rdText_no0 htx
            have HRT := Lib.hid hrt
            have HP : Hid (R = none) := Lib.hid hall.symm
            clear hrt hall htx hze hown hz
            go_wp2_with fail
            refine HRT.out.mono ?_
            rintro e w3 ⟨hx3, rfl⟩
            go_wp2_with fail
            go_ret3
            exact ⟨hxr.trans hx3, by have h := HP.out; subst h; exact rfl⟩
          | ok y used2 =>
            rw [htx] at hall hrt
            obtain ⟨hu1, hu2, hu3⟩ := textB_small (Hl.out.drop x) htx
            have hdl2 : (l.drop x).length = l.length - x := List.length_drop
            obtain ⟨x2, hx2e⟩ : ∃ x2 : Nat, x + used2 = x2 := ⟨_, rfl⟩
            have HX2 : Hid ((x : Int) + (used2 : Int) = (x2 : Int)) := Lib.hid (by omega)
            have hx2l : x2 ≤ l.length := by omega
            have HRT := Lib.hid hrt
            dsimp only at hall
            rw [hx2e] at hall
            have HALL := Lib.hid hall
            clear hrt hall htx hze hz hdl2 hx2e
            go_wp2_with fail
            refine HRT.out.mono ?_
            rintro e w3 ⟨hx3, u3, rfl, s, rfl, hs⟩
            rw [HX2.out]
            have hss := strOf_sb hs hu3
            have hsz : s.size ≤ 4000 := by
              have : (sb s).length = s.size := by simp [sb]
              rw [hs] at this; omega
            have hall := HALL.out
            rw [hss] at hall
            have hmy := fun w' => may_any kind s w' (by omega)
            have hct := containsS_any out s (.slice ao out.length co)
            generalize mayB kind (bts s) = mb at *
            generalize findF out s = f at *
            have HMY := Lib.hid hmy
            have HCT := Lib.hid hct
            have hown3 := own_ext hown hx3
            have hx03 := hxr.trans hx3
            clear hmy hct HALL hss hs HRT hu2 hu3 hown
            cases mb with
            | false =>
              have HP : Hid (R = none) := Lib.hid (by rw [← hall]; simp)
              clear hall
              go_wp2_with fail
              refine (HMY.out _).mono ?_
              rintro e w4 ⟨rfl, hx4⟩
              go_wp2_with fail
              go_ret3
              exact ⟨hx03.trans hx4, by have h := HP.out; subst h; exact rfl⟩
            | true =>
              have HALL := Lib.hid hall
              clear hall
              go_wp2_with fail
              refine (HMY.out _).mono ?_
              rintro e w4 ⟨rfl, hx4⟩
              have hown4 := own_ext hown3 hx4
              have hcc := HCT.out w4 (Sl.of_own hown4)
              have HCC := Lib.hid hcc
              clear hcc hown3
              by_cases hf : 0 ≤ f
              · have HP : Hid (R = none) := Lib.hid (by rw [← HALL.out, if_neg (by omega)])
                have hdf : decide (0 ≤ f) = true := decide_eq_true hf
                rw [hdf] at HCC
                go_wp2_with fail
                refine HCC.out.mono ?_
                rintro e w5 ⟨rfl, rfl⟩
                go_wp2_with fail
                go_ret3
                exact ⟨hx03.trans hx4, by have h := HP.out; subst h; exact rfl⟩
              · have hdf : decide (0 ≤ f) = false := decide_eq_false hf
                have HP : Hid (readTs kind l m x2 (out ++ [s]) = R) := Lib.hid (by rw [← HALL.out, if_pos ⟨trivial, by omega⟩])
                rw [hdf] at HCC
                clear hdf hf
                go_wp2_with fail
                refine HCC.out.mono ?_
                rintro e w5 ⟨rfl, rfl⟩
                have hs1 := (hx03.trans hx4).size
                go_wp2_with (at_builtin; refine wpList_append_sl _ rfl _ _ 22 rfl elS rfl (hown4.alloc _) rfl (Sl.new _ #[.string s] 9 1 1 (Nat.le_refl _) ?_) rfl ?_ ?_ ?_ ?_ ?_)
                · unfold maxLen; omega
                · rfl
                · omega
                · unfold maxLen; omega
                · simp; omega
                intro v6 w6 hown6 hb6 _ _
                have hx6 : Ext w w6 := Below.trans ((hx03.trans hx4).trans (Ext.alloc _ _)) hb6
                obtain ⟨a6, c6, rfl⟩ := own_sl hown6
                have HF : Hid (w6.ownsRow w.heap.size 9 1 (.slice a6 (out.length + 1) c6) (out ++ [s]).length ((out ++ [s]).map Value.string)) := Lib.hid (by rw [List.length_append, List.map_append]; exact hown6)
                clear hown6 hb6 hown4
                go_wp2_with fail
                go_roundg m
                case measure => have := Hg.out; omega
                case rel => exact ⟨m, x2, out ++ [s], by omega, rfl, by rw [HZ.out], rfl, hx2l, HP.out, hx6, HF.out, by simp; omega⟩
    · rw [if_neg hM] at hR
      subst hR
      have hd : decide ((128 : Int) < (M : Int)) = true := decide_eq_true (by omega)
      clear hat
      go_enter Try.func55, Try.ntmps55
      go_wp2_with fail
      refine HR.out.mono ?_
      rintro e w2 ⟨hx2, u2, rfl, hu2⟩
      obtain rfl : u2 = _ := hu2
      rw [HQ.out]
      go_wp2_with fail
      go_ret3
      exact ⟨hx2, rfl⟩
end Go.Proofs.Ytogoejlbdbapoaa
