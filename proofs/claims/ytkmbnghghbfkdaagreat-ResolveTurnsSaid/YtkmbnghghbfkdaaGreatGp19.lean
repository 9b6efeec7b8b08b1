/- The document: the first atoms of a pattern; variables, none twice. -/
import Derived.Test.YtkmbnghghbfkdaaGreatGp18
import Derived.Test.YtkmbnghghbfkdaaGreatGp17
import Derived.Test.YtkmbnghghbfkdaaGreatGp11
import Derived.Test.YtkmbnghghbfkdaaGreatGp09
import Derived.Test.YtkmbnghghbfkdaaGreatGp15
import Derived.Test.YtkmbnghghbfkdaaGreatGp02
namespace Go.Proofs.YtkmbnghghbfkdaaGreat
set_option maxRecDepth 100000
set_option maxHeartbeats 2000000
set_option linter.unusedSimpArgs false
open Go.RowKit Go.Shelf Go.Sort
attribute [local go_sem] Oper.semAt_some wide_fn wide_depth
set_option linter.unusedVariables false

end Go.Proofs.YtkmbnghghbfkdaaGreat

/- The document: may a pattern be? -/
namespace Go.Proofs.YtkmbnghghbfkdaaGreat
set_option maxRecDepth 100000
set_option maxHeartbeats 2000000
set_option linter.unusedSimpArgs false
open Go.RowKit Go.Shelf Go.Sort
attribute [local go_sem] Oper.semAt_some wide_fn wide_depth
set_option linter.unusedVariables false

end Go.Proofs.YtkmbnghghbfkdaaGreat

/- The document: the same texts, the same patterns. -/
namespace Go.Proofs.YtkmbnghghbfkdaaGreat
set_option maxRecDepth 100000
set_option maxHeartbeats 2000000
set_option linter.unusedSimpArgs false
open Go.RowKit Go.Shelf Go.Sort
attribute [local go_sem] Oper.semAt_some wide_fn wide_depth
set_option linter.unusedVariables false

end Go.Proofs.YtkmbnghghbfkdaaGreat

/- What a dictionary tells, right or not. -/
namespace Go.Proofs.YtkmbnghghbfkdaaGreat
set_option maxRecDepth 100000
set_option maxHeartbeats 2000000
set_option linter.unusedSimpArgs false
open Go.RowKit Go.Shelf Go.Sort
attribute [local go_sem] Oper.semAt_some wide_fn wide_depth
set_option linter.unusedVariables false

end Go.Proofs.YtkmbnghghbfkdaaGreat

/- What a put comes to: plain. -/
namespace Go.Proofs.YtkmbnghghbfkdaaGreat
set_option maxRecDepth 100000
set_option maxHeartbeats 2000000
set_option linter.unusedSimpArgs false
open Go.RowKit
set_option linter.unusedVariables false

theorem putF_findD {T : List ByteArray} {S : List Int} {s : ByteArray} {T' : List ByteArray} {S' : List Int} {n : Int} (h : TabOK T S) (hp : putF T S s = some (T', S', n)) :
    ∃ k : Nat, n = k ∧ (∃ hk : k < T'.length, T'[k] = s) ∧ findF T' s = k ∧ (T' = T ∨ findF T s < 0 ∧ T' = T ++ [s]) := by
  have hok := (putF_ok h hp).1
  unfold putF at hp
  split at hp
  · rename_i hf
    cases hp
    obtain ⟨k, hk⟩ := Int.eq_ofNat_of_zero_le hf
    obtain ⟨h1, h2, h3⟩ := findF_yes.1 hk
    exact ⟨k, hk, ⟨h1, h2⟩, hk, .inl rfl⟩
  · rename_i hf
    split at hp
    · cases hp
    · cases hp
      have hl : T.length < (T ++ [s]).length := by simp
      have hg : (T ++ [s])[T.length] = s := by simp
      refine ⟨T.length, rfl, ⟨hl, hg⟩, ?_, .inr ⟨by omega, rfl⟩⟩
      have := findF_distinct hok.distinct hl
      rwa [hg] at this
structure Put1 (D D' : Dic) (kind n : Int) (s : ByteArray) (k m : Nat) : Prop where
  hkind : kind = k
  lt : k < 5
  id : n = m
  ok : DicOK D'
  sz : ∀ i, i < 5 → (D' i).2.length ≤ 4096
  may : mayB kind (bts s) = true
  rest : ∀ i, i ≠ k → D' i = D i
  ext : ∃ l, (D' k).1 = (D k).1 ++ l
  at_ : ∃ h : m < (D' k).1.length, (D' k).1[m] = s
  find : findF (D' k).1 s = m
  again : putD D' kind s = .ok (upd D' k (D' k), n)
theorem putD_is {D D' : Dic} {kind n : Int} {s : ByteArray} (hD : DicOK D) (hS : ∀ i, i < 5 → (D i).2.length ≤ 4096) (h : putD D kind s = .ok (D', n)) : ∃ k m, Put1 D D' kind n s k m := by
  unfold putD at h
  split at h
  · rename_i hm
    obtain ⟨hk0, hk5⟩ := mayB_kind hm
    obtain ⟨k, rfl⟩ := Int.eq_ofNat_of_zero_le hk0
    have hk : k < 5 := by omega
    rw [show ((k : Int)).toNat = k from rfl] at h
    split at h
    · cases h
    · rename_i T' S' n' hp
      cases h
      unfold dputF at hp
      split at hp
      · cases hp
      · rename_i hfull
        obtain ⟨hok, hmem, hsz, _, _⟩ := putF_ok (hD k hk).1 hp
        obtain ⟨m, hn, ⟨hlt, hat⟩, hfind, hcase⟩ := putF_findD (hD k hk).1 hp
        have hat' : ∃ hx : m < (upd D k (T', S') k).1.length, (upd D k (T', S') k).1[m] = s := by rw [upd_at]; exact ⟨hlt, hat⟩
        have hSk := hS k hk
        have h128 := (hD k hk).2.1
        have hlen : T'.length ≤ 128 := by
          rcases hcase with rfl | ⟨h1, rfl⟩
          · exact h128
          · simp
            omega
        have hmay : ∀ x ∈ T', mayB k (bts x) = true := fun x hx => by
          rcases hmem x hx with h1 | h1
          · exact badB_all (hD k hk).2.2 x h1
          · rw [h1]; exact hm
        refine ⟨k, m, rfl, hk, hn, hD.upd ⟨hok, hlen, mayB_bad hmay⟩, fun i hi => ?_, hm, fun i hi => upd_ne _ _ hi, ?_, hat', ?_, ?_⟩
        · by_cases e : i = k
          · subst e; rw [upd_at]; show S'.length ≤ 4096; omega
          · rw [upd_ne _ _ e]; exact hS i hi
        · rw [upd_at]
          rcases hcase with rfl | ⟨_, rfl⟩
          · exact ⟨[], by simp⟩
          · exact ⟨[s], rfl⟩
        · rw [upd_at]; exact hfind
        · unfold putD
          rw [if_pos hm, show ((k : Int)).toNat = k from rfl, upd_at]
          have hd : dputF T' S' s = some (T', S', n) := by
            unfold dputF
            rw [if_neg (by omega), putF_old hok hlt hat, hn]
          show (match dputF T' S' s with | none => _ | some (T, S, n) => _) = _
          rw [hd]
  · cases h
theorem putD_err {D : Dic} {kind c : Int} {s : ByteArray} (h : putD D kind s = .error c) : c = 2 ∨ c = 6 := by
  unfold putD at h
  split at h
  · split at h
    · cases h; exact .inr rfl
    · cases h
  · cases h; exact .inl rfl
end Go.Proofs.YtkmbnghghbfkdaaGreat

/- What a pattern comes to, its names being numbers: plain, no program in sight. -/
namespace Go.Proofs.YtkmbnghghbfkdaaGreat
set_option maxRecDepth 100000
set_option maxHeartbeats 2000000
set_option linter.unusedSimpArgs false
set_option linter.unusedVariables false

structure Arg where
  var : Int
  id : Int
deriving DecidableEq
structure Bnd where
  kind : Int
  name : Int
  a : Arg
  b : Arg
deriving DecidableEq
structure Gol where
  vars : List ByteArray
  atoms : List Bnd
  ret : List Int
  count : Bool
  distinct : Bool
  limited : Bool
  limit : Int
  offset : Int
  hint : List Int
deriving DecidableEq
def zGol : Gol := ⟨[], [], [], false, false, false, 0, 0, []⟩
/-- A term's argument. -/
def argF (D : Dic) (V : List ByteArray) (k : Bool) (s : ByteArray) : Option Arg := if k = true then (if 0 ≤ idF D 0 s then some ⟨-1, idF D 0 s⟩ else none) else some ⟨findF V s, 0⟩
/-- What an atom comes to. -/
def bndF (D : Dic) (V : List ByteArray) (a : Atm) : Option Bnd :=
  if a.kind = 1 then (argF D V a.fk a.fn).map fun x => ⟨0, 0, x, x⟩
  else if a.kind = 2 then (argF D V a.fk a.fn).bind fun x => if 0 ≤ idF D 1 a.name then some ⟨1, idF D 1 a.name, x, x⟩ else none
  else if a.kind = 3 then (argF D V a.fk a.fn).bind fun x => if 0 ≤ idF D 3 a.name ∧ 0 ≤ idF D 4 a.value then some ⟨2, idF D 3 a.name, ⟨-1, idF D 4 a.value⟩, x⟩ else none
  else if a.kind = 4 then (argF D V a.fk a.fn).bind fun x => (argF D V a.tk a.tn).bind fun y => if 0 ≤ idF D 2 a.name then some ⟨3, idF D 2 a.name, x, y⟩ else none
  else none
/-- The first ones that come to something, and whether all do. -/
def preF {α β : Type} (f : α → Option β) : List α → List β × Bool
  | [] => ([], true)
  | a :: l => match f a with
    | none => ([], false)
    | some b => (b :: (preF f l).1, (preF f l).2)
/-- So many have come to something. -/
def PreI {α β : Type} (f : α → Option β) (l : List α) (k : Nat) (bs : List β) : Prop := preF f l = (bs ++ (preF f (l.drop k)).1, (preF f (l.drop k)).2) ∧ bs.length = k
theorem PreI.start {α β : Type} (f : α → Option β) (l : List α) : PreI f l 0 [] := ⟨by simp, rfl⟩
theorem PreI.some {α β : Type} {f : α → Option β} {l : List α} {k : Nat} {bs : List β} (h : PreI f l k bs) (hk : k < l.length) {b : β} (hb : f l[k] = .some b) : PreI f l (k + 1) (bs ++ [b]) := by
  obtain ⟨h1, h2⟩ := h
  refine ⟨?_, by simp [h2]⟩
  rw [List.drop_eq_getElem_cons hk] at h1
  simp only [preF, hb] at h1
  rw [h1]
  simp
theorem PreI.none {α β : Type} {f : α → Option β} {l : List α} {k : Nat} {bs : List β} (h : PreI f l k bs) (hk : k < l.length) (hb : f l[k] = .none) : preF f l = (bs, false) := by
  obtain ⟨h1, h2⟩ := h
  rw [List.drop_eq_getElem_cons hk] at h1
  simp only [preF, hb] at h1
  rw [h1]
  simp
theorem PreI.done {α β : Type} {f : α → Option β} {l : List α} {bs : List β} (h : PreI f l l.length bs) : preF f l = (bs, true) := by
  obtain ⟨h1, h2⟩ := h
  rw [List.drop_length] at h1
  simp only [preF] at h1
  rw [h1]
  simp
def bndsF (D : Dic) (V : List ByteArray) (l : List Atm) : List Bnd × Bool := preF (bndF D V) l
def golOf (P : Pat) (l : List Bnd) : Gol := ⟨varsS P.atoms, l, (if P.ret = [] then varsS P.atoms else P.ret).map (findF (varsS P.atoms)), P.count, P.distinct, P.limited, P.limit, P.offset, P.hint.map (findF (varsS P.atoms))⟩
/-- The goal of a pattern that may be. -/
def goalF (D : Dic) (P : Pat) : Option Gol := if (bndsF D (varsS P.atoms) P.atoms).2 = true then some (golOf P (bndsF D (varsS P.atoms) P.atoms).1) else none
/-- The name of an id. -/
def nameO (D : Dic) (k : Nat) (q : Int) : Option ByteArray := if 0 ≤ q ∧ q < (D k).1.length then some ((D k).1.getD q.toNat nilB) else none
def termF (D : Dic) (V : List ByteArray) (a : Arg) : Option (Bool × ByteArray) :=
  if a.var = -1 then (nameO D 0 a.id).map fun s => (true, s) else if 0 ≤ a.var ∧ a.var < V.length ∧ a.id = 0 then some (false, V.getD a.var.toNat nilB) else none
/-- The atom that comes to something. -/
def atmF (D : Dic) (V : List ByteArray) (b : Bnd) : Option Atm :=
  if b.kind = 0 then (termF D V b.a).map fun t => ⟨1, t.1, t.2, nilB, nilB, false, nilB⟩
  else if b.kind = 1 then (termF D V b.a).bind fun t => (nameO D 1 b.name).map fun s => ⟨2, t.1, t.2, s, nilB, false, nilB⟩
  else if b.kind = 2 then (termF D V b.b).bind fun t => (nameO D 3 b.name).bind fun s => (nameO D 4 b.a.id).map fun v => ⟨3, t.1, t.2, s, v, false, nilB⟩
  else if b.kind = 3 then (termF D V b.a).bind fun t => (nameO D 2 b.name).bind fun s => (termF D V b.b).map fun u => ⟨4, t.1, t.2, s, nilB, u.1, u.2⟩
  else none
def atmsF (D : Dic) (V : List ByteArray) (l : List Bnd) : List Atm × Bool := preF (atmF D V) l
def textO (V : List ByteArray) (q : Int) : Option ByteArray := if 0 ≤ q ∧ q < V.length then some (V.getD q.toNat nilB) else none
def textsO (V : List ByteArray) (l : List Int) : Option (List ByteArray) := if (preF (textO V) l).2 = true then some (preF (textO V) l).1 else none
/-- What is tried. -/
def patOf (g : Gol) (A : List Atm) (R H : List ByteArray) : Pat := ⟨A, if R = g.vars then [] else R, g.count, g.distinct, g.limited, g.limit, g.offset, H⟩
/-- The pattern of which it is the goal. -/
def backF (D : Dic) (g : Gol) : Option Pat :=
  if (atmsF D g.vars g.atoms).2 = true then
    match textsO g.vars g.ret, textsO g.vars g.hint with
    | some R, some H => if (patOf g (atmsF D g.vars g.atoms).1 R H).okB = true ∧ goalF D (patOf g (atmsF D g.vars g.atoms).1 R H) = some g then some (patOf g (atmsF D g.vars g.atoms).1 R H) else none
    | _, _ => none
  else none
end Go.Proofs.YtkmbnghghbfkdaaGreat

/- The names of a dictionary, and variables, in memory: one name's id, one id's name. -/
namespace Go.Proofs.YtkmbnghghbfkdaaGreat
set_option maxRecDepth 100000
set_option maxHeartbeats 2000000
set_option linter.unusedSimpArgs false
open Go.RowKit Go.Shelf Go.Sort
attribute [local go_sem] Oper.semAt_some wide_fn wide_depth
set_option linter.unusedVariables false

def nmL (vs : Nat → Value × Value) (m : Nat) (av : Value) : List Value := dcells vs ++ [.map (some m), av]
def nmV (vs : Nat → Value × Value) (m : Nat) (av : Value) : Value := .agg (nmL vs m av).toArray
/-- What no dictionary knows. -/
def unknE : Ending := .panicked [{ v := .iface 142 (.agg #[]), recovered := false }]
theorem need_yes (w : World) : Calls Tryz.prog 91 #[.bool true] w fun e w' => e = .returned (.tuple #[]) ∧ w = w' := by
  go_enter Tryz.func91, Tryz.ntmps91
  go_wp2
  go_end0
  exact ⟨rfl, rfl⟩
theorem need_no (w : World) : Calls Tryz.prog 91 #[.bool false] w fun e w' => e = unknE ∧ w = w' := by
  go_enter Tryz.func91, Tryz.ntmps91
  go_wp2
  exact ⟨rfl, rfl, rfl⟩
theorem nm_dict {w : World} {g : Nat} {t : TypeId} {vs : Nat → Value × Value} {m : Nat} {av : Value} (h : RowAt w g t (nmL vs m av)) : w.rangeAt g 0 (dcells vs) := RowAt.range (pre := []) h
theorem nm_map {w : World} {g : Nat} {t : TypeId} {vs : Nat → Value × Value} {m : Nat} {av : Value} (h : RowAt w g t (nmL vs m av)) : w.cell? ⟨g, 10, none⟩ = some (.map (some m)) ∧ w.cell? ⟨g, 11, none⟩ = some av := ⟨h.cell (i := 10) rfl, h.cell (i := 11) rfl⟩
/-- It comes to something, or it is not known. -/
def outE {α : Type} (r : Option α) (f : α → Value) : Ending := match r with
  | some x => .returned (f x)
  | none => unknE
def idO (D : Dic) (kind : Int) (s : ByteArray) : Option Int := if 0 ≤ idF D kind s then some (idF D kind s) else none
def intV (q : Int) : Value := .int .i64 q
set_option maxRecDepth 100000 in
theorem nid_any (vs : Nat → Value × Value) (m : Nat) (av : Value) (D : Dic) (w : World) (hV : DicV w vs D) (hS : DicS D) (h : DicOK D) (kind : Int) (s : ByteArray) (hs : s.size ≤ 9223372036854775807) :
    Calls Tryz.prog 120 #[nmV vs m av, .int .i64 kind, .string s] w fun e w' => e = outE (idO D kind s) intV ∧ Ext w w' := by
  have hx0 := Ext.alloc w (.cells (nmL vs m av).toArray 98)
  have hb0 := RowAt.new w 98 (nmL vs m av)
  have HI := Lib.hid (fun w' (hx : Ext w w') => id_yes vs D w' (hV.ext hx) hS h kind s hs)
  have HX := Lib.hid hx0
  have HB := Lib.hid hb0
  clear hx0 hb0
  obtain ⟨X, hX⟩ : ∃ X, outE (idO D kind s) intV = X := ⟨_, rfl⟩
  rw [hX]
  unfold idO at hX
  unfold nmV idRes at *
  obtain ⟨q, hq⟩ : ∃ q, idF D kind s = q := ⟨_, rfl⟩
  rw [hq] at HI hX
  clear hq
  obtain ⟨ok, hok⟩ : ∃ b, decide (0 ≤ q) = b := ⟨_, rfl⟩
  obtain ⟨r, hr⟩ : ∃ r, max q 0 = r := ⟨_, rfl⟩
  have HE : Hid ((ok = true → .returned (.int .i64 r) = X) ∧ (ok = false → unknE = X)) := Lib.hid ⟨fun h => by
    rw [← hok, decide_eq_true_eq] at h
    rw [← hX, if_pos h, ← hr, show max q 0 = q by omega]; rfl, fun h => by
    rw [← hok, decide_eq_false_iff_not] at h
    rw [← hX, if_neg h]; rfl⟩
  rw [hok, hr] at HI
  clear hok hr hX
  go_enter Tryz.func120, Tryz.ntmps120
  go_upto_region 1 with fail
  generalize w.alloc (.cells (nmL vs m av).toArray 98) = w1 at *
  generalize w.heap.size = y at *
  apply wp_region_lit
  refine wpList_plain rfl fun K1 hK1 => ?_
  go_simp
  refine hK1 _ _ ?_
  clear hK1 K1
  refine wpList_load_mid rfl _ _ rfl y 0 rfl _ _ (nm_dict HB.out) Tryz.underlying28 rfl (by kernel_rfl) ?_
  go_simp
  refine wpList_plain rfl fun K1 hK1 => ?_
  go_simp
  refine hK1 _ _ ?_
  clear hK1 K1
  refine wpList_plain rfl fun K1 hK1 => ?_
  go_simp
  refine hK1 _ _ ?_
  clear hK1 K1
  -- a call in a plain region: refine (HI.out w1 HX.out).mono ?_; rintro e w2 ⟨rfl, hx2⟩ the contract taken, and its results named
  refine wpList_plain rfl fun K1 hK1 => ?_
  go_simp
  refine (HI.out w1 HX.out).mono ?_; rintro e w2 ⟨rfl, hx2⟩
  go_simp
  refine hK1 _ _ ?_
  clear hK1 K1
  refine wpList_plain rfl fun K1 hK1 => ?_
  go_simp
  refine hK1 _ _ ?_
  clear hK1 K1
  refine wpList_plain rfl fun K1 hK1 => ?_
  go_simp
  refine hK1 _ _ ?_
  clear hK1 K1
  refine wpList_plain rfl fun K1 hK1 => ?_
  go_simp
  refine hK1 _ _ ?_
  clear hK1 K1
  refine wpList_plain rfl fun K1 hK1 => ?_
  go_simp
  refine hK1 _ _ ?_
  clear hK1 K1
  refine wpList_plain rfl fun K1 hK1 => ?_
  go_simp
  refine hK1 _ _ ?_
  clear hK1 K1
  apply wpList_nil
  have HX2 := Lib.hid (HX.out.trans hx2)
  clear hx2 HX HI HB
  cases ok
  case true =>
    replace HE := Lib.hid (HE.out.1 rfl)
    go_wp2_with fail
    refine (need_yes _).mono ?_
    rintro e w3 ⟨rfl, rfl⟩
    go_wp2_with fail
    go_ret
    exact ⟨HE.out, HX2.out⟩
  case false =>
    replace HE := Lib.hid (HE.out.2 rfl)
    go_wp2_with fail
    refine (need_no _).mono ?_
    rintro e w3 ⟨rfl, rfl⟩
    unfold unknE
    dsimp only
    go_wp2_with fail
    exact ⟨rfl, HE.out, HX2.out⟩
end Go.Proofs.YtkmbnghghbfkdaaGreat

/- The names of a dictionary, and variables: the name of an id; how they are made. -/
namespace Go.Proofs.YtkmbnghghbfkdaaGreat
set_option maxRecDepth 100000
set_option maxHeartbeats 2000000
set_option linter.unusedSimpArgs false
open Go.RowKit Go.Shelf Go.Sort
attribute [local go_sem] Oper.semAt_some wide_fn wide_depth
set_option linter.unusedVariables false

def strV (s : ByteArray) : Value := .string s
theorem nameF_yes {D : Dic} {k : Nat} {q : Int} (hk : k < 5) {s : ByteArray} (h : nameO D k q = some s) : nameF D k q = .tuple #[.string s, .int .i64 0] := by
  unfold nameO at h
  split at h
  · rename_i hq
    cases h
    unfold nameF textF
    rw [if_pos ⟨by omega, by omega⟩, if_pos (by simpa using hq)]
    simp [nilB]
  · cases h
theorem nameF_no {D : Dic} {k : Nat} {q : Int} (hk : k < 5) (h : nameO D k q = none) : nameF D k q = .tuple #[.string ⟨#[]⟩, .int .i64 4] := by
  unfold nameO at h
  split at h
  · cases h
  · rename_i hq
    unfold nameF textF
    rw [if_pos ⟨by omega, by omega⟩, if_neg (by simpa using hq)]
set_option maxRecDepth 100000 in
theorem nname_any (vs : Nat → Value × Value) (m : Nat) (av : Value) (D : Dic) (w : World) (hV : DicV w vs D) (hS : DicS D) (h : DicOK D) (k : Nat) (hk : k < 5) (q : Int) :
    Calls Tryz.prog 122 #[nmV vs m av, .int .i64 k, .int .i64 q] w fun e w' => e = outE (nameO D k q) strV ∧ Ext w w' := by
  have hx0 := Ext.alloc w (.cells (nmL vs m av).toArray 98)
  have hb0 := RowAt.new w 98 (nmL vs m av)
  have HI := Lib.hid (fun w' (hx : Ext w w') => name_yes vs D w' (hV.ext hx) hS h k q)
  have HX := Lib.hid hx0
  have HB := Lib.hid hb0
  clear hx0 hb0
  unfold nmV
  obtain ⟨r, hr⟩ : ∃ r, nameO D k q = r := ⟨_, rfl⟩
  rw [hr]
  cases r with
  | some s =>
    rw [nameF_yes hk hr] at HI
    clear hr
    go_enter Tryz.func122, Tryz.ntmps122
    go_upto_region 1 with fail
    generalize w.alloc (.cells (nmL vs m av).toArray 98) = w1 at *
    generalize w.heap.size = y at *
    apply wp_region_lit
    refine wpList_plain rfl fun K1 hK1 => ?_
    go_simp
    refine hK1 _ _ ?_
    clear hK1 K1
    -- a load of cells out of a known row: y block, 0 offset, nm_dict HB.out the fact rangeAt, api.Dict the type's name
    refine wpList_load_mid rfl _ _ rfl y 0 rfl _ _ (nm_dict HB.out) Tryz.underlying28 rfl (by kernel_rfl) ?_
    go_simp
    refine wpList_plain rfl fun K1 hK1 => ?_
    go_simp
    refine hK1 _ _ ?_
    clear hK1 K1
    refine wpList_plain rfl fun K1 hK1 => ?_
    go_simp
    refine hK1 _ _ ?_
    clear hK1 K1
    -- a call in a plain region: refine (HI.out w1 HX.out).mono ?_; rintro e w2 ⟨rfl, hx2⟩ the contract taken, and its results named
    refine wpList_plain rfl fun K1 hK1 => ?_
    go_simp
    refine (HI.out w1 HX.out).mono ?_; rintro e w2 ⟨rfl, hx2⟩
    go_simp
    refine hK1 _ _ ?_
    clear hK1 K1
    refine wpList_plain rfl fun K1 hK1 => ?_
    go_simp
    refine hK1 _ _ ?_
    clear hK1 K1
    refine wpList_plain rfl fun K1 hK1 => ?_
    go_simp
    refine hK1 _ _ ?_
    clear hK1 K1
    refine wpList_plain rfl fun K1 hK1 => ?_
    go_simp
    refine hK1 _ _ ?_
    clear hK1 K1
    refine wpList_plain rfl fun K1 hK1 => ?_
    go_simp
    refine hK1 _ _ ?_
    clear hK1 K1
    refine wpList_plain rfl fun K1 hK1 => ?_
    go_simp
    refine hK1 _ _ ?_
    clear hK1 K1
    apply wpList_nil
    have HX2 := Lib.hid (HX.out.trans hx2)
    clear hx2 HX HI HB
    go_wp2_with fail
    refine (need_yes _).mono ?_
    rintro e w3 ⟨rfl, rfl⟩
    go_wp2_with fail
    go_ret
    exact ⟨rfl, HX2.out⟩
  | none =>
    rw [nameF_no hk hr] at HI
    clear hr
    go_enter Tryz.func122, Tryz.ntmps122
    go_upto_region 1 with fail
    generalize w.alloc (.cells (nmL vs m av).toArray 98) = w1 at *
    generalize w.heap.size = y at *
    apply wp_region_lit
    refine wpList_plain rfl fun K1 hK1 => ?_
    go_simp
    refine hK1 _ _ ?_
    clear hK1 K1
    -- a load of cells out of a known row: y block, 0 offset, nm_dict HB.out the fact rangeAt, api.Dict the type's name
    refine wpList_load_mid rfl _ _ rfl y 0 rfl _ _ (nm_dict HB.out) Tryz.underlying28 rfl (by kernel_rfl) ?_
    go_simp
    refine wpList_plain rfl fun K1 hK1 => ?_
    go_simp
    refine hK1 _ _ ?_
    clear hK1 K1
    refine wpList_plain rfl fun K1 hK1 => ?_
    go_simp
    refine hK1 _ _ ?_
    clear hK1 K1
    -- a call in a plain region: refine (HI.out w1 HX.out).mono ?_; rintro e w2 ⟨rfl, hx2⟩ the contract taken, and its results named
    refine wpList_plain rfl fun K1 hK1 => ?_
    go_simp
    refine (HI.out w1 HX.out).mono ?_; rintro e w2 ⟨rfl, hx2⟩
    go_simp
    refine hK1 _ _ ?_
    clear hK1 K1
    refine wpList_plain rfl fun K1 hK1 => ?_
    go_simp
    refine hK1 _ _ ?_
    clear hK1 K1
    refine wpList_plain rfl fun K1 hK1 => ?_
    go_simp
    refine hK1 _ _ ?_
    clear hK1 K1
    refine wpList_plain rfl fun K1 hK1 => ?_
    go_simp
    refine hK1 _ _ ?_
    clear hK1 K1
    refine wpList_plain rfl fun K1 hK1 => ?_
    go_simp
    refine hK1 _ _ ?_
    clear hK1 K1
    refine wpList_plain rfl fun K1 hK1 => ?_
    go_simp
    refine hK1 _ _ ?_
    clear hK1 K1
    apply wpList_nil
    have HX2 := Lib.hid (HX.out.trans hx2)
    clear hx2 HX HI HB
    go_wp2_with fail
    refine (need_no _).mono ?_
    rintro e w3 ⟨rfl, rfl⟩
    unfold unknE
    dsimp only
    go_wp2_with fail
    exact ⟨rfl, rfl, HX2.out⟩
theorem wpList_built {P : Program} {Q : Exit → Act → World → Prop} {ops : Array Oper} {rest : List Oper} {o : Oper} {a : Act} {w : World} (hg : o.guard = none) (t : TypeId) (parts : Array (Nat × Operand)) (ho : o.op = .build t parts) (cs : Array Value)
    (hf : P.built t (parts.map fun (i, x) => (i, a.eval x)).toList = some cs)
    (h : wpList P ops Q rest (a.put o.dst (.agg cs)) w) : wpList P ops Q (o :: rest) a w :=
  wpList_build hg t parts ho (by rw [hf]; rfl) (by rw [hf]; exact h)
/-- The numbers of variables. -/
def KvIs (V : List ByteArray) (kv : List (Value × Value)) : Prop := (∀ p ∈ kv, ∃ s, p.1 = .string s ∧ s ∈ V) ∧ ∀ s ∈ V, ∃ j i : Nat, kv[j]? = some (.string s, .int .i64 i) ∧ V[i]? = some s
theorem KvIs.nil : KvIs [] [] := ⟨fun p h => by simp at h, fun s h => by simp at h⟩
theorem KvIs.new {V : List ByteArray} {kv : List (Value × Value)} (h : KvIs V kv) {s : ByteArray} (hn : s ∉ V) : KvIs (V ++ [s]) (kv ++ [(.string s, .int .i64 V.length)]) := by
  refine ⟨fun p hp => ?_, fun t ht => ?_⟩
  · rcases List.mem_append.1 hp with hp | hp
    · obtain ⟨t, e, ht⟩ := h.1 p hp
      exact ⟨t, e, List.mem_append_left _ ht⟩
    · simp at hp
      subst hp
      exact ⟨s, rfl, by simp⟩
  · rcases List.mem_append.1 ht with ht | ht
    · obtain ⟨j, i, h1, h2⟩ := h.2 t ht
      refine ⟨j, i, ?_, ?_⟩
      · rw [List.getElem?_append_left (List.getElem?_eq_some_iff.1 h1).1]; exact h1
      · rw [List.getElem?_append_left (List.getElem?_eq_some_iff.1 h2).1]; exact h2
    · simp at ht
      subst ht
      exact ⟨kv.length, V.length, by simp, by simp⟩
theorem KvIs.old {V : List ByteArray} {kv : List (Value × Value)} (h : KvIs V kv) {s : ByteArray} {j : Nat} {u : Value} (hj : kv[j]? = some (.string s, u)) : KvIs (V ++ [s]) (kv.set j (.string s, .int .i64 V.length)) := by
  have hjl := (List.getElem?_eq_some_iff.1 hj).1
  refine ⟨fun p hp => ?_, fun t ht => ?_⟩
  · rcases List.mem_or_eq_of_mem_set hp with hp | rfl
    · obtain ⟨t, e, ht⟩ := h.1 p hp
      exact ⟨t, e, List.mem_append_left _ ht⟩
    · exact ⟨s, rfl, by simp⟩
  · by_cases hts : t = s
    · subst hts
      exact ⟨j, V.length, by simp [hjl], by simp⟩
    · rcases List.mem_append.1 ht with ht | ht
      · obtain ⟨j', i, h1, h2⟩ := h.2 t ht
        have hne : j ≠ j' := by
          rintro rfl
          rw [hj] at h1
          simp at h1
          exact hts h1.1.symm
        refine ⟨j', i, ?_, ?_⟩
        · rw [List.getElem?_set_ne hne]; exact h1
        · rw [List.getElem?_append_left (List.getElem?_eq_some_iff.1 h2).1]; exact h2
      · simp at ht
        exact absurd ht hts
end Go.Proofs.YtkmbnghghbfkdaaGreat

/- The names of a dictionary, and variables: made. -/
namespace Go.Proofs.YtkmbnghghbfkdaaGreat
set_option maxRecDepth 100000
set_option maxHeartbeats 2000000
set_option linter.unusedSimpArgs false
open Go.RowKit Go.Shelf Go.Sort
attribute [local go_sem] Oper.semAt_some wide_fn wide_depth
set_option linter.unusedVariables false

/-- The variables' numbers, in memory. -/
def VarsAt (w : World) (m : Nat) (V : List ByteArray) : Prop := ∃ kv, MapAt .string w m kv ∧ KvIs V kv
theorem VarsAt.ext {w w' : World} {m : Nat} {V : List ByteArray} (h : VarsAt w m V) (hx : Ext w w') : VarsAt w' m V := by
  obtain ⟨kv, h1, h2⟩ := h
  exact ⟨kv, h1.ext hx, h2⟩
theorem VarsAt.kept {w w' : World} {m : Nat} {V : List ByteArray} {row : Option Nat} (h : VarsAt w m V) (hg : w.grownBy w' row) (hne : row ≠ some m) : VarsAt w' m V := by
  obtain ⟨kv, h1, h2⟩ := h
  exact ⟨kv, h1.kept hg hne, h2⟩
theorem VarsAt.lt {w : World} {m : Nat} {V : List ByteArray} (h : VarsAt w m V) : m < w.heap.size := by
  obtain ⟨kv, h1, h2⟩ := h
  exact h1.lt
theorem nm_one (A : Heads) (m : Nat) (a : Option Addr) (n c : Nat) : ∀ v ∈ nmL (hv A) m (.slice a n c), v.oneCell' = true := by
  simp [nmL, dcells, hv, Value.oneCell']
theorem vars_put {w : World} {m : Nat} {V : List ByteArray} (h : VarsAt w m V) (s : ByteArray) (q : Int) (hq : q = V.length) :
    ∃ w', (Instr.mapUpdate 96 (.map (some m)) (.string s) (.int .i64 q)).run Tryz.prog w = .ok () w' ∧ VarsAt w' m (V ++ [s]) ∧ w.grownBy w' (some m) := by
  subst hq
  obtain ⟨kv, h1, h2⟩ := h
  by_cases hs : s ∈ V
  · obtain ⟨j, i, h3, _⟩ := h2.2 s hs
    obtain ⟨w', r1, r2, r3, _⟩ := run_put_old (P := Tryz.prog) Tryz.underlying96 Tryz.underlying9 h1 (isKey_str s) h3 (.int .i64 V.length)
    exact ⟨w', r1, ⟨_, r2, h2.old h3⟩, r3⟩
  · obtain ⟨w', r1, r2, r3, _⟩ := run_put_new (P := Tryz.prog) Tryz.underlying96 Tryz.underlying9 h1 (isKey_str s) (fun p hp e => by
      obtain ⟨t, e', ht⟩ := h2.1 p hp
      rw [e] at e'
      cases e'
      exact hs ht) (.int .i64 V.length)
    exact ⟨w', r1, ⟨_, r2, h2.new hs⟩, r3⟩
theorem vars_get {w : World} {m : Nat} {V : List ByteArray} (h : VarsAt w m V) {s : ByteArray} (hs : s ∈ V) : ∃ i : Nat, V[i]? = some s ∧ ∀ w', Ext w w' → (Instr.lookup 96 (.map (some m)) (.string s) false).run Tryz.prog w' = .ok (.int .i64 i) w' := by
  obtain ⟨kv, h1, h2⟩ := h
  obtain ⟨j, i, h3, h4⟩ := h2.2 s hs
  exact ⟨i, h4, fun w' hx => run_get_yes (P := Tryz.prog) Tryz.underlying96 Tryz.underlying9 (h1.ext hx) (isKey_str s) h3 false⟩
set_option maxRecDepth 100000 in
set_option maxHeartbeats 2000000 in
theorem of_any' (A : Heads) (w : World) (a : Option Addr) (c : Nat) (V : List ByteArray) (hV : Strs w (.slice a V.length c) V) (hl : V.length ≤ 1000000) :
    Calls Tryz.prog 43 #[dv (hv A), .slice a V.length c] w fun e w' => ∃ m, e = .returned (nmV (hv A) m (.slice a V.length c)) ∧ VarsAt w' m V ∧ Ext w w' := by
  have hmm := @run_makeMap Tryz.prog
  have hx0 := (Ext.alloc w (.cells (dcells (hv A)).toArray 28)).trans (Ext.alloc (w.alloc (.cells (dcells (hv A)).toArray 28)) (.cells #[.slice none 0 0, .slice none 0 0, .slice none 0 0, .slice none 0 0, .slice none 0 0, .slice none 0 0, .slice none 0 0, .slice none 0 0, .slice none 0 0, .slice none 0 0, .map none, .slice none 0 0] 98))
  have hb0 := (RowAt.new w 28 (dcells (hv A))).ext (Ext.alloc (w.alloc (.cells (dcells (hv A)).toArray 28)) (.cells #[.slice none 0 0, .slice none 0 0, .slice none 0 0, .slice none 0 0, .slice none 0 0, .slice none 0 0, .slice none 0 0, .slice none 0 0, .slice none 0 0, .slice none 0 0, .map none, .slice none 0 0] 98))
  have hb1 : RowAt ((w.alloc (.cells (dcells (hv A)).toArray 28)).alloc (.cells #[.slice none 0 0, .slice none 0 0, .slice none 0 0, .slice none 0 0, .slice none 0 0, .slice none 0 0, .slice none 0 0, .slice none 0 0, .slice none 0 0, .slice none 0 0, .map none, .slice none 0 0] 98)) (w.heap.size + 1) 98 [.slice none 0 0, .slice none 0 0, .slice none 0 0, .slice none 0 0, .slice none 0 0, .slice none 0 0, .slice none 0 0, .slice none 0 0, .slice none 0 0, .slice none 0 0, .map none, .slice none 0 0] := row_at (xs := [.slice none 0 0, .slice none 0 0, .slice none 0 0, .slice none 0 0, .slice none 0 0, .slice none 0 0, .slice none 0 0, .slice none 0 0, .slice none 0 0, .slice none 0 0, .map none, .slice none 0 0]) (by simp)
  have HX := Lib.hid hx0
  have HB := Lib.hid hb0
  have HR := Lib.hid hb1
  have HV := Lib.hid hV
  clear hx0 hb0 hb1 hV
  unfold dv
  go_enter Tryz.func43, Tryz.ntmps43
  go_upto_region 1 with fail
  generalize (w.alloc (.cells (dcells (hv A)).toArray 28)).alloc (.cells #[.slice none 0 0, .slice none 0 0, .slice none 0 0, .slice none 0 0, .slice none 0 0, .slice none 0 0, .slice none 0 0, .slice none 0 0, .slice none 0 0, .slice none 0 0, .map none, .slice none 0 0] 98) = w1 at *
  obtain ⟨y, hy⟩ : ∃ y, w.heap.size = y := ⟨_, rfl⟩
  obtain ⟨yr, hyr⟩ : ∃ x, y + 1 = x := ⟨_, rfl⟩
  rw [hy] at HB HR
  rw [hyr] at HR
  simp only [hy, hyr]
  have HN := Lib.hid (show w.heap.size = y ∧ y + 1 = yr from ⟨hy, hyr⟩)
  clear hy hyr
  apply wp_region_lit
  -- a load of a whole row: y block, HB.out fact RowAt, api.Dict the type's name
  refine plain_load rfl _ _ rfl y rfl _ _ (HB.out) Tryz.underlying28 rfl (by kernel_rfl) ?_
  go_simp
  refine wpList_plain rfl fun K1 hK1 => ?_
  go_simp
  refine hK1 _ _ ?_
  clear hK1 K1
  have hxm := Ext.alloc w1 (.map #[] 0)
  have hvm : VarsAt (w1.alloc (.map #[] 0)) w1.heap.size [] := ⟨[], MapAt.new .string w1, KvIs.nil⟩
  have hym : yr < w1.heap.size := HR.out.lt
  have HX2 := Lib.hid (HX.out.trans hxm)
  have HM2 := Lib.hid hvm
  have HR2 := Lib.hid (HR.out.ext hxm)
  clear hxm hvm hmm HX HB HR
  generalize w1.alloc (.map #[] 0) = w2 at *
  generalize w1.heap.size = m at *
  refine wpList_plain rfl fun K1 hK1 => ?_
  go_simp
  refine hK1 _ _ ?_
  clear hK1 K1
  refine wpList_built rfl _ _ rfl (nmL (hv A) m (.slice a V.length c)).toArray (by kernel_rfl) ?_
  go_simp
  refine wpList_plain rfl fun K1 hK1 => ?_
  go_simp
  refine hK1 _ _ ?_
  clear hK1 K1
  have hx3 := Ext.alloc w2 (.cells #[.slice none 0 0, .slice none 0 0, .slice none 0 0, .slice none 0 0, .slice none 0 0, .slice none 0 0, .slice none 0 0, .slice none 0 0, .slice none 0 0, .slice none 0 0, .map none, .slice none 0 0] 98)
  have hn3 : RowAt (w2.alloc (.cells #[.slice none 0 0, .slice none 0 0, .slice none 0 0, .slice none 0 0, .slice none 0 0, .slice none 0 0, .slice none 0 0, .slice none 0 0, .slice none 0 0, .slice none 0 0, .map none, .slice none 0 0] 98)) w2.heap.size 98 [.slice none 0 0, .slice none 0 0, .slice none 0 0, .slice none 0 0, .slice none 0 0, .slice none 0 0, .slice none 0 0, .slice none 0 0, .slice none 0 0, .slice none 0 0, .map none, .slice none 0 0] := RowAt.new _ _ _
  have hmy := HM2.out.lt
  have HX3 := Lib.hid (HX2.out.trans hx3)
  have HM3 := Lib.hid (HM2.out.ext hx3)
  have HR3 := Lib.hid (HR2.out.ext hx3)
  have HN3 := Lib.hid hn3
  have hle := HX2.out.size
  clear hx3 hn3 HX2 HM2 HR2
  generalize w2.alloc (.cells #[.slice none 0 0, .slice none 0 0, .slice none 0 0, .slice none 0 0, .slice none 0 0, .slice none 0 0, .slice none 0 0, .slice none 0 0, .slice none 0 0, .slice none 0 0, .map none, .slice none 0 0] 98) = w3 at *
  generalize w2.heap.size = yn at *
  -- a store of a whole row: yn block, nmL (hv A) m (.slice a V.length c) its new cells (a list), HN3.out fact RowAt of the old, nm_one A m a V.length c proof that each is one cell
  refine plain_store rfl _ _ _ rfl yn (nmL (hv A) m (.slice a V.length c)) rfl rfl (HN3.out) (by kernel_rfl) rfl (nm_one A m a V.length c) ?_
  go_simp
  have hg4 := setRow_grown w3 yn (nmL (hv A) m (.slice a V.length c)).toArray
  have HX4 := Lib.hid (show Ext w (w3.setRow yn (nmL (hv A) m (.slice a V.length c)).toArray) from below_setRow HX3.out hle _)
  have HM4 := Lib.hid (HM3.out.kept hg4 (fun e => by have := Option.some.inj e; omega))
  have HR4 := Lib.hid (HR3.out.kept hg4 (fun e => by have := Option.some.inj e; omega))
  have HN4 := Lib.hid (HN3.out.setRow (nmL (hv A) m (.slice a V.length c)))
  have HNE := Lib.hid (show m ≠ yn ∧ m ≠ yr ∧ yr ≠ yn ∧ w.heap.size ≤ m ∧ w.heap.size ≤ yr by have := HN.out; omega)
  clear hg4 HX3 HM3 HR3 HN3 hle hmy hym HN
  generalize w3.setRow yn (nmL (hv A) m (.slice a V.length c)).toArray = w4 at *
  apply wpList_nil
  go_wp2_with fail
  go_loopg [14] V.length (fun g i wr => ∃ k : Nat, k ≤ V.length ∧ g = V.length - k ∧ i = .int .i64 k ∧ Ext w wr ∧ VarsAt wr m (V.take k) ∧ RowAt wr yn 98 (nmL (hv A) m (.slice a V.length c)) ∧ RowAt wr yr 98 [.slice none 0 0, .slice none 0 0, .slice none 0 0, .slice none 0 0, .slice none 0 0, .slice none 0 0, .slice none 0 0, .slice none 0 0, .slice none 0 0, .slice none 0 0, .map none, .slice none 0 0])
  case atStart => exact ⟨0, Nat.zero_le _, rfl, rfl, HX4.out, HM4.out, HN4.out, HR4.out⟩
  case round =>
    obtain ⟨k, hk, hg, rfl, hx, hm, hn, hr⟩ := hrel
    have Hg := Lib.hid hg
    have HX := Lib.hid hx
    have HM := Lib.hid hm
    have HN := Lib.hid hn
    have HR := Lib.hid hr
    clear hg hx hm hn hr
    by_cases hlt : k < V.length
    · obtain ⟨b, o, rfl, c0⟩ := (HV.out.ext HX.out).at_ hlt
      have hkk := take_snoc V k hlt
      have hlen : (V.take k).length = k := by rw [List.length_take]; omega
      generalize V[k] = s at *
      obtain ⟨w5, hrun, hm5, hg5⟩ := vars_put HM.out s k (by rw [hlen])
      have HM5 : Hid (VarsAt w5 m (V.take (k + 1))) := Lib.hid (by rw [hkk]; exact hm5)
      have HX5 := Lib.hid (show Ext w w5 from HX.out.grown hg5 HX.out.size (fun r e => by have := Option.some.inj e; have := HNE.out; omega))
      have HN5 := Lib.hid (HN.out.kept hg5 (fun e => by have := Option.some.inj e; have := HNE.out; omega))
      have HR5 := Lib.hid (HR.out.kept hg5 (fun e => by have := Option.some.inj e; have := HNE.out; omega))
      obtain ⟨d0, d1⟩ := nm_map HN.out
      clear hm5 hg5 hkk hlen HX HM HN HR
      go_wp2_with fail
      go_roundg (V.length - (k + 1))
      case measure => have := Hg.out; omega
      case rel => exact ⟨k + 1, by omega, rfl, by first | rfl | go_num, HX5.out, HM5.out, HN5.out, HR5.out⟩
    · have he : k = V.length := by omega
      subst he
      have HM9 : Hid (VarsAt wr m V) := Lib.hid (by have := HM.out; rwa [List.take_length] at this)
      go_upto_region 7 with fail
      apply wp_region_lit
      -- a load of a whole row: yn block, HN.out fact RowAt, resolve.names the type's name
      refine plain_load rfl _ _ rfl yn rfl _ _ (HN.out) Tryz.underlying98 rfl (by kernel_rfl) ?_
      go_simp
      -- a store of a whole row: yr block, nmL (hv A) m (.slice a V.length c) its new cells (a list), HR.out fact RowAt of the old, nm_one A m a V.length c proof that each is one cell
      refine plain_store rfl _ _ _ rfl yr (nmL (hv A) m (.slice a V.length c)) rfl rfl (HR.out) (by kernel_rfl) rfl (nm_one A m a V.length c) ?_
      go_simp
      have hg9 := setRow_grown wr yr (nmL (hv A) m (.slice a V.length c)).toArray
      have HX9 := Lib.hid (show Ext w (wr.setRow yr (nmL (hv A) m (.slice a V.length c)).toArray) from below_setRow HX.out (by have := HNE.out; omega) _)
      have HR9 := Lib.hid (HR.out.setRow (nmL (hv A) m (.slice a V.length c)))
      replace HM9 := Lib.hid (HM9.out.kept hg9 (fun e => by have := Option.some.inj e; have := HNE.out; omega))
      clear hg9 HX HM HN HR
      generalize wr.setRow yr (nmL (hv A) m (.slice a V.length c)).toArray = w9 at *
      apply wpList_nil
      go_wp2_with fail
      exact bodyPost_ret (results_row0 rfl rfl HR9.out Tryz.underlying98 rfl (by kernel_rfl)) rfl ⟨m, rfl, HM9.out, HX9.out⟩
end Go.Proofs.YtkmbnghghbfkdaaGreat
