/- Part of the proof: contracts of the functions, walked by the D-machine. No condition. -/
import Derived.Test.YtmlhdhpjcipcdaaGreatDoorFa
import Derived.Lib.Strings
import Derived.Lib.TrimByte
import Derived.Test.YtmlhdhpjcipcdaaGreatDoorFb
import Derived.Test.YtmlhdhpjcipcdaaGreatDoorHd
import Derived.Test.YtmlhdhpjcipcdaaGreatDoorFh
import Derived.Test.YtmlhdhpjcipcdaaGreatDoorSb
import Derived.Lib.IndexLaws
import Derived.Lib.IndexBytes
import Derived.Test.YtmlhdhpjcipcdaaGreatDoorLF
import Derived.Test.YtmlhdhpjcipcdaaGreatDoorTe
set_option linter.unusedSimpArgs false
set_option linter.unusedVariables false
namespace Go.Proofs.Dm
open Go Go.Proofs
open Sc Fo
namespace La
def opT (o : Int) (t : Tok) : Int := if isO t [123] then o + 1 else if isO t [125] then o - 1 else o
def opens (l : List Tok) : Int := l.foldl opT 0
def tabsS (l : List Tok) (c : Bool) : Int × Bool :=
  if c then (opens l - 1, false) else match l.getLast? with
    | none => (opens l, false)
    | some t => (opens l, t.kind != 6 && !isO t [123] && !isO t [125])
def mayS (n : Int) (l : List Tok) (c : Bool) : Bool := n == (tabsS l c).1 || ((tabsS l c).2 && n == (tabsS l c).1 + 1)
def tl9 (s : ByteArray) : ByteArray := ⟨(Lib.trimLeftB s.data.toList 9).toArray⟩
def chop (s : ByteArray) : ByteArray := ⟨(Lib.trimSuffix s.data.toList [10]).toArray⟩
def skipD (at_ : Int) : List Tok → Nat → Nat
  | [], n => n
  | t :: r, n => if t.at_ < at_ then skipD at_ r (n + 1) else n
def emptyB (s : ByteArray) : Bool := s.toList.isEmpty
def badL (L : List ByteArray) (l : List Tok) (i : Nat) (ln : ByteArray) (nx : Nat) : Bool :=
  if !((trimR ln).toList == ln.toList) then true
  else if emptyB ln then i == 0 || emptyB ((L[i - 1]?).getD ⟨#[]⟩) || i + 1 == L.length
  else Lib.hasPrefix (tl9 ln).data.toList [32] || !mayS ((ln.size : Int) - (tl9 ln).size) (l.take nx) (Lib.hasPrefix (tl9 ln).data.toList [125])
def goF (L : List ByteArray) (l : List Tok) : List ByteArray → Nat → Int → Nat → Int
  | [], _, _, _ => -1
  | ln :: r, i, at_, n =>
    if badL L l i ln (skipD at_ (l.drop n) n) then (i : Int) + 1 else goF L l r (i + 1) (at_ + ((ln.size : Int) + 1)) (skipD at_ (l.drop n) n)
theorem opens_take (l : List Tok) (i : Nat) (t : Tok) (h : l[i]? = some t) : opens (l.take (i + 1)) = opT (opens (l.take i)) t := by
  unfold opens
  rw [List.take_add_one, h]
  simp [List.foldl_append]
theorem opens_le (l : List Tok) (i : Nat) : -(i : Int) ≤ opens (l.take i) ∧ opens (l.take i) ≤ i := by
  induction i with
  | zero => exact ⟨Int.le_refl _, Int.le_refl _⟩
  | succ i ih =>
    cases h : l[i]? with
    | none =>
      have e : l.take (i + 1) = l.take i := by rw [List.take_add_one, h]; simp
      rw [e]; omega
    | some t =>
      rw [opens_take l i t h]
      unfold opT
      split
      · omega
      · split <;> omega
end La
end Go.Proofs.Dm

set_option linter.unusedSimpArgs false
set_option linter.unusedVariables false
set_option maxHeartbeats 8000000
set_option maxRecDepth 100000
namespace Go.Proofs.Dm
open Go Go.Proofs Go.Proofs.Tryz Go.Proofs.Dm.Sc Go.Proofs.Dm.Fo
namespace La
attribute [local simp] encT encC takes handsOn isTmp Op.operands Call.operands
theorem hs_ok {W0 nb} {s p : ByteArray} (hs : s.size ≤ 9223372036854775807) : DCalls ⟨Tryz.prog, W0, nb⟩ 77 [.p (.str s), .p (.str p)] [] (.p (.bool (Lib.hasSuffix s.data.toList p.data.toList))) [] :=
  dcalls_foreign (vs := [.string s, .string p]) (v := .bool (Lib.hasSuffix s.data.toList p.data.toList)) ⟨_, Tryz.func77, by kernel_rfl, rfl⟩ (fun w h ρ O ws r => by
      simp only [RepDs, RepD, Rep] at r
      obtain ⟨v1, r1, rfl, h1, v2, r2, rfl, h2, h3⟩ := r
      rw [h1, h2, h3]) (fun w h ρ O => by simp only [RepD, Rep])
    (fun w _ _ => (Tryz.strings_HasSuffix s p w hs).mono (by rintro e w' ⟨rfl, rfl⟩; exact ⟨rfl, Go.RowKit.Below.refl _ _⟩))
theorem ts_ok {W0 nb} {s : ByteArray} (hs : s.size ≤ 9223372036854775807) : DCalls ⟨Tryz.prog, W0, nb⟩ 78 [.p (.str s), .p (.str ⟨#[10]⟩)] [] (.p (.str (chop s))) [] :=
  dcalls_foreign (vs := [.string s, .string ⟨#[10]⟩]) (v := .string (chop s)) ⟨_, Tryz.func78, by kernel_rfl, rfl⟩ (fun w h ρ O ws r => by
      simp only [RepDs, RepD, Rep] at r
      obtain ⟨v1, r1, rfl, h1, v2, r2, rfl, h2, h3⟩ := r
      rw [h1, h2, h3]) (fun w h ρ O => by simp only [RepD, Rep])
    (fun w _ _ => (Tryz.strings_TrimSuffix s ⟨#[10]⟩ w hs).mono (by rintro e w' ⟨rfl, rfl⟩; exact ⟨rfl, Go.RowKit.Below.refl _ _⟩))
theorem tl_ok {W0 nb} {s : ByteArray} : DCalls ⟨Tryz.prog, W0, nb⟩ 79 [.p (.str s), .p (.str ⟨#[9]⟩)] [] (.p (.str (tl9 s))) [] :=
  dcalls_foreign (vs := [.string s, .string ⟨#[9]⟩]) (v := .string (tl9 s)) ⟨_, Tryz.func79, by kernel_rfl, rfl⟩ (fun w h ρ O ws r => by
      simp only [RepDs, RepD, Rep] at r
      obtain ⟨v1, r1, rfl, h1, v2, r2, rfl, h2, h3⟩ := r
      rw [h1, h2, h3]) (fun w h ρ O => by simp only [RepD, Rep])
    (fun w _ _ => (Tryz.strings_TrimLeft_one s 9 (by decide) w).mono (by rintro e w' ⟨rfl, rfl⟩; exact ⟨rfl, Go.RowKit.Below.refl _ _⟩))
theorem lis_ok {W0 nb t} {x : ByteArray} : DCalls ⟨Tryz.prog, W0, nb⟩ 163 [.agg ((encT t).map .p), .p (.str x)] [] (.p (.bool (isO t x.toList))) [] := by
  refine dcalls_end Tryz.func163 rfl (by kernel_rfl) 14 Tryz.ntmps163 #[.tmp 4] rfl (Nat.le_of_ble_eq_true rfl) ?_
  simp
  cases h : t.kind == 4 with
  | true =>
    simp [isO, h]
    exact .kk
  | false =>
    simp [isO, h]
    exact .kk
def tbI (l : List Tok) (c : Bool) (m : Nat) (st : St) : Prop := ∃ i : Nat, m = l.length - i ∧ i ≤ l.length ∧ st.hp = [] ∧ st.tm 0 = .p (.sl 5 (l.map encT)) ∧ st.tm 1 = .p (.bool c) ∧ st.tm 6 = i64 (opens (l.take i)) ∧ st.tm 10 = .p (.sl 5 (l.map encT)) ∧ st.tm 11 = i64 (l.length : Nat) ∧ st.tm 12 = i64 (i : Nat)
def tbJ (l : List Tok) (c : Bool) (st : St) : Prop := st.hp = [] ∧ st.tm 0 = .p (.sl 5 (l.map encT)) ∧ st.tm 1 = .p (.bool c) ∧ st.tm 6 = i64 (opens l)
theorem tabs_ok {W0 nb} {l : List Tok} {c : Bool} (hl : l.length < 1000000000) : DCalls ⟨Tryz.prog, W0, nb⟩ 127 [.p (.sl 5 (l.map encT)), .p (.bool c)] [] (.tup [i64 (tabsS l c).1, .p (.bool (tabsS l c).2)]) [] := by
  refine dcalls_end Tryz.func127 rfl (by kernel_rfl) 54 Tryz.ntmps127 #[.tmp 4, .tmp 5] rfl (Nat.le_of_ble_eq_true rfl) ?_
  simp
  refine LoopGoal.cut (tbJ l c) ?_ ?_
  · refine ⟨tbI l c, l.length, .here ⟨0, by simp, by simp, by simp, by simp, by simp, by simp [opens], by simp, by simp, by simp⟩, ?_⟩
    rintro m ⟨tm, hp⟩ ⟨i, rfl, hi, h0, g0, g1, g6, g10, g11, g12⟩
    simp only at h0 g0 g1 g6 g10 g11 g12
    subst h0
    simp [g11, g12]
    rcases Nat.lt_or_ge i l.length with hlt | hge
    rotate_left
    · have hil : i = l.length := by omega
      subst hil
      rw [List.take_length] at g6
      simp
      exact ⟨by simp, by simp [g0], by simp [g1], by simp [g6]⟩
    obtain ⟨t, ht⟩ : ∃ t, l[i]? = some t := ⟨_, List.getElem?_eq_getElem hlt⟩
    have hti : l[i] = t := by
      have := List.getElem?_eq_getElem hlt
      rw [ht] at this
      injection this with this
      exact this.symm
    have hop := opens_le l i
    have hos := opens_take l i t ht
    have hw := w64_id (n := (i : Int) + 1) (by omega) (by omega)
    have hw2 := w64_id (n := opens (l.take i) + 1) (by omega) (by omega)
    have hw3 := w64_id (n := opens (l.take i) - 1) (by omega) (by omega)
    simp only [w64] at hw hw2 hw3
    unfold opT at hos
    generalize opens (l.take i) = o at *
    have c1 := lis_ok (W0 := W0) (nb := nb) (t := t) (x := ⟨#[123]⟩)
    have c2 := lis_ok (W0 := W0) (nb := nb) (t := t) (x := ⟨#[125]⟩)
    have e1 : (⟨#[123]⟩ : ByteArray).toList = [123] := by rw [Lib.toList_data]
    have e2 : (⟨#[125]⟩ : ByteArray).toList = [125] := by rw [Lib.toList_data]
    rw [e1] at c1
    rw [e2] at c2
    simp only [encT, List.map_cons, List.map_nil] at c1 c2
    simp [hlt, g10, g11, g12, ht, hti]
    refine CallGoal.same c1 ?_
    cases h1 : isO t [123] with
    | true =>
      rw [h1, if_pos rfl] at hos
      simp [h1, g6, g12, hw, hw2]
      exact .drop (l.length - (i + 1)) (by omega) 0 (by simp) (by simp) (by simp [refsDs, refsD]) ⟨i + 1, rfl, by omega, by simp [dropSt], by simp [dropSt, dropD, g0], by simp [dropSt, dropD, g1], by simp [dropSt, dropD, hos, hw2], by simp [dropSt, dropD, g10], by simp [dropSt, dropD, g11], by simp [dropSt, dropD, hw]⟩
    | false =>
      simp [h1]
      refine CallGoal.same c2 ?_
      cases h2 : isO t [125] with
      | true =>
        simp only [h1, h2, Bool.false_eq_true, if_false, if_true] at hos
        simp [h2, g6, g12, hw, hw3]
        exact .drop (l.length - (i + 1)) (by omega) 0 (by simp) (by simp) (by simp [refsDs, refsD]) ⟨i + 1, rfl, by omega, by simp [dropSt], by simp [dropSt, dropD, g0], by simp [dropSt, dropD, g1], by simp [dropSt, dropD, hos, hw3], by simp [dropSt, dropD, g10], by simp [dropSt, dropD, g11], by simp [dropSt, dropD, hw]⟩
      | false =>
        simp only [h1, h2, Bool.false_eq_true, if_false] at hos
        simp [h2, g12, hw]
        exact .drop (l.length - (i + 1)) (by omega) 0 (by simp) (by simp) (by simp [refsDs, refsD]) ⟨i + 1, rfl, by omega, by simp [dropSt], by simp [dropSt, dropD, g0], by simp [dropSt, dropD, g1], by simp [dropSt, dropD, hos, g6], by simp [dropSt, dropD, g10], by simp [dropSt, dropD, g11], by simp [dropSt, dropD, hw]⟩
  rintro ⟨tm, hp⟩ ⟨h0, g0, g1, g6⟩
  simp only at h0 g0 g1 g6
  subst h0
  have hop := opens_le l l.length
  rw [List.take_length] at hop
  have hw3 := w64_id (n := opens l - 1) (by omega) (by omega)
  simp only [w64] at hw3
  simp [g1]
  unfold tabsS
  generalize opens l = o at *
  cases c with
  | true =>
    simp [g6, hw3]
    exact .keep (by simp [hw3]) (.refl _) (by simp) (by simp [hw3]) (by simp [hw3]) (by simp [hw3])
  | false =>
  simp [g0]
  cases hlast : l.getLast? with
  | none =>
    have : l = [] := List.getLast?_eq_none_iff.1 hlast
    subst this
    simp [g6]
    exact .kk
  | some t =>
    have hne : l ≠ [] := by rintro rfl; cases hlast
    have hlp : 0 < l.length := List.length_pos_iff.2 hne
    have hl0 : ¬ (l.length : Int) = 0 := by omega
    have hlb : ((l.length : Int) == 0) = false := beq_eq_false_iff_ne.2 hl0
    have hlt : l[l.length - 1]? = some t := by rw [← hlast, List.getLast?_eq_getElem?]
    have hw4 := w64_id (n := ((l.length - 1 : Nat) : Int)) (by omega) (by omega)
    simp only [w64] at hw4
    have hc : (l.length : Int) - 1 = ((l.length - 1 : Nat) : Int) := by omega
    have c1 := lis_ok (W0 := W0) (nb := nb) (t := t) (x := ⟨#[123]⟩)
    have c2 := lis_ok (W0 := W0) (nb := nb) (t := t) (x := ⟨#[125]⟩)
    have e1 : (⟨#[123]⟩ : ByteArray).toList = [123] := by rw [Lib.toList_data]
    have e2 : (⟨#[125]⟩ : ByteArray).toList = [125] := by rw [Lib.toList_data]
    rw [e1] at c1
    rw [e2] at c2
    simp only [encT, List.map_cons, List.map_nil] at c1 c2
    have o1 : l.length - 1 < l.length := by omega
    have hti : l[l.length - 1] = t := by
      have := List.getElem?_eq_getElem o1
      rw [hlt] at this
      injection this with this
      exact this.symm
    simp [hne, hl0, hlb, hw4, hc, hlt, hti, hlp, o1, g0, g6]
    cases h6 : t.kind == 6 with
    | true =>
      have h6' := eq_of_beq h6
      simp [h6, h6']
      exact .keep (by simp [h6']) (.refl _) (by simp) (by simp [h6']) (by simp [h6']) (by simp [h6'])
    | false =>
      have h6' : ¬ t.kind = 6 := by simpa using h6
      have hb6 : (t.kind != 6) = true := by simp [bne, h6]
      simp [hb6]
      refine CallGoal.same c1 ?_
      cases h1 : isO t [123] with
      | true =>
        simp [h1]
        exact .keep (by simp [h1, hb6]) (.refl _) (by simp) (by simp [h1, hb6]) (by simp [h1, hb6]) (by simp [h1, hb6])
      | false =>
        simp [h1]
        refine CallGoal.same c2 ?_
        simp
        exact .keep (by simp [h1, h6', hb6]) (.refl _) (by simp) (by simp [h1, h6', hb6]) (by simp [h1, h6', hb6]) (by simp [h1, h6', hb6])
theorem may_ok {W0 nb} {n : Int} {l : List Tok} {c : Bool} (hl : l.length < 1000000000) : DCalls ⟨Tryz.prog, W0, nb⟩ 82 [i64 n, .p (.sl 5 (l.map encT)), .p (.bool c)] [] (.p (.bool (mayS n l c))) [] := by
  have c1 := tabs_ok (W0 := W0) (nb := nb) (c := c) hl
  have hb : -2000000000 ≤ (tabsS l c).1 ∧ (tabsS l c).1 ≤ 2000000000 := by
    have hop := opens_le l l.length
    rw [List.take_length] at hop
    unfold tabsS
    split
    · dsimp only; omega
    · split <;> dsimp only <;> omega
  unfold mayS
  generalize (tabsS l c).1 = k at *
  generalize (tabsS l c).2 = b at *
  have hw := w64_id (n := k + 1) (by omega) (by omega)
  simp only [w64] at hw
  refine dcalls_end Tryz.func82 rfl (by kernel_rfl) 27 Tryz.ntmps82 #[.tmp 6] rfl (Nat.le_of_ble_eq_true rfl) ?_
  simp
  refine CallGoal.same c1 ?_
  cases h1 : n == k with
  | true =>
    simp [h1]
    exact .keep (by simp [h1]) (.refl _) (by simp) (by simp [h1]) (by simp [h1]) (by simp [h1])
  | false =>
    cases b with
    | true =>
      simp [h1, hw]
      exact .keep (by simp [h1, hw]) (.refl _) (by simp) (by simp [h1, hw]) (by simp [h1, hw]) (by simp [h1, hw])
    | false =>
      simp [h1]
      exact .keep (by simp [h1]) (.refl _) (by simp) (by simp [h1]) (by simp [h1]) (by simp [h1])
end La
end Go.Proofs.Dm

set_option linter.unusedSimpArgs false
set_option linter.unusedVariables false
set_option maxHeartbeats 16000000
set_option maxRecDepth 100000
namespace Go.Proofs.Dm
open Go Go.Proofs Go.Proofs.Tryz Go.Proofs.Dm.Sc Go.Proofs.Dm.Fo
namespace La
attribute [local simp] encT encC takes handsOn isTmp Op.operands Call.operands
def faultS (s : ByteArray) : Int :=
  if decide (0 ≤ (scanP s).2.2) || !Lib.hasSuffix s.data.toList [10] then 0 else goF (linesP (chop s)) (scanP s).1 (linesP (chop s)) 0 0 0
def faI (L : List ByteArray) (l : List Tok) (R : Int) (m : Nat) (st : St) : Prop := ∃ (i n : Nat) (a : Int), m = L.length - i ∧ i ≤ L.length ∧ n ≤ l.length ∧ 0 ≤ a ∧ a ≤ i * 300001 ∧ goF L l (L.drop i) i a n = R ∧
  st.hp = [] ∧ st.tm 3 = .p (.sl 5 (l.map encT)) ∧ st.tm 6 = .p (.sl 1 (rowsS L)) ∧ st.tm 7 = i64 a ∧ st.tm 8 = i64 (n : Nat) ∧ st.tm 28 = .p (.sl 1 (rowsS L)) ∧ st.tm 29 = i64 (L.length : Nat) ∧ st.tm 30 = i64 (i : Nat)
def faN (L : List ByteArray) (l : List Tok) (i : Nat) (a : Int) (ln : ByteArray) (nx : Nat) (m : Nat) (st : St) : Prop := ∃ n : Nat, m = l.length - n ∧ n ≤ l.length ∧ skipD a (l.drop n) n = nx ∧
  st.hp = [] ∧ st.tm 3 = .p (.sl 5 (l.map encT)) ∧ st.tm 6 = .p (.sl 1 (rowsS L)) ∧ st.tm 7 = i64 a ∧ st.tm 8 = i64 (n : Nat) ∧ st.tm 9 = i64 (i : Nat) ∧ st.tm 10 = .p (.str ln) ∧ st.tm 11 = .p (.str (tl9 ln)) ∧ st.tm 28 = .p (.sl 1 (rowsS L)) ∧ st.tm 29 = i64 (L.length : Nat) ∧ st.tm 30 = i64 (i : Nat)
def faM (L : List ByteArray) (l : List Tok) (i : Nat) (a : Int) (ln : ByteArray) (nx : Nat) (st : St) : Prop := nx ≤ l.length ∧
  st.hp = [] ∧ st.tm 3 = .p (.sl 5 (l.map encT)) ∧ st.tm 6 = .p (.sl 1 (rowsS L)) ∧ st.tm 7 = i64 a ∧ st.tm 8 = i64 (nx : Nat) ∧ st.tm 9 = i64 (i : Nat) ∧ st.tm 10 = .p (.str ln) ∧ st.tm 11 = .p (.str (tl9 ln)) ∧ st.tm 28 = .p (.sl 1 (rowsS L)) ∧ st.tm 29 = i64 (L.length : Nat) ∧ st.tm 30 = i64 (i : Nat)
theorem tl9_size (s : ByteArray) : (tl9 s).size ≤ s.size := by
  show ((s.data.toList.dropWhile (· == 9)).toArray).size ≤ s.data.size
  have := (List.dropWhile_sublist (l := s.data.toList) (· == 9)).length_le
  simpa using this
theorem chop_size (s : ByteArray) : (chop s).size ≤ s.size := by
  show ((Lib.trimSuffix s.data.toList [10]).toArray).size ≤ s.data.size
  unfold Lib.trimSuffix
  split
  · simp
  · simp
theorem fault_ok {W0 nb} {s : ByteArray} (h2 : 2 ≤ nb) (hT : Lib.Utf8Tabs 0 1 W0) (hs : s.size < 100000) (hl : (scanP s).1.length ≤ 300000) (hn : (linesP (chop s)).length ≤ 300000) (hz : ∀ x ∈ linesP (chop s), x.size ≤ 300000) :
    DCalls ⟨Tryz.prog, W0, nb⟩ 41 [.p (.str s)] [] (i64 (faultS s)) [] := by
  have c1 := scan_ok (W0 := W0) (nb := nb) h2 hT (s := s) (by omega)
  have c2 := hs_ok (W0 := W0) (nb := nb) (s := s) (p := ⟨#[10]⟩) (by omega)
  have c3 := ts_ok (W0 := W0) (nb := nb) (s := s) (by omega)
  have hcs := chop_size s
  have c4 := split_ok (W0 := W0) (nb := nb) (s := chop s) (by omega)
  unfold faultS
  generalize linesP (chop s) = L at *
  generalize chop s = sc at *
  obtain ⟨S, hS⟩ : ∃ S, scanP s = S := ⟨_, rfl⟩
  rw [hS] at c1 hl ⊢
  obtain ⟨l, cs, f⟩ := S
  simp only [toks, coms] at c1 hl ⊢
  have ed : (⟨#[10]⟩ : ByteArray).data.toList = [10] := rfl
  rw [ed] at c2
  generalize Lib.hasSuffix s.data.toList [10] = b at *
  refine dcalls_end Tryz.func41 rfl (by kernel_rfl) 104 Tryz.ntmps41 #[.tmp 2] rfl (Nat.le_of_ble_eq_true rfl) ?_
  simp
  refine CallGoal.same c1 ?_
  cases hf : decide (0 ≤ f) with
  | true =>
    have hf' := of_decide_eq_true hf
    simp [hf']
    exact .kk
  | false =>
  have hf' := of_decide_eq_false hf
  simp [hf']
  refine CallGoal.same c2 ?_
  cases b with
  | false =>
    simp
    exact .kk
  | true =>
  simp
  refine CallGoal.same c3 ?_
  simp
  refine CallGoal.same c4 ?_
  simp
  generalize hR : goF L l L 0 0 0 = R
  refine LoopGoal.cut (fun st => st.hp = [] ∧ R = -1) ?_ ?_
  --<1
  · refine ⟨faI L l R, L.length, .here ⟨0, 0, 0, by simp, by simp, by simp, by simp, by simp, by simpa using hR, by simp, by simp, by simp, by simp, by simp, by simp, by simp [rowsS], by simp⟩, ?_⟩
    rintro m ⟨tm, hp⟩ ⟨i, n, a, rfl, hi, hnl, ha0, ha, hg, h0, g3, g6, g7, g8, g28, g29, g30⟩
    simp only at h0 g3 g6 g7 g8 g28 g29 g30
    subst h0
    clear hR
    simp [g29, g30]
    rcases Nat.lt_or_ge i L.length with hlt | hge
    rotate_left
    · have hil : i = L.length := by omega
      subst hil
      simp [goF] at hg
      simp
      exact hg.symm
    obtain ⟨ln, hln⟩ : ∃ x, L[i]? = some x := ⟨_, List.getElem?_eq_getElem hlt⟩
    have hti : L[i] = ln := by
      have := List.getElem?_eq_getElem hlt
      rw [hln] at this
      injection this with this
      exact this.symm
    have hzl : ln.size ≤ 300000 := hz ln (List.mem_of_getElem? hln)
    have hd : L.drop i = ln :: L.drop (i + 1) := by rw [List.drop_eq_getElem_cons hlt, hti]
    rw [hd] at hg
    unfold goF at hg
    obtain ⟨nx, hnx⟩ : ∃ nx, skipD a (l.drop n) n = nx := ⟨_, rfl⟩
    rw [hnx] at hg
    have d1 := tl_ok (W0 := W0) (nb := nb) (s := ln)
    simp [hlt, g28, g29, g30, hln, hti, rowsS]
    refine CallGoal.same d1 ?_
    simp [g8, g3]
    refine LoopGoal.cut (faM L l i a ln nx) ?_ ?_
    --<2
    · refine ⟨faN L l i a ln nx, l.length - n, .here ⟨n, rfl, hnl, hnx, by simp, by simp [g3], by simp [g6], by simp [g7], by simp [g8], by simp [g30], by simp, by simp, by simp [g28, rowsS], by simp [g29], by simp [g30]⟩, ?_⟩
      clear g3 g6 g7 g8 g28 g29 g30 hnx hnl
      rintro m ⟨tm, hp⟩ ⟨n, rfl, hnl, hnx, h0, g3, g6, g7, g8, g9, g10, g11, g28, g29, g30⟩
      simp only at h0 g3 g6 g7 g8 g9 g10 g11 g28 g29 g30
      subst h0
      rcases Nat.lt_or_ge n l.length with hlt2 | hge2
      · obtain ⟨t, ht⟩ : ∃ t, l[n]? = some t := ⟨_, List.getElem?_eq_getElem hlt2⟩
        have hti2 : l[n] = t := by
          have := List.getElem?_eq_getElem hlt2
          rw [ht] at this
          injection this with this
          exact this.symm
        have hd2 : l.drop n = t :: l.drop (n + 1) := by rw [List.drop_eq_getElem_cons hlt2, hti2]
        rw [hd2] at hnx
        unfold skipD at hnx
        have hw := w64_id (n := (n : Int) + 1) (by omega) (by omega)
        simp only [w64] at hw
        by_cases hat : t.at_ < a
        · rw [if_pos hat] at hnx
          simp [g3, g7, g8, hlt2, ht, hti2, hat, hw]
          exact .same (l.length - (n + 1)) (by omega) ⟨n + 1, rfl, by omega, hnx, by simp, by simp [g3], by simp [g6], by simp [g7], by simp [hw], by simp [g9], by simp [g10], by simp [g11], by simp [g28], by simp [g29], by simp [g30]⟩
        · rw [if_neg hat] at hnx
          subst hnx
          simp [g3, g7, g8, hlt2, ht, hti2, hat]
          exact ⟨by omega, by simp, by simp [g3], by simp [g6], by simp [g7], by simp [g8], by simp [g9], by simp [g10], by simp [g11], by simp [g28], by simp [g29], by simp [g30]⟩
      · have : n = l.length := by omega
        subst this
        simp [skipD] at hnx
        subst hnx
        simp [g3, g8]
        exact ⟨by omega, by simp, by simp [g3], by simp [g6], by simp [g7], by simp [g8], by simp [g9], by simp [g10], by simp [g11], by simp [g28], by simp [g29], by simp [g30]⟩
    --2>
    clear g3 g6 g7 g8 g28 g29 g30 hnx hnl
    rintro ⟨tm, hp⟩ ⟨hnl, h0, g3, g6, g7, g8, g9, g10, g11, g28, g29, g30⟩
    simp only at h0 g3 g6 g7 g8 g9 g10 g11 g28 g29 g30
    subst h0
    have hwi := w64_id (n := (i : Int) + 1) (by omega) (by omega)
    have hwa := w64_id (n := (ln.size : Int) + 1) (by omega) (by omega)
    have hwb := w64_id (n := a + ((ln.size : Int) + 1)) (by omega) (by omega)
    have hwc := w64_id (n := (i : Int) - 1) (by omega) (by omega)
    have hwd := w64_id (n := (L.length : Int) - 1) (by omega) (by omega)
    have htl := tl9_size ln
    have hwe := w64_id (n := (ln.size : Int) - (tl9 ln).size) (by omega) (by omega)
    simp only [w64] at hwi hwa hwb hwc hwd hwe
    have d2 := trimR_ok (W0 := W0) (nb := nb) (s := ln) (by omega)
    simp [g10]
    refine CallGoal.same d2 ?_
    unfold badL at hg
    cases hx : (trimR ln).toList == ln.toList with
    | false =>
      simp [hx] at hg
      simp [hx, g9, g10, hwi]
      exact .keep (by simp [hg]) (.refl _) (by simp) (by simp [hg]) (by simp [hg]) (by simp [hg])
    | true =>
    simp only [hx, Bool.not_true, Bool.false_eq_true, if_false] at hg
    simp [hx, g10]
    cases hem : emptyB ln with
    | true =>
      have hem2 : ln.toList.isEmpty = true := hem
      simp only [hem, if_true] at hg
      by_cases hi0 : i = 0
      · subst hi0
        simp at hg
        subst hg
        have hw1 : IntKind.i64.wrap 1 = 1 := rfl
        simp [hem2, g9, g10, hw1]
        exact .keep (by simp [hw1]) (.refl _) (by simp) (by simp [hw1]) (by simp [hw1]) (by simp [hw1])
      · obtain ⟨j, rfl⟩ : ∃ j, i = j + 1 := ⟨i - 1, by omega⟩
        have hji : ((j + 1 : Nat) : Int) - 1 = (j : Int) := by omega
        have hj0 : ¬ ((j : Int) + 1 = 0) := by omega
        obtain ⟨pv, hpv⟩ : ∃ x, L[j]? = some x := ⟨_, List.getElem?_eq_getElem (by omega)⟩
        have hpj : L[j]'(by omega) = pv := by
          have := List.getElem?_eq_getElem (l := L) (i := j) (by omega)
          rw [hpv] at this
          injection this with this
          exact this.symm
        have hwj := w64_id (n := (j : Int)) (by omega) (by omega)
        have hwi := w64_id (n := (j : Int) + 1 + 1) (by omega) (by omega)
        simp only [w64] at hwj hwi
        have hjl : j < L.length := by omega
        have hpe : emptyB ((L[j + 1 - 1]?).getD ⟨#[]⟩) = emptyB pv := by rw [Nat.add_sub_cancel, hpv]; rfl
        have hj1 : (j + 1 == 0) = false := rfl
        rw [hpe] at hg
        simp only [hj1, Bool.false_or] at hg
        have hjb : ((j : Int) + 1 == 0) = false := beq_eq_false_iff_ne.2 hj0
        cases hpb : emptyB pv with
        | true =>
          have hpb2 : pv.toList.isEmpty = true := hpb
          simp [hpb] at hg
          simp [hem2, g6, g9, g10, hj0, hjb, hjl, hpv, hpj, hpb2, hwj, rowsS, hwi]
          exact .keep (by simp [hg]) (.refl _) (by simp) (by simp [hg]) (by simp [hg]) (by simp [hg])
        | false =>
          have hpb2 : pv.toList.isEmpty = false := hpb
          cases hql : (j + 1 + 1 == L.length) with
          | true =>
            have hq' : j + 1 + 1 = L.length := eq_of_beq hql
            have hq : ((j : Int) + 1 == (L.length : Int) - 1) = true := beq_iff_eq.2 (by omega)
            simp [hpb, hql] at hg
            simp [hem2, g6, g9, g10, hj0, hjb, hjl, hpv, hpj, hpb2, hwj, rowsS, hwi, hwd, hq]
            exact .keep (by simp [hg]) (.refl _) (by simp) (by simp [hg]) (by simp [hg]) (by simp [hg])
          | false =>
            have hq' : ¬ j + 1 + 1 = L.length := by simpa using hql
            have hq : ((j : Int) + 1 == (L.length : Int) - 1) = false := beq_eq_false_iff_ne.2 (by omega)
            simp only [hpb, hql, Bool.or_self, Bool.false_eq_true, if_false] at hg
            simp [hem2, g6, g7, g9, g10, g30, hj0, hjb, hjl, hpv, hpj, hpb2, hwj, rowsS, hwi, hwd, hq, hwa, hwb]
            exact .same (L.length - (j + 1 + 1)) (by omega) ⟨j + 1 + 1, nx, a + ((ln.size : Int) + 1), rfl, by omega, hnl, by omega, by omega, hg, by simp, by simp [g3], by simp [g6], by simp [hwb], by simp [g8], by simp [g28], by simp [g29], by simp [hwi]⟩
    | false =>
      have hem2 : ln.toList.isEmpty = false := hem
      simp only [hem, Bool.false_eq_true, if_false] at hg
      have d3 := hp_ok (W0 := W0) (nb := nb) (s := tl9 ln) (p := ⟨#[32]⟩)
      have d4 := hp_ok (W0 := W0) (nb := nb) (s := tl9 ln) (p := ⟨#[125]⟩)
      have q3 : (⟨#[32]⟩ : ByteArray).data.toList = [32] := rfl
      have q4 : (⟨#[125]⟩ : ByteArray).data.toList = [125] := rfl
      rw [q3] at d3
      rw [q4] at d4
      have d5 := may_ok (W0 := W0) (nb := nb) (n := (ln.size : Int) - (tl9 ln).size) (l := l.take nx) (c := Lib.hasPrefix (tl9 ln).data.toList [125]) (by simp; omega)
      simp only [List.map_take] at d5
      simp [hem2, g11]
      refine CallGoal.same d3 ?_
      cases hsp : Lib.hasPrefix (tl9 ln).data.toList [32] with
      | true =>
        simp [hsp] at hg
        simp [hsp, g9, hwi]
        exact .keep (by simp [hg]) (.refl _) (by simp) (by simp [hg]) (by simp [hg]) (by simp [hg])
      | false =>
      simp only [hsp, Bool.false_or] at hg
      generalize Lib.hasPrefix (tl9 ln).data.toList [125] = pb at *
      simp [hsp]
      refine drawWp.intro [] [9] mixed (by kernel_rfl) (by kernel_rfl) (by kernel_rfl) ?_
      simp [g3, g8, g10, g11, hwe, hnl]
      refine CallGoal.same d4 ?_
      simp [g3, g8, g10, g11, hwe, hnl]
      refine CallGoal.same d5 ?_
      simp
      refine ⟨by simp [g3, g8, g10, g11], by simp [g3, g8, g10, g11], ?_⟩
      cases hmy : mayS ((ln.size : Int) - (tl9 ln).size) (l.take nx) pb with
      | false =>
        simp [hmy] at hg
        simp [hmy, g9, hwi]
        exact .keep (by simp [hg]) (.refl _) (by simp) (by simp [hg]) (by simp [hg]) (by simp [hg])
      | true =>
        simp only [hmy, Bool.not_true, Bool.false_eq_true, if_false] at hg
        simp [hmy, g7, g10, g30, hwi, hwa, hwb]
        exact .same (L.length - (i + 1)) (by omega) ⟨i + 1, nx, a + ((ln.size : Int) + 1), rfl, by omega, hnl, by omega, by omega, hg, by simp, by simp [g3], by simp [g6], by simp [hwb], by simp [g8], by simp [g28], by simp [g29], by simp [hwi]⟩
  --1>
  rintro ⟨tm, hp⟩ ⟨h0, rfl⟩
  simp only at h0
  subst h0
  simp
  exact .kk
end La
end Go.Proofs.Dm

set_option linter.unusedSimpArgs false
set_option linter.unusedVariables false
set_option maxHeartbeats 16000000
set_option maxRecDepth 100000
namespace Go.Proofs.Dm
open Go Go.Proofs Go.Proofs.Tryz Go.Proofs.Dm.Sc Go.Proofs.Dm.Fo
namespace La
attribute [local simp] encT takes handsOn isTmp Op.operands Call.operands
def faultE (s : ByteArray) : Option Int :=
  if decide ((scanP s).1.length ≤ 300000) && decide ((linesP (chop s)).length ≤ 300000) && (linesP (chop s)).all (fun x => decide (x.size ≤ 300000)) then some (faultS s) else none
theorem fault_eval {W0 nb} {s : ByteArray} {r : Int} (h2 : 2 ≤ nb) (hT : Lib.Utf8Tabs 0 1 W0) (hs : s.size < 100000) (h : faultE s = some r) : DCalls ⟨Tryz.prog, W0, nb⟩ 41 [.p (.str s)] [] (i64 r) [] := by
  unfold faultE at h
  split at h
  · rename_i hz
    simp only [Bool.and_eq_true, List.all_eq_true, decide_eq_true_eq] at hz
    injection h with h
    have := fault_ok (W0 := W0) (nb := nb) h2 hT hs hz.1.1 hz.1.2 hz.2
    rwa [h] at this
  · cases h
theorem right_eval {W0 nb} {s : ByteArray} {r : Int} (h2 : 2 ≤ nb) (hT : Lib.Utf8Tabs 0 1 W0) (hs : s.size < 100000) (h : faultE s = some r) : DCalls ⟨Tryz.prog, W0, nb⟩ 42 [.p (.str s)] [] (.p (.bool (r == -1))) [] := by
  have c := fault_eval (W0 := W0) (nb := nb) h2 hT hs h
  refine dcalls_end Tryz.func42 rfl (by kernel_rfl) 6 Tryz.ntmps42 #[.tmp 2] rfl (Nat.le_of_ble_eq_true rfl) ?_
  simp
  refine CallGoal.same c ?_
  simp
  exact .kk
theorem u0 : faultE (⟨#[97, 32, 123, 10, 9, 98, 10, 125, 10]⟩ : ByteArray) = some (-1) := by kernel_rfl
theorem u1 : faultE (⟨#[97, 32, 123, 10, 98, 10, 125, 10]⟩ : ByteArray) = some (2) := by kernel_rfl
theorem u2 : faultE (⟨#[97, 32, 10]⟩ : ByteArray) = some (1) := by kernel_rfl
theorem u3 : faultE (⟨#[97]⟩ : ByteArray) = some (0) := by kernel_rfl
theorem u4 : faultE (⟨#[97, 10, 10, 10, 98, 10]⟩ : ByteArray) = some (3) := by kernel_rfl
theorem u5 : faultE (⟨#[97, 32, 43, 10, 9, 98, 10]⟩ : ByteArray) = some (-1) := by kernel_rfl
theorem begun18_ok {W0 nb} (h2 : 2 ≤ nb) (hT : Lib.Utf8Tabs 0 1 W0) : DCalls ⟨Tryz.prog, W0, nb⟩ 39 [] [] (.p (.bool true)) [] := by
  have c0 : DCalls ⟨Tryz.prog, W0, nb⟩ 75 [] [] (.p (.bool true)) [] := by
    refine dcalls_end Tryz.func75 rfl (by kernel_rfl) 2 Tryz.ntmps75 #[.tmp 0] rfl (Nat.le_of_ble_eq_true rfl) ?_
    simp
    refine CallGoal.same (begun17_ok h2 hT) ?_
    simp
    exact .kk
  have k0 := right_eval (W0 := W0) (nb := nb) h2 hT (by decide) u0
  have k1 := fault_eval (W0 := W0) (nb := nb) h2 hT (by decide) u1
  have k2 := fault_eval (W0 := W0) (nb := nb) h2 hT (by decide) u2
  have k3 := fault_eval (W0 := W0) (nb := nb) h2 hT (by decide) u3
  have k4 := fault_eval (W0 := W0) (nb := nb) h2 hT (by decide) u4
  have k5 := right_eval (W0 := W0) (nb := nb) h2 hT (by decide) u5
  refine dcalls_end Tryz.func39 rfl (by kernel_rfl) 24 Tryz.ntmps39 #[.tmp 0] rfl (Nat.le_of_ble_eq_true rfl) ?_
  simp
  refine CallGoal.same c0 ?_
  simp
  refine CallGoal.same k0 ?_
  simp
  refine CallGoal.same k1 ?_
  simp
  refine CallGoal.same k2 ?_
  simp
  refine CallGoal.same k3 ?_
  simp
  refine CallGoal.same k4 ?_
  simp
  refine CallGoal.same k5 ?_
  simp
  exact .kk
end La
end Go.Proofs.Dm

set_option linter.unusedSimpArgs false
set_option linter.unusedVariables false
set_option maxHeartbeats 4000000
namespace Go.Proofs.Dm
open Go Go.Proofs Go.Proofs.Dm.Sc
namespace Gr
/-! ### a text's lines, and the lines of its tokens and remarks -/
/-- Split at each newline. -/
def spl : List UInt8 → List (List UInt8)
  | [] => [[]]
  | c :: r => if c = 10 then [] :: spl r else match spl r with
    | h :: t => (c :: h) :: t
    | [] => [[c]]
theorem spl_ne : ∀ r : List UInt8, spl r ≠ []
  | [] => by simp [spl]
  | c :: r => by
    unfold spl
    split
    · simp
    · split <;> simp
theorem spl_len : ∀ r : List UInt8, (spl r).length = r.count 10 + 1
  | [] => rfl
  | c :: r => by
    have ih := spl_len r
    unfold spl
    split
    · rename_i h
      subst h
      simp [ih]
    · rename_i h
      have e : (c :: r).count 10 = r.count 10 := by rw [List.count_cons]; simp [h]
      rw [e]
      split
      · rename_i hd tl hr
        rw [hr] at ih
        simpa using ih
      · rename_i hr
        exact absurd hr (spl_ne r)
theorem spl_last : ∀ p : List UInt8, (10 : UInt8) ∉ p → spl p = [p]
  | [], h => rfl
  | c :: r, h => by
    simp only [List.mem_cons, not_or] at h
    unfold spl
    rw [if_neg (fun e => h.1 e.symm), spl_last r h.2]
theorem spl_app : ∀ (p r : List UInt8), (10 : UInt8) ∉ p → spl (p ++ 10 :: r) = p :: spl r
  | [], r, h => by
    show spl (10 :: r) = _
    rw [spl, if_pos rfl]
  | c :: p, r, h => by
    simp only [List.mem_cons, not_or] at h
    show spl (c :: (p ++ 10 :: r)) = _
    rw [spl, if_neg (fun e => h.1 e.symm), spl_app p r h.2]
theorem split_spl : ∀ (k : Nat) (s : List UInt8), Lib.count s [10] ≤ k → Lib.splitK [10] 0 k s = spl s
  | k, s, h => by
    have e := Lib.index_one s 10
    have hge := Lib.indexByte_ge s 10
    rcases Int.lt_or_le (Lib.indexByte s 10) 0 with q | q
    · have q1 : Lib.indexByte s 10 = -1 := by omega
      have hno : (10 : UInt8) ∉ s := by
        intro hm
        obtain ⟨i, hi⟩ := List.mem_iff_getElem?.1 hm
        exact Lib.indexByte_none q1 i hi
      rw [spl_last s hno]
      cases k with
      | zero => rfl
      | succ k =>
        unfold Lib.splitK
        rw [e, q1]; rfl
    · obtain ⟨i, hi⟩ := Int.eq_ofNat_of_zero_le q
      obtain ⟨h1, h2⟩ := Lib.indexByte_some hi
      have hc := Lib.count_hit (s := s) (sub := [10]) (i := i) (by simp) (by rw [e, hi])
      cases k with
      | zero => omega
      | succ k =>
        unfold Lib.splitK
        have hil : i < s.length := by
          rcases Nat.lt_or_ge i s.length with q | q
          · exact q
          · rw [List.getElem?_eq_none q] at h1; cases h1
        have hne : ((i : Int) == -1) = false := by rw [beq_eq_false_iff_ne]; omega
        rw [e, hi, hne]
        simp only [Bool.false_eq_true, if_false, Int.toNat_natCast, Nat.add_zero, List.length_singleton]
        rw [split_spl k _ (by simp only [List.length_singleton] at hc; omega)]
        have hs : s = s.take i ++ 10 :: s.drop (i + 1) := by
          have hd := List.drop_eq_getElem_cons hil
          have hg : s[i] = 10 := by
            rw [List.getElem?_eq_getElem hil] at h1
            injection h1
          rw [hg] at hd
          rw [← hd, List.take_append_drop]
        conv => rhs; rw [hs]
        rw [spl_app]
        intro hm
        obtain ⟨j, hj⟩ := List.mem_iff_getElem?.1 hm
        rw [List.getElem?_take] at hj
        split at hj
        · rename_i hji
          exact h2 j hji hj
        · cases hj
termination_by k s _ => k
theorem lines_spl (s : ByteArray) : (Fo.linesP s).map (·.data.toList) = spl s.data.toList := by
  unfold Fo.linesP
  rw [Lib.splitB_data]
  exact split_spl _ _ (Nat.le_refl _)
theorem map_data_inj : ∀ (a b : List ByteArray), a.map (·.data.toList) = b.map (·.data.toList) → a = b
  | [], [], h => rfl
  | [], _ :: _, h => by simp at h
  | _ :: _, [], h => by simp at h
  | x :: a, y :: b, h => by
    simp only [List.map_cons, List.cons.injEq] at h
    rw [ba_ext h.1, map_data_inj a b h.2]
theorem lines_len (s : ByteArray) : (Fo.linesP s).length = s.data.toList.count 10 + 1 := by
  have := congrArg List.length (lines_spl s)
  rw [List.length_map, spl_len] at this
  exact this
end Gr
open Fo (isO zeroT LS nlB spB pad trimR)
namespace Rf
/-! ### how a text is laid: what the reference computes, and that the program computes it -/
structure It where
  tok : Int
  line : Int
  note : ByteArray
  com : Bool
def tk (l : List Tok) (i : Nat) : Tok := (l[i]?).getD zeroT
theorem dropWhile_nil {α : Type} {p : α → Bool} : ∀ {r : List α}, r.dropWhile p = [] ↔ ∀ x ∈ r, p x = true
  | [] => by simp
  | c :: r => by
    rw [List.dropWhile_cons]
    split
    · rename_i h
      rw [dropWhile_nil]
      simp [h]
    · rename_i h
      constructor
      · intro q; cases q
      · intro q; exact absurd (q c (by simp)) h
theorem tw_all {α : Type} {p : α → Bool} : ∀ {r : List α} {x : α}, x ∈ r.takeWhile p → p x = true
  | [], x, h => by cases h
  | c :: r, x, h => by
    rw [List.takeWhile_cons] at h
    split at h
    · rename_i hc
      rcases List.mem_cons.1 h with rfl | h
      · exact hc
      · exact tw_all h
    · cases h
theorem tk_at {l : List Tok} {i : Nat} {t : Tok} (h : l[i]? = some t) : tk l i = t := by unfold tk; rw [h]; rfl
def comI (c : Com) : It := ⟨c.next, c.line, trimR c.text, true⟩
def tokI (i : Nat) (t : Tok) : It := ⟨i, t.line, ⟨#[]⟩, false⟩
def takeI (i : Nat) : List Com → List Com × List Com
  | [] => ([], [])
  | c :: cs => if c.next ≤ (i : Int) then (c :: (takeI i cs).1, (takeI i cs).2) else ([], c :: cs)
def itemsG : List Tok → Nat → List Com → List It
  | [], _, _ => []
  | t :: ts, i, cs => (takeI i cs).1.map comI ++ ((if t.kind != 6 && t.kind != 7 then [tokI i t] else []) ++ itemsG ts (i + 1) (takeI i cs).2)
/-- The last token but semicolons among so many. -/
def lastR (l : List Tok) : Nat → Tok
  | 0 => zeroT
  | n + 1 => if (tk l n).kind == 6 then lastR l n else tk l n
def atR (l : List Tok) : Nat → Nat
  | 0 => 0
  | n + 1 => if (tk l n).kind == 6 then atR l n else n
def onR (a : Tok) : Bool := a.kind != 6 && !isO a [123] && !isO a [125]
def shutR (l : List Tok) (x : It) : Bool := !x.com && isO (tk l x.tok.toNat) [125]
def tabsR (l : List Tok) (x : It) : Int :=
  let n := La.opens (l.take x.tok.toNat)
  let m := if shutR l x then n - 1 else n
  if decide (0 < x.tok) && !shutR l x then (if onR (tk l (x.tok.toNat - 1)) then m + 1 else m) else m
def breaksR (l : List Tok) (b x : It) : Bool :=
  if x.com then b.com || b.line != x.line
  else if b.com then true
  else if isO (lastR l x.tok.toNat) [123] then !isO (tk l x.tok.toNat) [125]
  else if (tk l (x.tok.toNat - 1)).kind == 6 then true else isO (tk l x.tok.toNat) [125]
def gapN (src : List ByteArray) : Nat → Nat → Bool
  | 0, _ => false
  | n + 1, k => if (trimR ((src[k]?).getD ⟨#[]⟩)).toList == [] then true else gapN src n (k + 1)
def gapR (l : List Tok) (src : List ByteArray) (b x : It) : Bool :=
  if isO (lastR l x.tok.toNat) [123] || shutR l x then false else gapN src (x.line - 1 - b.line).toNat b.line.toNat
def spaceR (l : List Tok) (tok : Nat) : Bool :=
  let at_ := atR l tok
  Fo.spaceT (if 1 ≤ at_ then tk l (at_ - 1) else zeroT) (tk l at_) (tk l tok)
def textR (l : List Tok) (x : It) : ByteArray := if x.com then x.note else (tk l x.tok.toNat).text
def sepR (l : List Tok) (src : List ByteArray) : Option It → It → ByteArray
  | none, x => pad (tabsR l x).toNat
  | some b, x => if breaksR l b x then (if gapR l src b x then nlB ++ nlB else nlB) ++ pad (tabsR l x).toNat
    else if x.com then spB else if spaceR l x.tok.toNat then spB else ⟨#[]⟩
def outR (l : List Tok) (src : List ByteArray) : Option It → List It → ByteArray → ByteArray
  | _, [], o => o
  | p, x :: xs, o => outR l src (some x) xs (o ++ sepR l src p x ++ textR l x)
def layR (l : List Tok) (cs : List Com) (src : List ByteArray) : ByteArray := outR l src none (itemsG l 0 cs) ⟨#[]⟩ ++ nlB
theorem spl_short : ∀ (r : List UInt8), ∀ p ∈ Gr.spl r, p.length ≤ r.length
  | [], p, h => by
    simp only [Gr.spl, List.mem_singleton] at h
    subst h; exact Nat.le_refl _
  | c :: r, p, h => by
    have ih := spl_short r
    unfold Gr.spl at h
    split at h
    · simp only [List.mem_cons] at h
      rcases h with rfl | h
      · exact Nat.zero_le _
      · have := ih p h; simp only [List.length_cons]; omega
    · split at h
      · rename_i hd tl hr
        simp only [List.mem_cons] at h
        rcases h with rfl | h
        · have := ih hd (by rw [hr]; simp)
          simp only [List.length_cons]; omega
        · have := ih p (by rw [hr]; simp [h])
          simp only [List.length_cons]; omega
      · simp only [List.mem_singleton] at h
        subst h; simp
theorem lines_short (s : ByteArray) : ∀ x ∈ Fo.linesP s, x.size ≤ s.size := by
  intro x hx
  have h1 : x.data.toList ∈ (Fo.linesP s).map (·.data.toList) := List.mem_map_of_mem (f := fun x : ByteArray => x.data.toList) hx
  rw [Gr.lines_spl] at h1
  have := spl_short _ _ h1
  rw [ba_size, ba_size]; exact this
def nines (s : ByteArray) : Nat := stop s (fun b => b == 9) 0
def goesL (l : List Tok) : Bool := match l.getLast? with
  | none => false
  | some t => onR t
def rightR (l : List Tok) (L : List ByteArray) (i : Nat) (ln : ByteArray) (at_ : Int) : Bool :=
  if !((trimR ln).toList == ln.toList) then false
  else if ln.toList.isEmpty then decide (0 < i) && !((L[i - 1]?).getD ⟨#[]⟩).toList.isEmpty && decide (i + 1 < L.length)
  else
    let o := La.opens (l.take (La.skipD at_ l 0))
    let b := (ln[nines ln]?).getD 0
    let n : Int := nines ln
    if b == 125 then n == o - 1 else !(b == 32) && (n == o || (goesL (l.take (La.skipD at_ l 0)) && n == o + 1))
def goR (l : List Tok) (L : List ByteArray) : List ByteArray → Nat → Int → Int
  | [], _, _ => -1
  | ln :: r, i, at_ => if rightR l L i ln at_ then goR l L r (i + 1) (at_ + ((ln.size : Int) + 1)) else (i : Int) + 1
def endsNl (s : ByteArray) : Bool := match s[s.size - 1]? with
  | some b => b == 10
  | none => false
end Rf
end Go.Proofs.Dm

set_option linter.unusedSimpArgs false
set_option linter.unusedVariables false
set_option maxHeartbeats 4000000
namespace Go.Proofs.Dm
open Go Go.Proofs Go.Proofs.Dm.Sc
open Fo (isO zeroT nlB trimR linesP)
namespace Rf
/-! ### where a text lies as it should: what the reference computes, and that the program computes it -/
def refF (s : ByteArray) : Int :=
  if decide (0 ≤ (scanP s).2.2) || !endsNl s then 0 else goR (scanP s).1 (linesP s).dropLast (linesP s).dropLast 0 0
theorem spl_snoc : ∀ p : List UInt8, Gr.spl (p ++ [10]) = Gr.spl p ++ [[]]
  | [] => rfl
  | c :: p => by
    have ih := spl_snoc p
    show Gr.spl (c :: (p ++ [10])) = _
    unfold Gr.spl
    split
    · rw [ih]; rfl
    · rw [ih]
      cases hp : Gr.spl p with
      | nil => exact absurd hp (Gr.spl_ne p)
      | cons h t => rfl
theorem ends_suffix (s : ByteArray) : Lib.hasSuffix s.data.toList [10] = endsNl s := by
  unfold endsNl
  rw [ba_get, ba_size, ← List.getLast?_eq_getElem?]
  generalize s.data.toList = r
  rcases List.eq_nil_or_concat r with rfl | ⟨q, b, rfl⟩
  · rfl
  · rw [List.concat_eq_append, List.getLast?_append, List.getLast?_singleton]
    simp only [Option.some_or]
    rw [Bool.eq_iff_iff, beq_iff_eq]
    unfold Lib.hasSuffix
    simp
    exact eq_comm
theorem chop_lines {s : ByteArray} (h : endsNl s = true) : (linesP s).dropLast = linesP (La.chop s) := by
  rw [← ends_suffix] at h
  apply Gr.map_data_inj
  rw [List.map_dropLast, Gr.lines_spl, Gr.lines_spl]
  unfold La.chop Lib.trimSuffix
  rw [if_pos h]
  have hs : s.data.toList.isSuffixOf [10] = s.data.toList.isSuffixOf [10] := rfl
  obtain ⟨p, hp⟩ : ∃ p, s.data.toList = p ++ [10] := by
    have h' : endsNl s = true := by rw [← ends_suffix]; exact h
    unfold endsNl at h'
    rw [ba_get, ba_size, ← List.getLast?_eq_getElem?] at h'
    generalize s.data.toList = r at h'
    rcases List.eq_nil_or_concat r with rfl | ⟨q, b, rfl⟩
    · simp at h'
    · rw [List.concat_eq_append, List.getLast?_append, List.getLast?_singleton] at h'
      simp only [Option.some_or, beq_iff_eq] at h'
      subst h'
      exact ⟨q, by rw [List.concat_eq_append]⟩
  rw [hp, spl_snoc]
  simp
theorem skip_from (a : Int) (l : List Tok) : ∀ n, n ≤ l.length → (∀ k t, k < n → l[k]? = some t → t.at_ < a) → La.skipD a (l.drop n) n = La.skipD a l 0
  | 0, h, g => rfl
  | n + 1, h, g => by
    rw [← skip_from a l n (by omega) (fun k t q => g k t (by omega))]
    have hlt : n < l.length := by omega
    rw [List.drop_eq_getElem_cons hlt]
    have e : La.skipD a (l[n] :: l.drop (n + 1)) n = if (l[n]).at_ < a then La.skipD a (l.drop (n + 1)) (n + 1) else n := rfl
    rw [e, if_pos (g n _ (by omega) (List.getElem?_eq_getElem hlt))]
theorem skip_all (a : Int) : ∀ (r : List Tok) (n : Nat), ∀ k t, n + k < La.skipD a r n → r[k]? = some t → t.at_ < a
  | [], n, k, t, h, g => by simp at g
  | u :: r, n, k, t, h, g => by
    unfold La.skipD at h
    split at h
    · rename_i q
      cases k with
      | zero => simp only [List.getElem?_cons_zero, Option.some.injEq] at g; subst g; exact q
      | succ k =>
        rw [List.getElem?_cons_succ] at g
        exact skip_all a r (n + 1) k t (by omega) g
    · omega
theorem skip_le6 (a : Int) : ∀ (r : List Tok) (n : Nat), La.skipD a r n ≤ n + r.length
  | [], n => Nat.le_refl _
  | t :: r, n => by
    unfold La.skipD
    split
    · have := skip_le6 a r (n + 1)
      simp only [List.length_cons]; omega
    · simp
theorem nines_tw (s : ByteArray) : nines s = (s.data.toList.takeWhile (fun b => b == 9)).length := by
  unfold nines
  rw [stop_tw, List.drop_zero, Nat.zero_add]
theorem tl_nines (s : ByteArray) : (La.tl9 s).data.toList = s.data.toList.drop (nines s) := by
  rw [nines_tw]
  show (Lib.trimLeftB s.data.toList 9) = _
  unfold Lib.trimLeftB
  generalize s.data.toList = r
  induction r with
  | nil => rfl
  | cons c r ih =>
    rw [List.takeWhile_cons, List.dropWhile_cons]
    split
    · rw [List.length_cons, List.drop_succ_cons]; exact ih
    · rfl
theorem nines_lt {s : ByteArray} (h1 : (trimR s).toList = s.toList) (h2 : s.toList.isEmpty = false) : nines s < s.size := by
  rw [nines_tw, ba_size]
  rw [Lib.toList_data, Lib.toList_data] at h1
  rw [Lib.toList_data] at h2
  have e : (trimR s).data.toList = Lib.trimRightS s.data.toList [32, 9] := rfl
  rw [e] at h1
  generalize s.data.toList = r at *
  rcases Nat.lt_or_ge (r.takeWhile (fun b => b == 9)).length r.length with q | q
  · exact q
  · exfalso
    have hall : ∀ b ∈ r, b = 9 := by
      have hp : r.takeWhile (fun b => b == 9) = r := (List.takeWhile_prefix _).eq_of_length_le q
      intro b hb
      rw [← hp] at hb
      have := tw_all (p := fun b : UInt8 => b == 9) hb
      simpa using this
    unfold Lib.trimRightS at h1
    have hn : r.reverse.dropWhile ([32, 9].contains ·) = [] := by
      rw [dropWhile_nil]
      intro b hb
      rw [hall b (List.mem_reverse.1 hb)]; decide
    rw [hn] at h1
    simp only [List.reverse_nil] at h1
    rw [← h1] at h2
    cases h2
theorem prefix_one (r : List UInt8) (b : UInt8) : Lib.hasPrefix r [b] = (r.head?.any (· == b)) := by
  cases r with
  | nil => rfl
  | cons c r =>
    show [b].isPrefixOf (c :: r) = (c == b)
    simp [List.isPrefixOf]
    rw [Bool.eq_iff_iff]
    simp only [beq_iff_eq]
    exact eq_comm
theorem bad_right {l : List Tok} {L : List ByteArray} {i : Nat} {ln : ByteArray} {at_ : Int} (hi : i < L.length) : La.badL L l i ln (La.skipD at_ l 0) = !rightR l L i ln at_ := by
  unfold La.badL rightR
  cases h1 : (trimR ln).toList == ln.toList with
  | false => rfl
  | true =>
    simp only [Bool.not_true, Bool.false_eq_true, if_false]
    have he : La.emptyB ln = ln.toList.isEmpty := rfl
    rw [he]
    cases h2 : ln.toList.isEmpty with
    | true =>
      simp only [if_true]
      have e1 : (i == 0) = !decide (0 < i) := by
        rw [Bool.eq_iff_iff]; simp
      have e2 : (i + 1 == L.length) = !decide (i + 1 < L.length) := by
        rw [Bool.eq_iff_iff]; simp; omega
      have e3 : La.emptyB ((L[i - 1]?).getD ⟨#[]⟩) = ((L[i - 1]?).getD ⟨#[]⟩).toList.isEmpty := rfl
      rw [e1, e2, e3]
      cases decide (0 < i) <;> cases decide (i + 1 < L.length) <;> cases ((L[i - 1]?).getD ⟨#[]⟩).toList.isEmpty <;> rfl
    | false =>
      simp only [Bool.false_eq_true, if_false]
      have hlt := nines_lt (beq_iff_eq.1 h1) h2
      have htl := tl_nines ln
      have hsz : ((ln.size : Int) - ((La.tl9 ln).size : Int)) = (nines ln : Int) := by
        rw [ba_size (La.tl9 ln), htl, List.length_drop, ← ba_size]; omega
      have hhd : (La.tl9 ln).data.toList.head? = ln[nines ln]? := by
        rw [htl, List.head?_drop, ba_get]
      rw [prefix_one, prefix_one, hhd, hsz, getElem?_pos ln (nines ln) hlt]
      simp only [Option.any_some, Option.getD_some]
      generalize ln[nines ln] = b
      unfold La.mayS La.tabsS goesL
      by_cases q : b = 125
      · subst q
        simp
      · have q' : (b == 125) = false := by simpa using q
        rw [q']
        simp only [Bool.false_eq_true, if_false]
        cases hg : (l.take (La.skipD at_ l 0)).getLast? with
        | none =>
          simp only
          cases (b == 32) <;> simp
        | some t =>
          simp only
          unfold onR
          cases (b == 32) <;> simp
theorem go_right {l : List Tok} {L : List ByteArray} : ∀ (r : List ByteArray) (i n : Nat) (at_ : Int), L.drop i = r → n ≤ l.length → (∀ k t, k < n → l[k]? = some t → t.at_ < at_) → La.goF L l r i at_ n = goR l L r i at_
  | [], i, n, at_, h, hn, g => rfl
  | ln :: r, i, n, at_, h, hn, g => by
    have hi : i < L.length := by
      have := congrArg List.length h
      simp only [List.length_drop, List.length_cons] at this
      omega
    unfold La.goF goR
    rw [skip_from at_ l n hn g, bad_right hi]
    have hd : L.drop (i + 1) = r := by rw [← List.tail_drop, h, List.tail_cons]
    have hle := skip_le6 at_ l 0
    cases hr : rightR l L i ln at_ with
    | false => rfl
    | true =>
      simp only [Bool.not_true, Bool.false_eq_true, if_false, if_true]
      refine go_right r (i + 1) _ _ hd (by omega) (fun k t q e => ?_)
      have := skip_all at_ l 0 k t (by omega) e
      omega
theorem fault_ref (s : ByteArray) : La.faultS s = refF s := by
  unfold La.faultS refF
  rw [ends_suffix]
  cases h1 : decide (0 ≤ (scanP s).2.2) with
  | true => rfl
  | false =>
    cases h2 : endsNl s with
    | false => rfl
    | true =>
      simp only [Bool.or_self, Bool.not_true, Bool.false_eq_true, if_false]
      rw [chop_lines h2]
      exact go_right _ 0 0 0 rfl (Nat.zero_le _) (fun k t q => by omega)
end Rf
end Go.Proofs.Dm

set_option linter.unusedSimpArgs false
namespace Go.Proofs.Tryz
open Go Go.Proofs Go.Proofs.Dm
@[simp] theorem tsz_75 : tsz prog 75 = some 1 := by kernel_rfl
@[simp] theorem tagg_75 : tagg prog 75 = some false := by kernel_rfl
@[simp] theorem tcells_75 : tcells prog 75 = [75] := by kernel_rfl
@[simp] theorem tslice_75 : tslice prog 75 = some 78 := by kernel_rfl
@[simp] theorem tkind_75 : tkind prog 75 = some 3 := by kernel_rfl
@[simp] theorem tint_75 : tint prog 75 = none := by kernel_rfl
@[simp] theorem tbytes_75 : tbytes prog 75 = some 24 := by kernel_rfl
@[simp] theorem tplaces_75 : tplaces prog 75 = none := by kernel_rfl
@[simp] theorem tzero_75 : tzero prog 75 = some (Value.slice none 0 0) := by kernel_rfl
@[simp] theorem tptr_75 : tptr prog 75 = false := by kernel_rfl
@[simp] theorem tflat_75 : tflat prog 75 = none := by kernel_rfl
@[simp] theorem tbuild_75 : tbuild prog 75 = none := by kernel_rfl
@[simp] theorem tsz_78 : tsz prog 78 = some 4 := by kernel_rfl
@[simp] theorem tagg_78 : tagg prog 78 = some true := by kernel_rfl
@[simp] theorem tcells_78 : tcells prog 78 = [3, 3, 9, 4] := by kernel_rfl
@[simp] theorem tslice_78 : tslice prog 78 = none := by kernel_rfl
@[simp] theorem tkind_78 : tkind prog 78 = some 4 := by kernel_rfl
@[simp] theorem tint_78 : tint prog 78 = none := by kernel_rfl
@[simp] theorem tbytes_78 : tbytes prog 78 = some 40 := by kernel_rfl
@[simp] theorem tplaces_78 : tplaces prog 78 = some [(0, 1), (1, 1), (2, 1), (3, 1)] := by kernel_rfl
@[simp] theorem tzero_78 : tzero prog 78 = some (Value.agg #[Value.int IntKind.i64 0, Value.int IntKind.i64 0, Value.string ⟨#[]⟩, Value.bool false]) := by kernel_rfl
@[simp] theorem tptr_78 : tptr prog 78 = false := by kernel_rfl
@[simp] theorem tflat_78 : tflat prog 78 = some [2, 2, 0, 1] := by kernel_rfl
@[simp] theorem tbuild_78 : tbuild prog 78 = none := by kernel_rfl
@[simp] theorem tfield_78_0 : tfield prog 78 0 = some (0, 1, false) := by kernel_rfl
@[simp] theorem tfield_78_1 : tfield prog 78 1 = some (1, 1, false) := by kernel_rfl
@[simp] theorem tfield_78_2 : tfield prog 78 2 = some (2, 1, false) := by kernel_rfl
@[simp] theorem tfield_78_3 : tfield prog 78 3 = some (3, 1, false) := by kernel_rfl
@[simp] theorem zc_75 : ((Value.slice none 0 0) : Value).cells.size = 1 := by kernel_rfl
@[simp] theorem zc_78 : ((Value.agg #[Value.int IntKind.i64 0, Value.int IntKind.i64 0, Value.string ⟨#[]⟩, Value.bool false]) : Value).cells.size = 4 := by kernel_rfl
end Go.Proofs.Tryz

set_option linter.unusedSimpArgs false
set_option linter.unusedVariables false
set_option maxHeartbeats 8000000
set_option maxRecDepth 100000
namespace Go.Proofs.Dm
open Go Go.Proofs Go.Proofs.Tryz Go.Proofs.Dm.Sc
open Fo (isO zeroT nlB spB pad trimR linesP)
namespace Rf
attribute [local simp] encT encC takes handsOn isTmp Op.operands Call.operands
/-! ### recensionref17: is, trim, Lines, pad, last -/
def encI (x : It) : List PD := [.int .i64 x.tok, .int .i64 x.line, .str x.note, .bool x.com]
theorem ris_ok {W0 nb t} {x : ByteArray} : DCalls ⟨Tryz.prog, W0, nb⟩ 99 [.agg ((encT t).map .p), .p (.str x)] [] (.p (.bool (isO t x.toList))) [] := by
  refine dcalls_end Tryz.func99 rfl (by kernel_rfl) 14 Tryz.ntmps99 #[.tmp 4] rfl (Nat.le_of_ble_eq_true rfl) ?_
  simp
  cases h : t.kind == 4 with
  | true =>
    simp [isO, h]
    exact .keep (by simp) (.refl _) (by simp) (by simp) (by simp) (by simp)
  | false =>
    simp [isO, h]
    exact .keep (by simp) (.refl _) (by simp) (by simp) (by simp) (by simp)
theorem trimRight_snoc (l cs : List UInt8) (b : UInt8) : Lib.trimRightS (l ++ [b]) cs = if cs.contains b then Lib.trimRightS l cs else l ++ [b] := by
  simp only [Lib.trimRightS, List.reverse_append, List.reverse_cons, List.reverse_nil, List.nil_append, List.singleton_append, List.dropWhile_cons]
  split <;> simp
theorem rtrim_ok {W0 nb s} (hs : s.size < 1099511627776) : DCalls ⟨Tryz.prog, W0, nb⟩ 98 [.p (.str s)] [] (.p (.str (trimR s))) [] := by
  obtain ⟨R, hR⟩ : ∃ R, trimR s = R := ⟨_, rfl⟩
  rw [hR]
  refine dcalls_end Tryz.func98 rfl (by kernel_rfl) 28 Tryz.ntmps98 #[.tmp 2] rfl (Nat.le_of_ble_eq_true rfl) ?_
  simp
  refine ⟨fun m st => ∃ t, trimR t = R ∧ m = t.size ∧ t.size < 1099511627776 ∧ st.hp = [] ∧ st.tm 0 = .p (.str t), s.size, .here ⟨s, hR, rfl, hs, by simp, by simp⟩, ?_⟩
  rintro m ⟨tm, hp⟩ ⟨t, h, rfl, ht, h0, g0⟩
  simp only at h0 g0
  subst h0
  rcases Nat.eq_zero_or_pos t.size with hz | hz
  · have ht0 : t = ⟨#[]⟩ := by
      apply ba_ext
      have : t.data.toList.length = 0 := by rw [← ba_size]; exact hz
      exact List.eq_nil_of_length_eq_zero this
    have hR0 : R = t := by rw [← h, ht0]; rfl
    simp [g0, hz]
    rw [hR0]
    exact .keep (by simp [g0]) (.refl _) (by simp) (by simp [g0]) (by simp [g0]) (by simp [g0])
  · have hb : t[t.size - 1]? = some t[t.size - 1] := by simp
    have hw := w64_id (n := (t.size : Int) - 1) (by omega) (by omega)
    simp only [w64] at hw
    have hk : ((t.size : Int) - 1).toNat = t.size - 1 := by omega
    have hsp : t.data.toList = (t.extract 0 (t.size - 1)).data.toList ++ [t[t.size - 1]] := by
      have hd := drop_next t hb
      rw [ext_list, List.drop_zero, Nat.sub_zero]
      have := List.take_append_drop (t.size - 1) t.data.toList
      rw [hd.2, List.drop_eq_nil_of_le (by rw [← ba_size]; omega)] at this
      exact this.symm
    have h1 : (1 : Int) ≤ t.size := by omega
    have h2 : (t.size : Int) - 1 < t.size := by omega
    have hlt : t.size - 1 < t.size := by omega
    have h4 : (t.size : Int) - 1 ≤ t.size := by omega
    simp [g0, hz, hw, hk, h1, h2, hlt]
    generalize hb' : t[t.size - 1] = b at *
    have e32 : ((b.toNat : Int) == 32) = (b == 32) := by
      rw [Bool.eq_iff_iff]; simp only [beq_iff_eq]
      constructor
      · intro e; exact UInt8.toNat_inj.1 (by simp; omega)
      · rintro rfl; rfl
    have e9 : ((b.toNat : Int) == 9) = (b == 9) := by
      rw [Bool.eq_iff_iff]; simp only [beq_iff_eq]
      constructor
      · intro e; exact UInt8.toNat_inj.1 (by simp; omega)
      · rintro rfl; rfl
    have hstep : ([32, 9] : List UInt8).contains b = true → trimR (t.extract 0 (t.size - 1)) = R := by
      intro hc
      rw [← h]
      simp only [trimR]
      rw [hsp, trimRight_snoc, if_pos hc]
    have hstop : ([32, 9] : List UInt8).contains b = false → t = R := by
      intro hc
      rw [← h]
      apply ba_ext
      simp only [trimR]
      rw [hsp, trimRight_snoc, hc]
      simp
    rw [e32]
    cases q : b == 32 with
    | true =>
      simp [g0, hw, hk, h1, h4]
      exact .same (t.size - 1) (by omega) ⟨t.extract 0 (t.size - 1), hstep (by simp at q; subst q; rfl), by simp, by simp; omega, by simp, by simp⟩
    | false =>
      simp [g0, hw, hk, h1, h2, hlt, hb']
      rw [e9]
      cases q9 : b == 9 with
      | true =>
        simp [g0, hw, hk, h1, h4]
        exact .same (t.size - 1) (by omega) ⟨t.extract 0 (t.size - 1), hstep (by simp at q9; subst q9; rfl), by simp, by simp; omega, by simp, by simp⟩
      | false =>
        have hR2 := hstop (by simp at q q9 ⊢; exact ⟨q, q9⟩)
        subst hR2
        simp [g0]
        exact .keep (by simp) (.refl _) (by simp) (by simp) (by simp) (by simp)
/-- The lines from a byte on. -/
def linesG (s : ByteArray) : Nat → Nat → Nat → List ByteArray
  | 0, i, a => [s.extract a s.size]
  | n + 1, i, a => match s[i]? with
    | some b => if (b.toNat : Int) == 10 then s.extract a i :: linesG s n (i + 1) (i + 1) else linesG s n (i + 1) a
    | none => [s.extract a s.size]
theorem drop_cut (s : ByteArray) {a i : Nat} (h : a ≤ i) : s.data.toList.drop a = (s.data.toList.drop a).take (i - a) ++ s.data.toList.drop i := by
  have := (List.take_append_drop (i - a) (s.data.toList.drop a)).symm
  rwa [List.drop_drop, show a + (i - a) = i by omega] at this
theorem linesG_spl (s : ByteArray) : ∀ (n i a : Nat), s.size = i + n → a ≤ i → (10 : UInt8) ∉ (s.data.toList.drop a).take (i - a) → (linesG s n i a).map (·.data.toList) = Gr.spl (s.data.toList.drop a)
  | 0, i, a, hn, ha, hno => by
    have e := drop_cut s ha
    have e2 : s.data.toList.drop i = [] := List.drop_eq_nil_of_le (by rw [← ba_size]; omega)
    rw [e2, List.append_nil] at e
    rw [← e] at hno
    rw [Gr.spl_last _ hno]
    show [(s.extract a s.size).data.toList] = _
    rw [ext_list, List.take_of_length_le]
    rw [List.length_drop, ← ba_size]; omega
  | n + 1, i, a, hn, ha, hno => by
    have hlt : i < s.size := by omega
    have hg : s[i]? = some s[i] := by simp [hlt]
    have e := drop_cut s ha
    obtain ⟨_, hd⟩ := drop_next s hg
    unfold linesG
    rw [hg]
    simp only
    split
    · rename_i hc
      have h10 : s[i] = 10 := by
        rw [beq_iff_eq] at hc
        apply UInt8.toNat_inj.1
        show (s[i]).toNat = 10
        omega
      rw [h10] at hd
      rw [List.map_cons, linesG_spl s n (i + 1) (i + 1) (by omega) (Nat.le_refl _) (by simp), ext_list]
      conv => rhs; rw [e, hd]
      rw [Gr.spl_app _ _ hno]
    · rename_i hc
      have h10 : s[i] ≠ 10 := by
        intro q; rw [q] at hc; exact hc rfl
      refine linesG_spl s n (i + 1) a (by omega) (by omega) ?_
      have e3 : i + 1 - a = (i - a) + 1 := by omega
      rw [e3, List.take_add_one, List.mem_append]
      rintro (q | q)
      · exact hno q
      · rw [List.getElem?_drop, show a + (i - a) = i by omega, ← ba_get, hg] at q
        simp at q
        exact h10 q.symm
theorem linesG_eq (s : ByteArray) : linesG s s.size 0 0 = linesP s := by
  apply Gr.map_data_inj
  rw [linesG_spl s s.size 0 0 (by omega) (Nat.le_refl _) (by simp), List.drop_zero, Gr.lines_spl]
/-- Ahead of a byte. -/
def lnI (s : ByteArray) (m : Nat) (st : St) : Prop := ∃ (i a : Nat) (L : List ByteArray), m = s.size - i ∧ i ≤ s.size ∧ a ≤ i ∧ L.length ≤ i ∧ L ++ linesG s (s.size - i) i a = linesP s ∧
  st.hp = [] ∧ st.tm 0 = .p (.str s) ∧ st.tm 3 = .own 9 1 (rowsS L) ∧ st.tm 4 = i64 (a : Nat) ∧ st.tm 5 = i64 (i : Nat)
theorem rlines_ok {W0 nb s} (hs : s.size < 100000000) : DCalls ⟨Tryz.prog, W0, nb⟩ 43 [.p (.str s)] [] (.p (.sl 1 (rowsS (linesP s)))) [] := by
  refine dcalls_end Tryz.func43 rfl (by kernel_rfl) 31 Tryz.ntmps43 #[.tmp 2] rfl (Nat.le_of_ble_eq_true rfl) ?_
  simp
  refine ⟨lnI s, s.size, .here ⟨0, 0, [], by simp, by simp, by simp, by simp, by simp [linesG_eq], by simp, by simp, by simp [rowsS], by simp, by simp⟩, ?_⟩
  rintro m ⟨tm, hp⟩ ⟨i, a, L, rfl, hi, ha, hL, h, h0, g0, g3, g4, g5⟩
  simp only at h0 g0 g3 g4 g5
  subst h0
  have hRl : (rowsS L).length = L.length := by simp [rowsS]
  have ha1 : (L.length + 1) * 16 ≤ 140737488355328 := by omega
  have ha2 : L.length ≤ 9223372036854775806 := by omega
  have hap : ∀ x : ByteArray, rowsS (L ++ [x]) = rowsS L ++ [[.str x]] := fun x => by simp [rowsS]
  simp [g0, g5]
  rcases Nat.lt_or_ge i s.size with hlt | hge
  · have hw := w64_id (n := (i : Int) + 1) (by omega) (by omega)
    simp only [w64] at hw
    have hg : s[i]? = some s[i] := by simp [hlt]
    have hn : s.size - i = (s.size - (i + 1)) + 1 := by omega
    rw [hn] at h
    unfold linesG at h
    rw [hg] at h
    simp only at h
    have hai : (a : Int) ≤ i := by omega
    have his : (i : Int) ≤ s.size := by omega
    simp [hlt, g0, g5]
    cases hq : ((s[i]).toNat : Int) == 10 with
    | true =>
      rw [hq, if_pos rfl] at h
      have h2 : (L ++ [s.extract a i]) ++ linesG s (s.size - (i + 1)) (i + 1) (i + 1) = linesP s := by rw [← h]; simp
      have hr := hap (s.extract a i)
      generalize rowsS L = RL at *
      simp [g0, g3, g4, g5, hw, hRl, ha1, ha2, hai, his, ha, hi]
      exact .same (s.size - (i + 1)) (by omega) ⟨i + 1, i + 1, L ++ [s.extract a i], rfl, by omega, by omega, by simp; omega, h2, by simp, by simp [g0], by simp [hr], by simp [hw], by simp [hw]⟩
    | false =>
      rw [hq] at h
      simp only [Bool.false_eq_true, if_false] at h
      simp [g5, hw]
      exact .same (s.size - (i + 1)) (by omega) ⟨i + 1, a, L, rfl, by omega, by omega, by omega, h, by simp, by simp [g0], by simp [g3], by simp [g4], by simp [hw]⟩
  · have hil : i = s.size := by omega
    subst hil
    rw [Nat.sub_self] at h
    have h2 : linesP s = L ++ [s.extract a s.size] := h.symm
    have hr := hap (s.extract a s.size)
    rw [h2, hr]
    have has : (a : Int) ≤ s.size := by omega
    generalize rowsS L = RL at *
    simp [g0, g3, g4, hRl, ha1, ha2, has, ha]
    exact .keep (by simp; rfl) (.fr _ _ _) (by simp) (by simp) (by simp) (by simp)
theorem pad_next (n : Nat) : pad n ++ ⟨#[9]⟩ = pad (n + 1) := by
  apply ba_ext
  simp only [pad, ByteArray.data_append, Array.toList_append]
  rw [List.replicate_succ']
theorem pad_len (n : Nat) : (pad n).size = n := by
  rw [ba_size]; simp [pad]
theorem rpad_ok {W0 nb} {k : Int} (hk : k < 100000000) : DCalls ⟨Tryz.prog, W0, nb⟩ 60 [i64 k] [] (.p (.str (pad k.toNat))) [] := by
  obtain ⟨T, hT⟩ : ∃ T, k.toNat = T := ⟨_, rfl⟩
  rw [hT]
  refine dcalls_end Tryz.func60 rfl (by kernel_rfl) 13 Tryz.ntmps60 #[.tmp 2] rfl (Nat.le_of_ble_eq_true rfl) ?_
  simp
  refine ⟨fun m st => ∃ i : Nat, m = T - i ∧ i ≤ T ∧ st.hp = [] ∧ st.tm 0 = i64 k ∧ st.tm 3 = .p (.str (pad i)) ∧ st.tm 4 = i64 (i : Nat), T, .here ⟨0, by simp, by simp, by simp, by simp, by simp [pad], by simp⟩, ?_⟩
  rintro m ⟨tm, hp⟩ ⟨i, rfl, hi, h0, g0, g3, g4⟩
  simp only at h0 g0 g3 g4
  subst h0
  simp [g0, g4]
  by_cases hlt : (i : Int) < k
  · have hw := w64_id (n := (i : Int) + 1) (by omega) (by omega)
    simp only [w64] at hw
    have hz := pad_len i
    have hn := pad_next i
    have s9 : (⟨#[9]⟩ : ByteArray).size = 1 := rfl
    have hz2 : ¬ (9223372036854775807 : Int) < ((pad i).size : Int) + (((⟨#[9]⟩ : ByteArray).size : Nat) : Int) := by rw [hz, s9]; omega
    generalize hP : pad i = Q at *
    simp [hlt, g3, g4, hw, hz2, hn]
    exact .same (T - (i + 1)) (by omega) ⟨i + 1, rfl, by omega, by simp, by simp [g0], by simp [hn], by simp [hw]⟩
  · have : i = T := by omega
    subst this
    simp [hlt, g3]
    exact .keep (by simp) (.refl _) (by simp) (by simp) (by simp) (by simp)
/-- Going back. -/
def laI (l : List Tok) (x : It) (R : Tok) (m : Nat) (st : St) : Prop := m ≤ x.tok.toNat ∧ lastR l m = R ∧
  st.hp = [(encI x).map .p, (encT zeroT).map .p] ∧ st.tm 0 = .p (.sl 5 (l.map encT)) ∧ st.tm 3 = .ref 0 0 ∧ st.tm 4 = .ref 1 0 ∧ st.tm 5 = i64 ((m : Int) - 1)
theorem rlast_ok {W0 nb l} {x : It} (hl : l.length < 100000000) (h0 : 0 ≤ x.tok) (h1 : x.tok ≤ l.length) : DCalls ⟨Tryz.prog, W0, nb⟩ 100 [.p (.sl 5 (l.map encT)), .agg ((encI x).map .p)] [] (.agg ((encT (lastR l x.tok.toNat)).map .p)) [] := by
  obtain ⟨R, hR⟩ : ∃ R, lastR l x.tok.toNat = R := ⟨_, rfl⟩
  rw [hR]
  have hw0 := w64_id (n := x.tok - 1) (by omega) (by omega)
  simp only [w64] at hw0
  refine dcalls_end Tryz.func100 rfl (by kernel_rfl) 24 Tryz.ntmps100 #[.cell 4 42] rfl (Nat.le_of_ble_eq_true rfl) ?_
  simp [encI]
  refine ⟨laI l x R, x.tok.toNat, .here ⟨Nat.le_refl _, hR, by simp [encI, zeroT], by simp, by simp, by simp, by simp [hw0]; omega⟩, ?_⟩
  rintro m ⟨tm, hp⟩ ⟨hm, h, e0, g0, g3, g4, g5⟩
  simp only at e0 g0 g3 g4 g5
  subst e0
  cases m with
  | zero =>
    have hR0 : R = zeroT := h.symm
    subst hR0
    have hneg : ¬ (0 : Int) ≤ ((0 : Nat) : Int) - 1 := by omega
    simp [g4, g5, hneg]
    exact .keep (by simp [zeroT, g4]) (.refl _) (by simp) (by simp [zeroT, g4]) (by simp [zeroT, g4]) (by simp [zeroT, g4])
  | succ m =>
    have hpos : (0 : Int) ≤ ((m + 1 : Nat) : Int) - 1 := by omega
    have hc : ((m + 1 : Nat) : Int) - 1 = (m : Int) := by omega
    have hlt : m < l.length := by omega
    have hw := w64_id (n := (m : Int) - 1) (by omega) (by omega)
    simp only [w64] at hw
    unfold lastR at h
    obtain ⟨t, ht⟩ : ∃ t, l[m]? = some t := ⟨_, List.getElem?_eq_getElem hlt⟩
    have hti : l[m] = t := by
      have := List.getElem?_eq_getElem hlt
      rw [ht] at this
      injection this with this
      exact this.symm
    rw [tk_at ht] at h
    rw [hc] at g5
    have hq2 : (t.kind != 6) = !(t.kind == 6) := rfl
    simp [g0, g5, hlt, ht, hti, hq2]
    cases hq : t.kind == 6 with
    | true =>
      rw [hq, if_pos rfl] at h
      simp [g5, hw]
      exact .same m (by omega) ⟨by omega, h, by simp, by simp [g0], by simp [g3], by simp [g4], by simp [hw]⟩
    | false =>
      rw [hq] at h
      simp only [Bool.false_eq_true, if_false] at h
      subst h
      simp [g0, g4, g5, hlt, ht, hti]
      exact .keep (by simp [g4]) (.refl _) (by simp) (by simp [g4]) (by simp [g4]) (by simp [g4])
end Rf
end Go.Proofs.Dm

set_option linter.unusedSimpArgs false
set_option linter.unusedVariables false
set_option maxHeartbeats 16000000
set_option maxRecDepth 100000
namespace Go.Proofs.Dm
open Go Go.Proofs Go.Proofs.Tryz Go.Proofs.Dm.Sc
open Fo (isO zeroT nlB spB pad trimR linesP)
namespace Rf
attribute [local simp] encT encC takes handsOn isTmp Op.operands Call.operands
/-! ### recensionref17: right, Fault -/
theorem b123' : (⟨#[123]⟩ : ByteArray).toList = [123] := by rw [Lib.toList_data]
theorem b125' : (⟨#[125]⟩ : ByteArray).toList = [125] := by rw [Lib.toList_data]
theorem get_tok6 {l : List Tok} {i : Nat} (h : i < l.length) : ∃ t, l[i]? = some t ∧ l[i] = t := ⟨l[i], List.getElem?_eq_getElem h, rfl⟩
theorem is_one6 {t : Tok} (h : isO t [123] = true) : isO t [125] = false := by
  unfold isO at h ⊢
  rw [Bool.and_eq_true, beq_iff_eq, beq_iff_eq] at h
  rw [h.2, Bool.and_eq_false_iff]
  right; decide
/-- The leading tabs. -/
def rnI (l : List Tok) (L : List ByteArray) (i : Nat) (at_ : Int) (ln : ByteArray) (m : Nat) (st : St) : Prop := ∃ n : Nat, m = ln.size - n ∧ n ≤ ln.size ∧ stop ln (fun b => b == 9) n = nines ln ∧
  st.hp = [] ∧ st.tm 0 = .p (.sl 5 (l.map encT)) ∧ st.tm 3 = i64 at_ ∧ st.tm 9 = .p (.str ln) ∧ st.tm 10 = i64 (n : Nat)
def rnJ (l : List Tok) (at_ : Int) (ln : ByteArray) (st : St) : Prop := st.hp = [] ∧ st.tm 0 = .p (.sl 5 (l.map encT)) ∧ st.tm 3 = i64 at_ ∧ st.tm 9 = .p (.str ln) ∧ st.tm 10 = i64 (nines ln : Nat)
/-- The tokens ahead. -/
def roI (l : List Tok) (at_ : Int) (ln : ByteArray) (N m : Nat) (st : St) : Prop := ∃ k : Nat, m = l.length - k ∧ k ≤ l.length ∧ La.skipD at_ (l.drop k) k = N ∧
  st.hp = [] ∧ st.tm 0 = .p (.sl 5 (l.map encT)) ∧ st.tm 3 = i64 at_ ∧ st.tm 9 = .p (.str ln) ∧ st.tm 10 = i64 (nines ln : Nat) ∧ st.tm 11 = i64 (La.opens (l.take k)) ∧ st.tm 12 = .p (.bool (goesL (l.take k))) ∧ st.tm 13 = i64 (k : Nat)
def roJ (l : List Tok) (ln : ByteArray) (N : Nat) (st : St) : Prop := N ≤ l.length ∧ st.hp = [] ∧ st.tm 9 = .p (.str ln) ∧ st.tm 10 = i64 (nines ln : Nat) ∧ st.tm 11 = i64 (La.opens (l.take N)) ∧ st.tm 12 = .p (.bool (goesL (l.take N)))
theorem goes_next {l : List Tok} {k : Nat} {t : Tok} (h : l[k]? = some t) : goesL (l.take (k + 1)) = onR t := by
  unfold goesL
  rw [List.take_add_one, h, List.getLast?_append]
  rfl
theorem rright_ok {W0 nb l L} {i : Nat} {ln : ByteArray} {at_ : Int} (hl : l.length < 100000000) (hL : L.length < 100000000) (hi : L[i]? = some ln) (hz : ln.size < 100000000) :
    DCalls ⟨Tryz.prog, W0, nb⟩ 76 [.p (.sl 5 (l.map encT)), .p (.sl 1 (rowsS L)), i64 (i : Nat), i64 at_] [] (.p (.bool (rightR l L i ln at_))) [] := by
  have hil : i < L.length := by
    rcases Nat.lt_or_ge i L.length with q | q
    · exact q
    · rw [List.getElem?_eq_none q] at hi; cases hi
  have hti : L[i] = ln := by
    have := List.getElem?_eq_getElem hil
    rw [hi] at this
    injection this with this
    exact this.symm
  have d := rtrim_ok (W0 := W0) (nb := nb) (s := ln) (by omega)
  obtain ⟨R, hR⟩ : ∃ R, rightR l L i ln at_ = R := ⟨_, rfl⟩
  rw [hR]
  unfold rightR at hR
  refine dcalls_end Tryz.func76 rfl (by kernel_rfl) 130 Tryz.ntmps76 #[.tmp 8] rfl (Nat.le_of_ble_eq_true rfl) ?_
  simp [hil, hi, hti, rowsS]
  refine CallGoal.same d ?_
  cases h1 : (trimR ln).toList == ln.toList with
  | false =>
    have hne : ((trimR ln).toList != ln.toList) = true := by simp [bne, h1]
    simp [h1] at hR
    simp [h1, hne]
    exact .keep (by simp [hR]) (.refl _) (by simp) (by simp [hR]) (by simp [hR]) (by simp [hR])
  | true =>
  have hne : ((trimR ln).toList != ln.toList) = false := by simp [bne, h1]
  simp only [h1, Bool.not_true, Bool.false_eq_true, if_false] at hR
  simp [h1, hne]
  cases h2 : ln.toList.isEmpty with
  | true =>
    simp only [h2, if_true] at hR
    rcases Nat.eq_zero_or_pos i with hz0 | hp0
    · subst hz0
      simp at hR
      simp [h2]
      exact .keep (by simp [hR]) (.refl _) (by simp) (by simp [hR]) (by simp [hR]) (by simp [hR])
    · obtain ⟨j, rfl⟩ : ∃ j, i = j + 1 := ⟨i - 1, by omega⟩
      have hjl : j < L.length := by omega
      obtain ⟨pv, hpv, hpj⟩ : ∃ pv, L[j]? = some pv ∧ L[j] = pv := ⟨L[j], List.getElem?_eq_getElem hjl, rfl⟩
      have hw1 := w64_id (n := (j : Int)) (by omega) (by omega)
      have hw2 := w64_id (n := (j : Int) + 1 + 1) (by omega) (by omega)
      simp only [w64] at hw1 hw2
      have hc : ((j + 1 : Nat) : Int) - 1 = (j : Int) := by omega
      have hpos : (0 : Int) < ((j + 1 : Nat) : Int) := by omega
      have hpos2 : (0 : Int) < (j : Int) + 1 := by omega
      have hdj : decide (0 < j + 1) = true := by simp
      rw [Nat.add_sub_cancel, hpv, hdj] at hR
      simp only [Option.getD_some, Bool.true_and] at hR
      cases h3 : pv.toList.isEmpty with
      | true =>
        simp [h3] at hR
        simp [h2, h3, hc, hw1, hjl, hpv, hpj, rowsS, hpos2]
        exact .keep (by simp [hR, h3]) (.refl _) (by simp) (by simp [hR, h3]) (by simp [hR, h3]) (by simp [hR, h3])
      | false =>
        simp only [h3, Bool.not_false, Bool.true_and] at hR
        simp [h2, h3, hc, hw1, hw2, hjl, hpv, hpj, rowsS, hpos2]
        have hR' : decide ((j : Int) + 1 + 1 < (L.length : Int)) = R := by
          rw [← hR]
          congr 1
          exact propext ⟨fun q => by omega, fun q => by omega⟩
        exact .keep (by simp [hR', h3]) (.refl _) (by simp) (by simp [hR', h3]) (by simp [hR', h3]) (by simp [hR', h3])
  | false =>
  simp only [h2, Bool.false_eq_true, if_false] at hR
  simp [h2]
  have hlt := nines_lt (beq_iff_eq.1 h1) h2
  refine LoopGoal.cut (rnJ l at_ ln) ?_ ?_
  · refine ⟨rnI l L i at_ ln, ln.size, .here ⟨0, by simp, by simp, rfl, by simp, by simp, by simp, by simp, by simp⟩, ?_⟩
    rintro m ⟨tm, hp⟩ ⟨n, rfl, hn, hs, e, e0, e3, e9, e10⟩
    simp only at e e0 e3 e9 e10
    subst e
    rw [stop_eq] at hs
    simp [e9, e10]
    rcases Nat.lt_or_ge n ln.size with hnl | hng
    · have hg : ln[n]? = some ln[n] := by simp [hnl]
      rw [hg] at hs
      simp only at hs
      have hw := w64_id (n := (n : Int) + 1) (by omega) (by omega)
      simp only [w64] at hw
      have e9b : (((ln[n]).toNat : Int) == 9) = (ln[n] == 9) := by
        rw [Bool.eq_iff_iff]; simp only [beq_iff_eq]
        constructor
        · intro e; exact UInt8.toNat_inj.1 (by simp; omega)
        · intro e; rw [e]; rfl
      simp [hnl, e9, e10, e9b]
      cases q : ln[n] == 9 with
      | true =>
        rw [q, if_pos rfl] at hs
        simp [q, e10, hw]
        exact .same (ln.size - (n + 1)) (by omega) ⟨n + 1, rfl, by omega, hs, by simp, by simp [e0], by simp [e3], by simp [e9], by simp [hw]⟩
      | false =>
        rw [q] at hs
        simp only [Bool.false_eq_true, if_false] at hs
        simp [q]
        exact ⟨by simp, by simp [e0], by simp [e3], by simp [e9], by simp [e10, hs]⟩
    · have : n = ln.size := by omega
      subst this
      have hg : ln[ln.size]? = none := by simp
      rw [hg] at hs
      simp only at hs
      simp
      exact ⟨by simp, by simp [e0], by simp [e3], by simp [e9], by simp [e10, hs]⟩
  rintro ⟨tm, hp⟩ ⟨e, e0, e3, e9, e10⟩
  simp only at e e0 e3 e9 e10
  subst e
  obtain ⟨N, hN⟩ : ∃ N, La.skipD at_ l 0 = N := ⟨_, rfl⟩
  rw [hN] at hR
  simp
  refine LoopGoal.cut (roJ l ln N) ?_ ?_
  · refine ⟨roI l at_ ln N, l.length, .here ⟨0, by simp, by simp, by simpa using hN, by simp, by simp [e0], by simp [e3], by simp [e9], by simp [e10], by simp [La.opens], by simp [goesL], by simp⟩, ?_⟩
    clear e0 e3 e9 e10 hN
    rintro m ⟨tm, hp⟩ ⟨k, rfl, hk, hN, e, e0, e3, e9, e10, e11, e12, e13⟩
    simp only at e e0 e3 e9 e10 e11 e12 e13
    subst e
    simp [e0, e13]
    rcases Nat.lt_or_ge k l.length with hkl | hkg
    rotate_left
    · have : k = l.length := by omega
      subst this
      simp [La.skipD] at hN
      subst hN
      simp
      exact ⟨Nat.le_refl _, by simp, by simp [e9], by simp [e10], by simp [e11], by simp [e12]⟩
    obtain ⟨t, ht, hti2⟩ := get_tok6 hkl
    have hd : l.drop k = t :: l.drop (k + 1) := by rw [List.drop_eq_getElem_cons hkl, hti2]
    rw [hd] at hN
    unfold La.skipD at hN
    have hg := goes_next ht
    have hop := La.opens_le l k
    have hos := La.opens_take l k t ht
    have hw := w64_id (n := (k : Int) + 1) (by omega) (by omega)
    have hw2 := w64_id (n := La.opens (l.take k) + 1) (by omega) (by omega)
    have hw3 := w64_id (n := La.opens (l.take k) - 1) (by omega) (by omega)
    simp only [w64] at hw hw2 hw3
    unfold La.opT at hos
    obtain ⟨o, ho⟩ : ∃ o, La.opens (l.take k) = o := ⟨_, rfl⟩
    rw [ho] at hop hos hw2 hw3 e11
    by_cases hat : t.at_ < at_
    · rw [if_pos hat] at hN
      have c1 := ris_ok (W0 := W0) (nb := nb) (t := t) (x := ⟨#[123]⟩)
      have c2 := ris_ok (W0 := W0) (nb := nb) (t := t) (x := ⟨#[125]⟩)
      rw [b123'] at c1
      rw [b125'] at c2
      simp only [encT, List.map_cons, List.map_nil] at c1 c2
      have h66 : (t.kind != 6) = !(t.kind == 6) := rfl
      simp [hkl, e0, e3, e13, ht, hti2, hat]
      refine CallGoal.same c1 ?_
      unfold onR at hg
      cases g1 : isO t [123] with
      | true =>
        rw [g1, if_pos rfl] at hos
        have g2 := is_one6 g1
        simp [hkl, e0, e11, e13, ht, hti2, hw2]
        refine CallGoal.same c2 ?_
        simp [g2, hkl, e0, e13, ht, hti2, h66]
        cases g6 : t.kind == 6 with
        | true =>
          simp [h66, g6] at hg
          simp [e13, hw]
          exact .same (l.length - (k + 1)) (by omega) ⟨k + 1, rfl, by omega, hN, by simp, by simp [e0], by simp [e3], by simp [e9], by simp [e10], by simp [hos, hw2], by simp [hg], by simp [hw]⟩
        | false =>
          simp [h66, g6, g1] at hg
          simp [hkl, e0, e13, ht, hti2]
          refine CallGoal.same c1 ?_
          simp [g1, e13, hw]
          exact .same (l.length - (k + 1)) (by omega) ⟨k + 1, rfl, by omega, hN, by simp, by simp [e0], by simp [e3], by simp [e9], by simp [e10], by simp [hos, hw2], by simp [hg], by simp [hw]⟩
      | false =>
        simp only [g1, Bool.false_eq_true, if_false] at hos
        simp [hkl, e0, e13, ht, hti2]
        refine CallGoal.same c2 ?_
        cases g2 : isO t [125] with
        | true =>
          rw [g2, if_pos rfl] at hos
          simp [hkl, e0, e11, e13, ht, hti2, hw3, h66]
          cases g6 : t.kind == 6 with
          | true =>
            simp [h66, g6] at hg
            simp [e13, hw]
            exact .same (l.length - (k + 1)) (by omega) ⟨k + 1, rfl, by omega, hN, by simp, by simp [e0], by simp [e3], by simp [e9], by simp [e10], by simp [hos, hw3], by simp [hg], by simp [hw]⟩
          | false =>
            simp [h66, g6, g1, g2] at hg
            simp [hkl, e0, e13, ht, hti2]
            refine CallGoal.same c1 ?_
            simp [g1, hkl, e0, e13, ht, hti2]
            refine CallGoal.same c2 ?_
            simp [g2, e13, hw]
            exact .same (l.length - (k + 1)) (by omega) ⟨k + 1, rfl, by omega, hN, by simp, by simp [e0], by simp [e3], by simp [e9], by simp [e10], by simp [hos, hw3], by simp [hg], by simp [hw]⟩
        | false =>
          simp only [g2, Bool.false_eq_true, if_false] at hos
          simp [hkl, e0, e13, ht, hti2, h66]
          cases g6 : t.kind == 6 with
          | true =>
            simp [h66, g6] at hg
            simp [e13, hw]
            exact .same (l.length - (k + 1)) (by omega) ⟨k + 1, rfl, by omega, hN, by simp, by simp [e0], by simp [e3], by simp [e9], by simp [e10], by simp [hos, e11], by simp [hg], by simp [hw]⟩
          | false =>
            simp [h66, g6, g1, g2] at hg
            simp [hkl, e0, e13, ht, hti2]
            refine CallGoal.same c1 ?_
            simp [g1, hkl, e0, e13, ht, hti2]
            refine CallGoal.same c2 ?_
            simp [g2, e13, hw]
            exact .same (l.length - (k + 1)) (by omega) ⟨k + 1, rfl, by omega, hN, by simp, by simp [e0], by simp [e3], by simp [e9], by simp [e10], by simp [hos, e11], by simp [hg], by simp [hw]⟩
    · rw [if_neg hat] at hN
      subst hN
      simp [hkl, e0, e3, e13, ht, hti2, hat]
      exact ⟨hk, by simp, by simp [e9], by simp [e10], by simp [e11, ho], by simp [e12]⟩
  clear e0 e3 e9 e10 hN
  rintro ⟨tm, hp⟩ ⟨hNl, e, e9, e10, e11, e12⟩
  simp only at e e9 e10 e11 e12
  subst e
  have hop := La.opens_le l N
  have hwp := w64_id (n := La.opens (l.take N) + 1) (by omega) (by omega)
  have hwm := w64_id (n := La.opens (l.take N) - 1) (by omega) (by omega)
  simp only [w64] at hwp hwm
  generalize La.opens (l.take N) = o at *
  generalize goesL (l.take N) = g at *
  have hb : ln[nines ln]? = some ln[nines ln] := by simp [hlt]
  rw [hb] at hR
  simp only [Option.getD_some] at hR
  generalize hn : nines ln = n at *
  simp [e9, e10, hlt]
  obtain ⟨b, hbb⟩ : ∃ b, ln[n] = b := ⟨_, rfl⟩
  rw [hbb] at hR
  have b1 : ((b.toNat : Int) == 125) = (b == 125) := by
    rw [Bool.eq_iff_iff]; simp only [beq_iff_eq]
    constructor
    · intro e; exact UInt8.toNat_inj.1 (by simp; omega)
    · intro e; rw [e]; rfl
  have b2 : ((b.toNat : Int) == 32) = (b == 32) := by
    rw [Bool.eq_iff_iff]; simp only [beq_iff_eq]
    constructor
    · intro e; exact UInt8.toNat_inj.1 (by simp; omega)
    · intro e; rw [e]; rfl
  have b3 : ((b.toNat : Int) != 32) = !(b == 32) := by rw [← b2]; rfl
  simp [hbb, b1]
  cases q1 : b == 125 with
  | true =>
    simp only [q1, if_true] at hR
    simp [e10, e11, hwm]
    exact .keep (by simp [hR, hwm]) (.refl _) (by simp) (by simp [hR, hwm]) (by simp [hR, hwm]) (by simp [hR, hwm])
  | false =>
    simp only [q1, Bool.false_eq_true, if_false] at hR
    simp [e9, e10, hlt, hbb, b3]
    cases q2 : b == 32 with
    | true =>
      simp [q2] at hR
      simp
      exact .keep (by simp [hR]) (.refl _) (by simp) (by simp [hR]) (by simp [hR]) (by simp [hR])
    | false =>
      simp only [q2, Bool.not_false, Bool.true_and] at hR
      simp [e10, e11]
      cases q3 : (n : Int) == o with
      | true =>
        simp [q3] at hR
        simp [q3]
        exact .keep (by simp [hR, q3]) (.refl _) (by simp) (by simp [hR, q3]) (by simp [hR, q3]) (by simp [hR, q3])
      | false =>
        simp only [q3, Bool.false_or] at hR
        cases g with
        | true =>
          simp only [Bool.true_and] at hR
          simp [q3, e10, e11, e12, hwp]
          exact .keep (by simp [hR, q3, hwp]) (.refl _) (by simp) (by simp [hR, q3, hwp]) (by simp [hR, q3, hwp]) (by simp [hR, q3, hwp])
        | false =>
          simp at hR
          simp [q3, e12]
          exact .keep (by simp [hR, q3]) (.refl _) (by simp) (by simp [hR, q3]) (by simp [hR, q3]) (by simp [hR, q3])
end Rf
end Go.Proofs.Dm

set_option linter.unusedSimpArgs false
set_option linter.unusedVariables false
set_option maxHeartbeats 16000000
set_option maxRecDepth 100000
namespace Go.Proofs.Dm
open Go Go.Proofs Go.Proofs.Tryz Go.Proofs.Dm.Sc
open Fo (isO zeroT nlB spB pad trimR linesP)
namespace Rf
attribute [local simp] encT encC takes handsOn isTmp Op.operands Call.operands
/-! ### recensionref17.Fault -/
def rfI (l : List Tok) (L : List ByteArray) (R : Int) (m : Nat) (st : St) : Prop := ∃ (i : Nat) (a : Int), m = L.length - i ∧ i ≤ L.length ∧ 0 ≤ a ∧ a ≤ i * 300001 ∧ goR l L (L.drop i) i a = R ∧
  st.hp = [] ∧ st.tm 3 = .p (.sl 5 (l.map encT)) ∧ st.tm 6 = .p (.sl 1 (rowsS L)) ∧ st.tm 7 = i64 a ∧ st.tm 8 = i64 (i : Nat)
theorem rows_dropLast (L : List ByteArray) : (rowsS L).take ((rowsS L).length - 1) = rowsS L.dropLast := by
  rw [← List.dropLast_eq_take]
  simp [rowsS]
theorem rfault_ok {W0 nb} {s : ByteArray} (h2 : 2 ≤ nb) (hT : Lib.Utf8Tabs 0 1 W0) (hs : s.size < 100000) : DCalls ⟨Tryz.prog, W0, nb⟩ 40 [.p (.str s)] [] (i64 (refF s)) [] := by
  have c1 := Rs.scan_ok (W0 := W0) (nb := nb) (s := s) (by omega)
  have c2 := rlines_ok (W0 := W0) (nb := nb) (s := s) (by omega)
  have hll := Gr.lines_len s
  have hcount : s.data.toList.count 10 ≤ s.size := by rw [ba_size]; exact List.count_le_length
  have hl2 : (scanP s).1.length < 100000000 := Gr.scan_len s (by omega)
  have hz : ∀ x ∈ linesP s, x.size ≤ 300000 := fun x hx => by have := lines_short s x hx; omega
  obtain ⟨R, hR⟩ : ∃ R, refF s = R := ⟨_, rfl⟩
  rw [hR]
  unfold refF at hR
  obtain ⟨L0, hL0⟩ : ∃ L0, linesP s = L0 := ⟨_, rfl⟩
  rw [hL0] at c2 hll hz hR
  obtain ⟨S, hS⟩ : ∃ S, scanP s = S := ⟨_, rfl⟩
  rw [hS] at c1 hl2 hR
  obtain ⟨l, cs, f⟩ := S
  simp only [toks, coms] at c1 hl2 hR
  refine dcalls_end Tryz.func40 rfl (by kernel_rfl) 58 Tryz.ntmps40 #[.tmp 2] rfl (Nat.le_of_ble_eq_true rfl) ?_
  simp
  refine CallGoal.same c1 ?_
  cases hf : decide (0 ≤ f) with
  | true =>
    have hf' := of_decide_eq_true hf
    simp [hf'] at hR
    simp [hf']
    exact .keep (by simp [hR]) (.refl _) (by simp) (by simp [hR]) (by simp [hR]) (by simp [hR])
  | false =>
  have hf' := of_decide_eq_false hf
  simp only [hf, Bool.false_or] at hR
  simp [hf']
  rcases Nat.eq_zero_or_pos s.size with hz0 | hz0
  · have hs0 : s = ⟨#[]⟩ := by
      apply ba_ext
      have : s.data.toList.length = 0 := by rw [← ba_size]; exact hz0
      exact List.eq_nil_of_length_eq_zero this
    subst hs0
    have he : endsNl ⟨#[]⟩ = false := rfl
    simp [he] at hR
    simp
    exact .keep (by simp [hR]) (.refl _) (by simp) (by simp [hR]) (by simp [hR]) (by simp [hR])
  · have hb : s[s.size - 1]? = some s[s.size - 1] := by simp
    have he : s.toList.isEmpty = false := by
      rw [Lib.toList_data]
      cases hq : s.data.toList with
      | nil => have := ba_size s; rw [hq, List.length_nil] at this; omega
      | cons c r => rfl
    have hen : endsNl s = (s[s.size - 1] == 10) := by unfold endsNl; rw [hb]
    rw [hen] at hR
    have hw := w64_id (n := (s.size : Int) - 1) (by omega) (by omega)
    simp only [w64] at hw
    have hk : ((s.size : Int) - 1).toNat = s.size - 1 := by omega
    have h1 : (1 : Int) ≤ s.size := by omega
    have h3 : (s.size : Int) - 1 < s.size := by omega
    have hlt : s.size - 1 < s.size := by omega
    simp [he, hw, hk, h1, h3, hlt]
    generalize hb' : s[s.size - 1] = b at *
    have e10 : ((b.toNat : Int) != 10) = !(b == 10) := by
      have : ((b.toNat : Int) == 10) = (b == 10) := by
        rw [Bool.eq_iff_iff]; simp only [beq_iff_eq]
        constructor
        · intro e; exact UInt8.toNat_inj.1 (by simp; omega)
        · rintro rfl; rfl
      rw [← this]; rfl
    rw [e10]
    cases q : b == 10 with
    | false =>
      simp [q] at hR
      simp
      exact .keep (by simp [hR]) (.refl _) (by simp) (by simp [hR]) (by simp [hR]) (by simp [hR])
    | true =>
      simp only [q, Bool.not_true, Bool.false_eq_true, if_false] at hR
      simp
      refine CallGoal.same c2 ?_
      have hrl : (rowsS L0).length = L0.length := by simp [rowsS]
      have hdl := rows_dropLast L0
      rw [hrl] at hdl
      have hlen1 : L0.dropLast.length = L0.length - 1 := by simp
      have hzd : ∀ x ∈ L0.dropLast, x.size ≤ 300000 := fun x hx => hz x (List.dropLast_subset _ hx)
      have hwl := w64_id (n := (L0.length : Int) - 1) (by omega) (by omega)
      simp only [w64] at hwl
      have hkl : ((L0.length : Int) - 1).toNat = L0.length - 1 := by omega
      have hl1 : (1 : Int) ≤ L0.length := by omega
      have hl3 : (L0.length : Int) - 1 ≤ L0.length := by omega
      generalize hLD : L0.dropLast = L at *
      simp [hrl, hwl, hkl, hl1, hl3, hdl]
      refine ⟨rfI l L R, L.length, .here ⟨0, 0, by simp, by simp, by simp, by simp, by simpa using hR, by simp, by simp, by simp, by simp, by simp⟩, ?_⟩
      rintro m ⟨tm, hp⟩ ⟨i, a, rfl, hi, ha0, ha, h, e, e3, e6, e7, e8⟩
      simp only at e e3 e6 e7 e8
      subst e
      have hrL : (rowsS L).length = L.length := by simp [rowsS]
      simp [e6, e8, hrL]
      rcases Nat.lt_or_ge i L.length with hil | hig
      · obtain ⟨ln, hln, hti⟩ : ∃ ln, L[i]? = some ln ∧ L[i] = ln := ⟨L[i], List.getElem?_eq_getElem hil, rfl⟩
        have hzl := hzd ln (List.mem_of_getElem? hln)
        have hd : L.drop i = ln :: L.drop (i + 1) := by rw [List.drop_eq_getElem_cons hil, hti]
        rw [hd] at h
        unfold goR at h
        have cr := rright_ok (W0 := W0) (nb := nb) (l := l) (L := L) (i := i) (ln := ln) (at_ := a) hl2 (by omega) hln (by omega)
        have hwi := w64_id (n := (i : Int) + 1) (by omega) (by omega)
        have hwa := w64_id (n := (ln.size : Int) + 1) (by omega) (by omega)
        have hwb := w64_id (n := a + ((ln.size : Int) + 1)) (by omega) (by omega)
        simp only [w64] at hwi hwa hwb
        simp [hil, e3, e6, e7, e8]
        refine CallGoal.same cr ?_
        cases hr : rightR l L i ln a with
        | false =>
          rw [hr] at h
          simp only [Bool.false_eq_true, if_false] at h
          simp [e8, hwi]
          exact .keep (by simp [h]) (.refl _) (by simp) (by simp [h]) (by simp [h]) (by simp [h])
        | true =>
          rw [hr, if_pos rfl] at h
          simp [e6, e7, e8, hil, hln, hti, rowsS, hwi, hwa, hwb]
          exact .same (L.length - (i + 1)) (by omega) ⟨i + 1, a + ((ln.size : Int) + 1), rfl, by omega, by omega, by omega, h, by simp, by simp [e3], by simp [e6, rowsS], by simp [hwb], by simp [hwi]⟩
      · have hil : i = L.length := by omega
        subst hil
        simp [goR] at h
        simp
        exact .keep (by simp [h]) (.refl _) (by simp) (by simp [h]) (by simp [h]) (by simp [h])
end Rf
end Go.Proofs.Dm

set_option linter.unusedSimpArgs false
set_option linter.unusedVariables false
set_option maxHeartbeats 16000000
set_option maxRecDepth 100000
namespace Go.Proofs.Dm
open Go Go.Proofs Go.Proofs.Tryz Go.Proofs.Dm.Sc
open Fo (isO zeroT nlB spB pad trimR linesP)
namespace Rf
attribute [local simp] encT encC takes handsOn isTmp Op.operands Call.operands
/-! ### LayoutAll -/
def cutL (s : ByteArray) (n : Nat) : ByteArray := if n < s.size then s.extract 0 n else s
theorem cutL_size (s : ByteArray) (n : Nat) : (cutL s n).size ≤ n := by
  unfold cutL
  split
  · simp; omega
  · omega
theorem cutL_ok {W0 nb s} {n : Nat} (hn : n < 1000000) : DCalls ⟨Tryz.prog, W0, nb⟩ 22 [.p (.str s), i64 (n : Nat)] [] (.p (.str (cutL s n))) [] := by
  refine dcalls_end Tryz.func22 rfl (by kernel_rfl) 13 Tryz.ntmps22 #[.tmp 4] rfl (Nat.le_of_ble_eq_true rfl) ?_
  simp
  by_cases h : n < s.size
  · simp [h, cutL, Nat.le_of_lt h]
    exact .keep (by simp) (.refl _) (by simp) (by simp) (by simp) (by simp)
  · simp [h, cutL]
    exact .keep (by simp) (.refl _) (by simp) (by simp) (by simp) (by simp)
theorem lfault_ok {W0 nb} {s : ByteArray} (h2 : 2 ≤ nb) (hT : Lib.Utf8Tabs 0 1 W0) (hs : s.size < 100000) : DCalls ⟨Tryz.prog, W0, nb⟩ 41 [.p (.str s)] [] (i64 (refF s)) [] := by
  rw [← fault_ref]
  have hc := La.chop_size s
  refine La.fault_ok h2 hT hs ?_ ?_ (fun x hx => ?_)
  · rcases Int.lt_or_le (scanP s).2.2 0 with h | h
    · obtain ⟨_, _, hl⟩ := Gr.scan_good (s := s) (by omega) h
      omega
    · have : (scanP s).1 = [] := by
        unfold scanP at h ⊢
        dsimp only at h ⊢
        split at h
        · rename_i q; rw [if_pos q]
        · exact absurd h (by simp only; omega)
      rw [this]; simp
  · have := Gr.lines_len (La.chop s)
    have hcount : (La.chop s).data.toList.count 10 ≤ (La.chop s).size := by rw [ba_size]; exact List.count_le_length
    omega
  · have := lines_short (La.chop s) x hx
    omega
theorem lright_ok {W0 nb} {s : ByteArray} (h2 : 2 ≤ nb) (hT : Lib.Utf8Tabs 0 1 W0) (hs : s.size < 100000) : DCalls ⟨Tryz.prog, W0, nb⟩ 42 [.p (.str s)] [] (.p (.bool (refF s == -1))) [] := by
  have c := lfault_ok (W0 := W0) (nb := nb) h2 hT hs
  refine dcalls_end Tryz.func42 rfl (by kernel_rfl) 6 Tryz.ntmps42 #[.tmp 2] rfl (Nat.le_of_ble_eq_true rfl) ?_
  simp
  refine CallGoal.same c ?_
  simp
  exact .keep (by simp) (.refl _) (by simp) (by simp) (by simp) (by simp)
theorem layoutAll_ok {W0 nb} (h2 : 2 ≤ nb) (hT : Lib.Utf8Tabs 0 1 W0) {s : ByteArray} : DCalls ⟨Tryz.prog, W0, nb⟩ 16 [.p (.str s)] [] (.p (.bool true)) [] := by
  have c0 := La.begun18_ok (W0 := W0) (nb := nb) h2 hT
  have c1 := cutL_ok (W0 := W0) (nb := nb) (s := s) (n := 600) (by decide)
  have hz := cutL_size s 600
  generalize cutL s 600 = a at *
  have c2 := rfault_ok (W0 := W0) (nb := nb) h2 hT (s := a) (by omega)
  have c3 := lfault_ok (W0 := W0) (nb := nb) h2 hT (s := a) (by omega)
  have c4 := lright_ok (W0 := W0) (nb := nb) h2 hT (s := a) (by omega)
  generalize refF a = f at *
  refine dcalls_end Tryz.func16 rfl (by kernel_rfl) 23 Tryz.ntmps16 #[.tmp 2] rfl (Nat.le_of_ble_eq_true rfl) ?_
  simp
  refine CallGoal.same c0 ?_
  simp
  refine CallGoal.same c1 ?_
  simp
  refine CallGoal.same c2 ?_
  simp
  refine CallGoal.same c3 ?_
  simp
  refine CallGoal.same c4 ?_
  simp
  exact .keep (by simp) (.refl _) (by simp) (by simp) (by simp) (by simp)
end Rf
end Go.Proofs.Dm
