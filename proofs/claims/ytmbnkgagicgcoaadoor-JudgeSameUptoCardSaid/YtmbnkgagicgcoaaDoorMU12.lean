/- Part of the proof: contracts of the functions, walked by the D-machine. No condition. -/
import Derived.Test.YtmbnkgagicgcoaaDoorMU11
import Derived.Test.YtmbnkgagicgcoaaDoorMT7
set_option linter.unusedSimpArgs false
set_option linter.unusedVariables false
set_option maxHeartbeats 8000000
set_option maxRecDepth 100000
namespace Go.Proofs
open Go Go.RowKit
namespace Dm.Ju
open Dm Dm.Sc Go.Proofs.Tryd
attribute [local simp] takes handsOn isTmp Op.operands Call.operands
theorem cbeq (a b : Nat) : ((a : Int) == (b : Int)) = (a == b) := by
  rw [Bool.eq_iff_iff]
  simp only [beq_iff_eq]
  constructor <;> intro h <;> omega
abbrev cm (l : List Com) : DV := .p (.sl 4 (l.map encC))
def allI1 (wx wy : List Tok) (E : Bool) (s t : ByteArray) (x y : List Tok) (xc yc : List Com) (m : Nat) (st : St) : Prop := ∃ (i : Nat) (sm : Bool), ((sm = true ∧ wx.length = wy.length ∧ eqTs (wx.drop i) (wy.drop i) = E) ∨ (sm = false ∧ E = false)) ∧ m = wx.length - i ∧ i ≤ wx.length ∧ st.hp = [] ∧ st.tm 0 = .p (.str s) ∧ st.tm 1 = .p (.str t) ∧ st.tm 6 = tk x ∧ st.tm 7 = cm xc ∧ st.tm 9 = tk y ∧ st.tm 10 = cm yc ∧ st.tm 12 = tk wx ∧ st.tm 13 = tk wy ∧ st.tm 14 = .p (.bool sm) ∧ st.tm 15 = i64 (i : Nat)
def allJ1 (E : Bool) (s t : ByteArray) (x y : List Tok) (xc yc : List Com) (st : St) : Prop := st.hp = [] ∧ st.tm 0 = .p (.str s) ∧ st.tm 1 = .p (.str t) ∧ st.tm 6 = tk x ∧ st.tm 7 = cm xc ∧ st.tm 9 = tk y ∧ st.tm 10 = cm yc ∧ st.tm 14 = .p (.bool E)
def allI2 (E N : Bool) (s t : ByteArray) (x y : List Tok) (xc yc : List Com) (m : Nat) (st : St) : Prop := ∃ (i : Nat) (sm : Bool), ((sm = true ∧ xc.length = yc.length ∧ allEq eqR ((xc.drop i).map (rem1 x)) ((yc.drop i).map (rem1 y)) = N) ∨ (sm = false ∧ N = false)) ∧ m = xc.length - i ∧ i ≤ xc.length ∧ st.hp = [] ∧ st.tm 0 = .p (.str s) ∧ st.tm 1 = .p (.str t) ∧ st.tm 6 = tk x ∧ st.tm 7 = cm xc ∧ st.tm 9 = tk y ∧ st.tm 10 = cm yc ∧ st.tm 14 = .p (.bool E) ∧ st.tm 16 = .p (.bool sm) ∧ st.tm 17 = i64 (i : Nat)
def allJ2 (E N : Bool) (s t : ByteArray) (st : St) : Prop := st.hp = [] ∧ st.tm 0 = .p (.str s) ∧ st.tm 1 = .p (.str t) ∧ st.tm 14 = .p (.bool E) ∧ st.tm 16 = .p (.bool N)
theorem judgeAll_ok {W0 nb} {a b : ByteArray} (h2 : 2 ≤ nb) (hT : Lib.Utf8Tabs 0 1 W0) : DCalls ⟨Tryd.prog, W0, nb⟩ 3 [.p (.str a), .p (.str b)] [] (.p (.bool true)) [] := by
  have ka := cut_ok (W0 := W0) (nb := nb) (s := a) (n := 500) (by decide)
  have kb := cut_ok (W0 := W0) (nb := nb) (s := b) (n := 500) (by decide)
  have hsa := cutS_size a 500
  have hsb := cutS_size b 500
  generalize cutS a 500 = s at *
  generalize cutS b 500 = t at *
  have ca := Rs.scan_ok (W0 := W0) (nb := nb) (s := s) (by omega)
  have cb := Rs.scan_ok (W0 := W0) (nb := nb) (s := t) (by omega)
  have tok := tokens_ok (W0 := W0) (nb := nb) (a := s) (b := t) h2 hT (by omega) (by omega)
  have com := comments_ok (W0 := W0) (nb := nb) (a := s) (b := t) h2 hT (by omega) (by omega)
  have la := scanP_len s
  have lb := scanP_len t
  have na := scan_next s
  have nbx := scan_next t
  simp only [judgeTokens, judgeComments, remsP] at tok com
  obtain ⟨A, hA⟩ : ∃ A, scanP s = A := ⟨_, rfl⟩
  obtain ⟨B, hB⟩ : ∃ B, scanP t = B := ⟨_, rfl⟩
  rw [hA] at ca la na tok com
  rw [hB] at cb lb nbx tok com
  obtain ⟨x, xc, f⟩ := A
  obtain ⟨y, yc, g⟩ := B
  simp only at ca cb la lb na nbx tok com
  simp only [Sc.toks, coms] at ca cb
  simp at ka kb
  refine dcalls_end Tryd.func3 rfl (by kernel_rfl) 157 Tryd.ntmps3 #[.tmp 4] rfl (Nat.le_of_ble_eq_true rfl) ?_
  simp
  refine CallGoal.same (begun_ok h2 hT) ?_
  simp
  refine CallGoal.same ka ?_
  simp
  refine CallGoal.same kb ?_
  simp
  refine CallGoal.same ca ?_
  simp
  refine CallGoal.same cb ?_
  simp
  by_cases hf : f < 0
  rotate_left
  · simp only [hf, decide_false, Bool.false_and] at tok com
    simp [hf, show 0 ≤ f by omega]
    refine CallGoal.same tok ?_
    simp
    refine CallGoal.same com ?_
    simp
    exact .keep (by simp) (.refl _) (by simp) (by simp) (by simp) (by simp)
  by_cases hg : g < 0
  rotate_left
  · simp only [hg, decide_false, Bool.false_and, Bool.and_false] at tok com
    simp [hf, show ¬ 0 ≤ f by omega, hg, show 0 ≤ g by omega]
    refine CallGoal.same tok ?_
    simp
    refine CallGoal.same com ?_
    simp
    exact .keep (by simp) (.refl _) (by simp) (by simp) (by simp) (by simp)
  simp only [hf, hg, decide_true, Bool.true_and] at tok com
  have wa := lwords_ok (W0 := W0) (nb := nb) (l := x) (n := x.length) (Nat.le_refl _) (by omega)
  have wb := lwords_ok (W0 := W0) (nb := nb) (l := y) (n := y.length) (Nat.le_refl _) (by omega)
  rw [List.take_length] at wa wb
  have lwa := wordsL_len x
  have lwb := wordsL_len y
  obtain ⟨wx, hwx⟩ : ∃ w, wordsL x = w := ⟨_, rfl⟩
  obtain ⟨wy, hwy⟩ : ∃ w, wordsL y = w := ⟨_, rfl⟩
  rw [hwx] at wa lwa tok
  rw [hwy] at wb lwb tok
  obtain ⟨E, hE⟩ : ∃ E, eqTs wx wy = E := ⟨_, rfl⟩
  rw [hE] at tok
  simp [show ¬ 0 ≤ f by omega, show ¬ 0 ≤ g by omega]
  refine CallGoal.same wa ?_
  simp
  refine CallGoal.same wb ?_
  simp
  refine LoopGoal.cut (allJ1 E s t x y xc yc) ?_ ?_
  · refine ⟨allI1 wx wy E s t x y xc yc, wx.length, .here ⟨0, wx.length == wy.length, ?_, by simp [cbeq], by simp [cbeq], by simp [cbeq], by simp [cbeq], by simp [cbeq], by simp [cbeq], by simp [cbeq], by simp [cbeq], by simp [cbeq], by simp [cbeq], by simp [cbeq], by simp [cbeq], by simp [cbeq]⟩, ?_⟩
    · by_cases hl : wx.length = wy.length
      · exact .inl ⟨by simpa using hl, hl, hE⟩
      · exact .inr ⟨by simpa using hl, by rw [← hE, eqTs_len _ _ hl]⟩
    rintro m ⟨tm, hp⟩ ⟨i, sm, hsm, rfl, hi, h0, g0, g1, g6, g7, g9, g10, g12, g13, g14, g15⟩
    simp only at h0 g0 g1 g6 g7 g9 g10 g12 g13 g14 g15
    subst h0
    simp [g12, g14, g15]
    rcases Nat.lt_or_ge i wx.length with hlt | hge
    · rcases hsm with ⟨rfl, hl, hq⟩ | ⟨rfl, hq⟩
      · have hlt2 : i < wy.length := by omega
        have hd1 : wx.drop i = wx[i] :: wx.drop (i + 1) := List.drop_eq_getElem_cons hlt
        have hd2 : wy.drop i = wy[i] :: wy.drop (i + 1) := List.drop_eq_getElem_cons hlt2
        rw [hd1, hd2] at hq
        simp only [eqTs] at hq
        have hw := w64_id (n := (i : Int) + 1) (by omega) (by omega)
        simp only [w64] at hw
        simp [hlt, g14]
        refine drawWp.intro [] [9, 21] mixed (by kernel_rfl) (by kernel_rfl) (by kernel_rfl) ?_
        simp [hlt, hlt2, g12, g13, g15, encT]
        have fin : ∀ q : Bool, eqT wx[i] wy[i] = q → (q && eqTs (wx.drop (i + 1)) (wy.drop (i + 1))) = E := by
          rintro q rfl; exact hq
        have done : ∀ q : Bool, eqT wx[i] wy[i] = q → ((q = true ∧ wx.length = wy.length ∧ eqTs (wx.drop (i + 1)) (wy.drop (i + 1)) = E) ∨ (q = false ∧ E = false)) := by
          intro q hq1
          have := fin q hq1
          cases q with
          | true => exact .inl ⟨rfl, hl, by simpa using this⟩
          | false => exact .inr ⟨rfl, by simpa using this.symm⟩
        cases q1 : wx[i].kind == wy[i].kind with
        | false =>
          simp [q1, hlt, hlt2, g12, g13, g15, encT]
          refine ⟨by simp [pairsOK, compatDyn, lowOK, allLt, labD, skips, guardD, looksG, guardSlot, looksD, goneD, eatsT, eats, goneL, rdD, wrD, simpleD, anyOwn, disj, ldD, ldOK, mvD, q1], by simp [pairsOK, compatDyn, lowOK, allLt, labD, skips, guardD, looksG, guardSlot, looksD, goneD, eatsT, eats, goneL, rdD, wrD, simpleD, anyOwn, disj, ldD, ldOK, mvD, q1], ?_⟩
          simp [g15, hw]
          exact .same (wx.length - (i + 1)) (by omega) ⟨i + 1, false, done false (by simp [eqT, q1]), rfl, by omega, by simp, by simp [g0], by simp [g1], by simp [g6], by simp [g7], by simp [g9], by simp [g10], by simp [g12], by simp [g13], by simp, by simp [hw]⟩
        | true =>
          simp [q1, hlt, hlt2, g12, g13, g15, encT]
          refine ⟨by simp [pairsOK, compatDyn, lowOK, allLt, labD, skips, guardD, looksG, guardSlot, looksD, goneD, eatsT, eats, goneL, rdD, wrD, simpleD, anyOwn, disj, ldD, ldOK, mvD, q1], by simp [pairsOK, compatDyn, lowOK, allLt, labD, skips, guardD, looksG, guardSlot, looksD, goneD, eatsT, eats, goneL, rdD, wrD, simpleD, anyOwn, disj, ldD, ldOK, mvD, q1], ?_⟩
          simp [g15, hw]
          exact .same (wx.length - (i + 1)) (by omega) ⟨i + 1, wx[i].text.toList == wy[i].text.toList, done _ (by simp [eqT, q1]), rfl, by omega, by simp, by simp [g0], by simp [g1], by simp [g6], by simp [g7], by simp [g9], by simp [g10], by simp [g12], by simp [g13], by simp, by simp [hw]⟩
      · simp [hlt, g14]
        exact ⟨rfl, by simp [g0], by simp [g1], by simp [g6], by simp [g7], by simp [g9], by simp [g10], by simp [g14, hq]⟩
    · have hil : i = wx.length := by omega
      subst hil
      simp
      have hs : sm = E := by
        rcases hsm with ⟨rfl, hl, hq⟩ | ⟨rfl, hq⟩
        · rw [← hq, List.drop_eq_nil_of_le (Nat.le_refl _), List.drop_eq_nil_of_le (by omega)]; rfl
        · exact hq.symm
      exact ⟨rfl, by simp [g0], by simp [g1], by simp [g6], by simp [g7], by simp [g9], by simp [g10], by simp [g14, hs]⟩
  · rintro ⟨tm, hp⟩ ⟨h0, g0, g1, g6, g7, g9, g10, g14⟩
    simp only at h0 g0 g1 g6 g7 g9 g10 g14
    subst h0
    obtain ⟨N, hN⟩ : ∃ N, allEq eqR (xc.map (rem1 x)) (yc.map (rem1 y)) = N := ⟨_, rfl⟩
    rw [hN] at com
    simp [g7, g10]
    refine LoopGoal.cut (allJ2 E N s t) ?_ ?_
    · refine ⟨allI2 E N s t x y xc yc, xc.length, .here ⟨0, xc.length == yc.length, ?_, by simp [cbeq], by simp [cbeq], by simp [cbeq], by simp [g0], by simp [g1], by simp [g6], by simp [g7], by simp [g9], by simp [g10], by simp [g14], by simp [cbeq], by simp [cbeq]⟩, ?_⟩
      · by_cases hl : xc.length = yc.length
        · exact .inl ⟨by simpa using hl, hl, hN⟩
        · exact .inr ⟨by simpa using hl, by rw [← hN, allEq_len _ _ _ (by simpa using hl)]⟩
      rintro m ⟨tm, hp⟩ ⟨i, sm, hsm, rfl, hi, h0, g0, g1, g6, g7, g9, g10, g14, g16, g17⟩
      simp only at h0 g0 g1 g6 g7 g9 g10 g14 g16 g17
      subst h0
      simp [g7, g16, g17]
      rcases Nat.lt_or_ge i xc.length with hlt | hge
      · rcases hsm with ⟨rfl, hl, hq⟩ | ⟨rfl, hq⟩
        · have hlt2 : i < yc.length := by omega
          have hd1 : xc.drop i = xc[i] :: xc.drop (i + 1) := List.drop_eq_getElem_cons hlt
          have hd2 : yc.drop i = yc[i] :: yc.drop (i + 1) := List.drop_eq_getElem_cons hlt2
          rw [hd1, hd2] at hq
          simp only [List.map_cons, allEq] at hq
          have hw := w64_id (n := (i : Int) + 1) (by omega) (by omega)
          simp only [w64] at hw
          have hcx := na xc[i] (List.getElem_mem hlt)
          have hcy := nbx yc[i] (List.getElem_mem hlt2)
          have t1 := trim_ok2 (W0 := W0) (nb := nb) (s := xc[i].text) (by omega)
          have t2 := trim_ok2 (W0 := W0) (nb := nb) (s := yc[i].text) (by omega)
          have n1 : ((xc[i].next.toNat : Nat) : Int) = xc[i].next := by omega
          have n2 : ((yc[i].next.toNat : Nat) : Int) = yc[i].next := by omega
          have v1 := lwords_ok (W0 := W0) (nb := nb) (l := x) (n := xc[i].next.toNat) (by omega) (by omega)
          have v2 := lwords_ok (W0 := W0) (nb := nb) (l := y) (n := yc[i].next.toNat) (by omega) (by omega)
          rw [n1] at v1
          rw [n2] at v2
          simp [hlt, g16]
          refine drawWp.intro [(5, 10), (20, 27)] [10, 19, 27, 28] mixed (by kernel_rfl) (by kernel_rfl) (by kernel_rfl) ?_
          simp [hlt, hlt2, g7, g10, g17, encC]
          refine CallGoal.same t1 ?_
          simp [hlt, hlt2, g7, g10, g17, encC]
          refine CallGoal.same t2 ?_
          simp [hlt, hlt2, g6, g7, g9, g10, g17, encC]
          have fin : ∀ q : Bool, eqR (rem1 x xc[i]) (rem1 y yc[i]) = q → ((q = true ∧ xc.length = yc.length ∧ allEq eqR ((xc.drop (i + 1)).map (rem1 x)) ((yc.drop (i + 1)).map (rem1 y)) = N) ∨ (q = false ∧ N = false)) := by
            rintro q rfl
            cases hqq : eqR (rem1 x xc[i]) (rem1 y yc[i]) with
            | true => rw [hqq, Bool.true_and] at hq; exact .inl ⟨rfl, hl, hq⟩
            | false => rw [hqq, Bool.false_and] at hq; exact .inr ⟨rfl, hq.symm⟩
          cases q1 : (trimB xc[i].text).toList == (trimB yc[i].text).toList with
          | false =>
            simp [q1, hlt, hlt2, g6, g7, g9, g10, g17, encC]
            refine ⟨by simp [pairsOK, compatDyn, lowOK, allLt, labD, skips, guardD, looksG, guardSlot, looksD, goneD, eatsT, eats, goneL, rdD, wrD, simpleD, anyOwn, disj, ldD, ldOK, mvD, q1], by simp [pairsOK, compatDyn, lowOK, allLt, labD, skips, guardD, looksG, guardSlot, looksD, goneD, eatsT, eats, goneL, rdD, wrD, simpleD, anyOwn, disj, ldD, ldOK, mvD, q1], ?_⟩
            simp [g17, hw]
            exact .same (xc.length - (i + 1)) (by omega) ⟨i + 1, false, fin false (by simp [eqR, rem1, q1]), rfl, by omega, by simp, by simp [g0], by simp [g1], by simp [g6], by simp [g7], by simp [g9], by simp [g10], by simp [g14], by simp, by simp [hw]⟩
          | true =>
            simp [q1, hlt, hlt2, g6, g7, g9, g10, g17, encC]
            refine CallGoal.same v1 ?_
            simp [q1, hlt, hlt2, g6, g7, g9, g10, g17, encC]
            refine CallGoal.same v2 ?_
            simp [q1, hlt, hlt2, g6, g7, g9, g10, g17, encC]
            refine ⟨by simp [pairsOK, compatDyn, lowOK, allLt, labD, skips, guardD, looksG, guardSlot, looksD, goneD, eatsT, eats, goneL, rdD, wrD, simpleD, anyOwn, disj, ldD, ldOK, mvD, q1], by simp [pairsOK, compatDyn, lowOK, allLt, labD, skips, guardD, looksG, guardSlot, looksD, goneD, eatsT, eats, goneL, rdD, wrD, simpleD, anyOwn, disj, ldD, ldOK, mvD, q1], ?_⟩
            simp [g17, hw]
            exact .same (xc.length - (i + 1)) (by omega) ⟨i + 1, ((wordsL (x.take xc[i].next.toNat)).length : Int) == ((wordsL (y.take yc[i].next.toNat)).length : Int), fin _ (by simp [eqR, rem1, q1]), rfl, by omega, by simp, by simp [g0], by simp [g1], by simp [g6], by simp [g7], by simp [g9], by simp [g10], by simp [g14], by simp, by simp [hw]⟩
        · simp [hlt, g16]
          exact ⟨rfl, by simp [g0], by simp [g1], by simp [g14], by simp [g16, hq]⟩
      · have hil : i = xc.length := by omega
        subst hil
        simp
        have hs : sm = N := by
          rcases hsm with ⟨rfl, hl, hq⟩ | ⟨rfl, hq⟩
          · rw [← hq, List.drop_eq_nil_of_le (Nat.le_refl _), List.drop_eq_nil_of_le (by omega)]; rfl
          · exact hq.symm
        exact ⟨rfl, by simp [g0], by simp [g1], by simp [g14], by simp [g16, hs]⟩
    · rintro ⟨tm, hp⟩ ⟨h0, g0, g1, g14, g16⟩
      simp only at h0 g0 g1 g14 g16
      subst h0
      simp [g0, g1]
      refine CallGoal.same tok ?_
      simp [g0, g1, g14]
      refine CallGoal.same com ?_
      simp [g0, g1, g14, g16]
      exact .keep (by simp) (.refl _) (by simp) (by simp) (by simp) (by simp)
end Dm.Ju
end Go.Proofs
