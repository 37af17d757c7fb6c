/- Part of the proof: contracts of the functions, walked by the D-machine. No condition. -/
import Derived.Test.YtmbnkgagicgcoaaDoorMU12
set_option linter.unusedSimpArgs false
set_option linter.unusedVariables false
set_option maxHeartbeats 8000000
set_option maxRecDepth 100000
namespace Go.Proofs
open Go Go.RowKit
namespace Dm.Ju
open Dm Dm.Sc Go.Proofs.Tryd
attribute [local simp] takes handsOn isTmp Op.operands Call.operands
/-- What stays in a slot all along. -/
def rnS (a b : List Fil) (tk' : List Bnd) (name : ByteArray) (st : St) : Prop := st.hp = [] ∧ st.tm 0 = .p (.sl 2 (a.map encF)) ∧ st.tm 1 = .p (.sl 2 (b.map encF)) ∧ st.tm 2 = .p (.sl 4 (tk'.map encB)) ∧ st.tm 3 = .p (.str name)
def rnO (a b : List Fil) (tk' : List Bnd) (name : ByteArray) (E : Bool) (m : Nat) (st : St) : Prop := ∃ (i : Nat) (sm : Bool), ((sm = true ∧ a.length = b.length ∧ renF tk' name (a.drop i) (b.drop i) i = E) ∨ (sm = false ∧ E = false)) ∧ m = a.length - i ∧ i ≤ a.length ∧ rnS a b tk' name st ∧ st.tm 10 = .p (.bool sm) ∧ st.tm 11 = i64 (i : Nat)
def rnK (a b : List Fil) (tk' : List Bnd) (name : ByteArray) (x y : List Tok) (i : Nat) (E F : Bool) (m : Nat) (st : St) : Prop := ∃ (k : Nat) (sm : Bool), ((sm = true ∧ x.length = y.length ∧ (renRow tk' name i (x.drop k) (y.drop k) k && F) = E) ∨ (sm = false ∧ E = false)) ∧ m = x.length - k ∧ k ≤ x.length ∧ rnS a b tk' name st ∧ st.tm 10 = .p (.bool sm) ∧ st.tm 11 = i64 (i : Nat) ∧ st.tm 12 = tk x ∧ st.tm 15 = tk y ∧ st.tm 18 = i64 (k : Nat)
def rnJ (a b : List Fil) (tk' : List Bnd) (name : ByteArray) (x y : List Tok) (i k : Nat) (t : Tok) (m : Nat) (st : St) : Prop := ∃ j : Nat, m = tk'.length - j ∧ j ≤ tk'.length ∧ rnS a b tk' name st ∧ st.tm 11 = i64 (i : Nat) ∧ st.tm 12 = tk x ∧ st.tm 15 = tk y ∧ st.tm 18 = i64 (k : Nat) ∧ st.tm 19 = .p (.str (wantT (tk'.take j) name i k t)) ∧ st.tm 20 = i64 (j : Nat)
def rnB (a b : List Fil) (tk' : List Bnd) (name : ByteArray) (x y : List Tok) (i : Nat) (E F : Bool) (st : St) : Prop := ∃ sm : Bool, ((sm = true ∧ x.length = y.length ∧ (renRow tk' name i x y 0 && F) = E) ∨ (sm = false ∧ E = false)) ∧ rnS a b tk' name st ∧ st.tm 10 = .p (.bool sm) ∧ st.tm 11 = i64 (i : Nat) ∧ st.tm 12 = tk x ∧ st.tm 15 = tk y ∧ st.tm 18 = i64 0
theorem wantT_succ (l : List Bnd) (name : ByteArray) (i k j : Nat) (t : Tok) (h : j < l.length) : wantT (l.take (j + 1)) name i k t = if isB i k l[j] then name else wantT (l.take j) name i k t := by
  rw [List.take_succ_eq_append_getElem h]
  simp only [wantT, List.any_append, List.any_cons, List.any_nil, Bool.or_false]
  by_cases h1 : isB i k l[j] = true
  · simp [h1]
  · simp [h1]
theorem judgeRenamed_ok {W0 nb} {a b : List Fil} {toks : List Bnd} {name : ByteArray} (h2 : 2 ≤ nb) (hT : Lib.Utf8Tabs 0 1 W0) :
    DCalls ⟨Tryd.prog, W0, nb⟩ 4 [.p (.sl 2 (a.map encF)), .p (.sl 2 (b.map encF)), .p (.sl 4 (toks.map encB)), .p (.str name)] [] (.p (.bool true)) [] := by
  have ka := cutFiles_ok (W0 := W0) (nb := nb) (l := a)
  have kb := cutFiles_ok (W0 := W0) (nb := nb) (l := b)
  have kn := cut_ok (W0 := W0) (nb := nb) (s := name) (n := 30) (by decide)
  have ha := cutFs_text a
  have hb := cutFs_text b
  have la := cutFs_len a
  generalize cutFs a = A at *
  generalize cutFs b = B at *
  generalize cutS name 30 = nm at *
  simp at kn
  refine dcalls_end Tryd.func4 rfl (by kernel_rfl) 155 Tryd.ntmps4 #[.tmp 8] rfl (Nat.le_of_ble_eq_true rfl) ?_
  simp
  refine CallGoal.same (begun_ok h2 hT) ?_
  simp
  refine CallGoal.same ka ?_
  simp
  refine CallGoal.same kb ?_
  simp
  refine CallGoal.same kn ?_
  simp
  apply IfGoal.cut (fun st => rnS A B (toks.take 30) nm st)
  · refine ifGoal_of (fun q => ?_) (fun q => ?_)
    · have q' : 30 < toks.length := by
        have : (30 : Int) < toks.length := by simpa using q
        omega
      simp [q', show 30 ≤ toks.length by omega, show (30 : Int) ≤ toks.length by omega]
      exact ⟨by simp, by simp, by simp, by simp [List.map_take], by simp⟩
    · have q' : ¬ 30 < toks.length := by
        have : ¬ (30 : Int) < toks.length := by simpa using q
        omega
      simp
      exact ⟨by simp, by simp, by simp, by simp [List.take_of_length_le (show toks.length ≤ 30 by omega)], by simp⟩
  have lt : (toks.take 30).length < 100000000 := by simp; omega
  generalize toks.take 30 = T at *
  rintro ⟨tm, hp⟩ ⟨h0, g0, g1, g2, g3⟩
  simp only at h0 g0 g1 g2 g3
  subst h0
  have cr := renamed_ok (W0 := W0) (nb := nb) (a := A) (b := B) (toks := T) (name := nm) h2 hT ha hb (by omega) lt
  have cf := files_ok (W0 := W0) (nb := nb) (a := A) (b := B) (by omega)
  have ce := eqFiles_ok (W0 := W0) (nb := nb) (a := A) (b := B) (by omega)
  obtain ⟨E, hE⟩ : ∃ E, renamedP A B T nm = E := ⟨_, rfl⟩
  rw [hE] at cr
  simp only [renamedP] at hE
  simp [g0, g1]
  refine LoopGoal.cut (fun st => rnS A B T nm st ∧ st.tm 10 = .p (.bool E)) ?_ ?_
  · refine ⟨rnO A B T nm E, A.length, .here ⟨0, A.length == B.length, ?_, by simp, by simp, ⟨by simp, by simp [g0], by simp [g1], by simp [g2], by simp [g3]⟩, by simp [cbeq], by simp⟩, ?_⟩
    · by_cases hl : A.length = B.length
      · have hl' : (A.length == B.length) = true := by simpa using hl
        rw [hl', Bool.true_and] at hE
        exact .inl ⟨hl', hl, hE⟩
      · have hl' : (A.length == B.length) = false := by simpa using hl
        rw [hl', Bool.false_and] at hE
        exact .inr ⟨hl', hE.symm⟩
    rintro m ⟨tm, hp⟩ ⟨i, sm, hsm, rfl, hi, ⟨h0, g0, g1, g2, g3⟩, g10, g11⟩
    simp only at h0 g0 g1 g2 g3 g10 g11
    subst h0
    simp [g0, g10, g11]
    rcases Nat.lt_or_ge i A.length with hlt | hge
    rotate_left
    · have hil : i = A.length := by omega
      subst hil
      simp
      have hs : sm = E := by
        rcases hsm with ⟨rfl, hl, hq⟩ | ⟨rfl, hq⟩
        · rw [← hq, List.drop_eq_nil_of_le (Nat.le_refl _)]
          simp [renF]
        · exact hq.symm
      exact ⟨⟨by simp, by simp [g0], by simp [g1], by simp [g2], by simp [g3]⟩, by simp [g10, hs]⟩
    rcases hsm with ⟨rfl, hl, hq⟩ | ⟨rfl, hq⟩
    rotate_left
    · simp [hlt, g10]
      exact ⟨⟨by simp, by simp [g0], by simp [g1], by simp [g2], by simp [g3]⟩, by simp [g10, hq]⟩
    have hlt2 : i < B.length := by omega
    have hd1 : A.drop i = A[i] :: A.drop (i + 1) := List.drop_eq_getElem_cons hlt
    have hd2 : B.drop i = B[i] :: B.drop (i + 1) := List.drop_eq_getElem_cons hlt2
    rw [hd1, hd2] at hq
    simp only [renF] at hq
    have hw := w64_id (n := (i : Int) + 1) (by omega) (by omega)
    simp only [w64] at hw
    have hsa := ha A[i] (List.getElem_mem hlt)
    have hsb := hb B[i] (List.getElem_mem hlt2)
    have ca := Rs.scan_ok (W0 := W0) (nb := nb) (s := A[i].text) hsa
    have cb := Rs.scan_ok (W0 := W0) (nb := nb) (s := B[i].text) hsb
    have lx := scanP_len A[i].text
    simp only [headF] at hq
    obtain ⟨X, hX⟩ : ∃ X, scanP A[i].text = X := ⟨_, rfl⟩
    obtain ⟨Y, hY⟩ : ∃ Y, scanP B[i].text = Y := ⟨_, rfl⟩
    rw [hX] at hq ca lx
    rw [hY] at hq cb
    obtain ⟨x, xc, f⟩ := X
    obtain ⟨y, yc, g⟩ := Y
    simp only [Sc.toks, coms] at hq ca cb lx
    obtain ⟨F, hF⟩ : ∃ F, renF T nm (A.drop (i + 1)) (B.drop (i + 1)) (i + 1) = F := ⟨_, rfl⟩
    rw [hF] at hq
    simp [hlt, g0, g1, g10, g11, encF]
    refine CallGoal.same ca ?_
    simp [hlt, hlt2, g0, g1, g10, g11, encF]
    refine CallGoal.same cb ?_
    simp [hlt, hlt2, g0, g1, g10, g11, encF]
    refine drawWp.intro [] [9] mixed (by kernel_rfl) (by kernel_rfl) (by kernel_rfl) ?_
    apply join (J := rnB A B T nm x y i E F)
    case main =>
      intro key
      simp [hlt, hlt2, g0, g1, g10, g11, encF]
      cases q1 : A[i].name.toList == B[i].name.toList with
      | false =>
        simp only [q1, Bool.false_and] at hq
        simp [hlt, hlt2, g0, g1, g11, encF, q1]
        refine ⟨by simp [pairsOK, compatDyn, lowOK, allLt, labD, skips, guardD, looksG, guardSlot, looksD, goneD, eatsT, eats, goneL, rdD, wrD, simpleD, anyOwn, disj, ldD, ldOK, mvD, q1], by simp [pairsOK, compatDyn, lowOK, allLt, labD, skips, guardD, looksG, guardSlot, looksD, goneD, eatsT, eats, goneL, rdD, wrD, simpleD, anyOwn, disj, ldD, ldOK, mvD, q1], ?_⟩
        simp
        exact key _ ⟨false, .inr ⟨rfl, hq.symm⟩, ⟨by simp, by simp [g0], by simp [g1], by simp [g2], by simp [g3]⟩, by simp, by simp [g11], by simp, by simp, by simp⟩
      | true =>
      by_cases q2 : f < 0
      rotate_left
      · simp only [q1, q2, decide_false, Bool.false_and, Bool.and_false] at hq
        simp [hlt, hlt2, g0, g1, g11, encF, q1, q2]
        refine ⟨by simp [pairsOK, compatDyn, lowOK, allLt, labD, skips, guardD, looksG, guardSlot, looksD, goneD, eatsT, eats, goneL, rdD, wrD, simpleD, anyOwn, disj, ldD, ldOK, mvD, q1, q2], by simp [pairsOK, compatDyn, lowOK, allLt, labD, skips, guardD, looksG, guardSlot, looksD, goneD, eatsT, eats, goneL, rdD, wrD, simpleD, anyOwn, disj, ldD, ldOK, mvD, q1, q2], ?_⟩
        simp
        exact key _ ⟨false, .inr ⟨rfl, hq.symm⟩, ⟨by simp, by simp [g0], by simp [g1], by simp [g2], by simp [g3]⟩, by simp, by simp [g11], by simp, by simp, by simp⟩
      by_cases q3 : g < 0
      rotate_left
      · simp only [q1, q2, q3, decide_false, Bool.false_and, Bool.and_false] at hq
        simp [hlt, hlt2, g0, g1, g11, encF, q1, q2, q3]
        refine ⟨by simp [pairsOK, compatDyn, lowOK, allLt, labD, skips, guardD, looksG, guardSlot, looksD, goneD, eatsT, eats, goneL, rdD, wrD, simpleD, anyOwn, disj, ldD, ldOK, mvD, q1, q2, q3], by simp [pairsOK, compatDyn, lowOK, allLt, labD, skips, guardD, looksG, guardSlot, looksD, goneD, eatsT, eats, goneL, rdD, wrD, simpleD, anyOwn, disj, ldD, ldOK, mvD, q1, q2, q3], ?_⟩
        simp
        exact key _ ⟨false, .inr ⟨rfl, hq.symm⟩, ⟨by simp, by simp [g0], by simp [g1], by simp [g2], by simp [g3]⟩, by simp, by simp [g11], by simp, by simp, by simp⟩
      simp [hlt, hlt2, g0, g1, g11, encF, q1, q2, q3]
      refine ⟨by simp [pairsOK, compatDyn, lowOK, allLt, labD, skips, guardD, looksG, guardSlot, looksD, goneD, eatsT, eats, goneL, rdD, wrD, simpleD, anyOwn, disj, ldD, ldOK, mvD, q1, q2, q3], by simp [pairsOK, compatDyn, lowOK, allLt, labD, skips, guardD, looksG, guardSlot, looksD, goneD, eatsT, eats, goneL, rdD, wrD, simpleD, anyOwn, disj, ldD, ldOK, mvD, q1, q2, q3], ?_⟩
      simp
      by_cases q4 : x.length = y.length
      · have q4'' : (x.length == y.length) = true := by simpa using q4
        simp only [q1, q2, q3, q4'', decide_true, Bool.true_and] at hq
        exact key _ ⟨true, .inl ⟨rfl, q4, hq⟩, ⟨by simp, by simp [g0], by simp [g1], by simp [g2], by simp [g3]⟩, by simp [cbeq, q4], by simp [g11], by simp, by simp, by simp⟩
      · have q4'' : (x.length == y.length) = false := by simpa using q4
        simp only [q1, q2, q3, q4'', decide_true, Bool.true_and, Bool.and_false, Bool.false_and] at hq
        exact key _ ⟨false, .inr ⟨rfl, hq.symm⟩, ⟨by simp, by simp [g0], by simp [g1], by simp [g2], by simp [g3]⟩, by simp [cbeq, q4], by simp [g11], by simp, by simp, by simp⟩
    case key =>
      clear hq
      rintro ⟨tm, hp⟩ ⟨sm1, hsm1, ⟨h0, g0, g1, g2, g3⟩, g10, g11, g12, g15, g18⟩
      simp only at h0 g0 g1 g2 g3 g10 g11 g12 g15 g18
      subst h0
      refine ⟨rnK A B T nm x y i E F, x.length, .here ⟨0, sm1, by simpa using hsm1, by simp, by simp, ⟨by simp, by simp [g0], by simp [g1], by simp [g2], by simp [g3]⟩, by simp [g10], by simp [g11], by simp [g12], by simp [g15], by simp [g18]⟩, ?_⟩
      clear hsm1
      rintro m ⟨tm, hp⟩ ⟨k, sm, hsm, rfl, hk, ⟨h0, g0, g1, g2, g3⟩, g10, g11, g12, g15, g18⟩
      simp only at h0 g0 g1 g2 g3 g10 g11 g12 g15 g18
      subst h0
      simp [g10, g12, g18]
      have out : sm = false ∨ k = x.length → (sm = true ∧ A.length = B.length ∧ renF T nm (A.drop (i + 1)) (B.drop (i + 1)) (i + 1) = E) ∨ (sm = false ∧ E = false) := by
        intro ho
        rcases hsm with ⟨rfl, hxl, hq⟩ | ⟨rfl, hq⟩
        · rcases ho with ho | ho
          · cases ho
          · subst ho
            rw [List.drop_eq_nil_of_le (Nat.le_refl _)] at hq
            simp only [renRow, Bool.true_and] at hq
            exact .inl ⟨rfl, hl, by rw [hF, hq]⟩
        · exact .inr ⟨rfl, hq⟩
      rcases Nat.lt_or_ge k x.length with klt | kge
      rotate_left
      · have hkl : k = x.length := by omega
        simp [show ¬ k < x.length by omega, g11, hw]
        exact .same (A.length - (i + 1)) (by omega) ⟨i + 1, sm, out (.inr hkl), rfl, by omega, ⟨by simp, by simp [g0], by simp [g1], by simp [g2], by simp [g3]⟩, by simp [g10], by simp [hw]⟩
      cases sm with
      | false =>
        simp [klt, g10, g11, hw]
        exact .same (A.length - (i + 1)) (by omega) ⟨i + 1, false, out (.inl rfl), rfl, by omega, ⟨by simp, by simp [g0], by simp [g1], by simp [g2], by simp [g3]⟩, by simp [g10], by simp [hw]⟩
      | true =>
      clear out
      rcases hsm with ⟨_, hxl, hq⟩ | ⟨hbad, _⟩
      rotate_left
      · cases hbad
      have klt2 : k < y.length := by omega
      have kd1 : x.drop k = x[k] :: x.drop (k + 1) := List.drop_eq_getElem_cons klt
      have kd2 : y.drop k = y[k] :: y.drop (k + 1) := List.drop_eq_getElem_cons klt2
      rw [kd1, kd2] at hq
      simp only [renRow] at hq
      have kw := w64_id (n := (k : Int) + 1) (by omega) (by omega)
      simp only [w64] at kw
      simp [klt, g10, g12, g18, encT]
      refine ⟨rnJ A B T nm x y i k x[k], T.length, .here ⟨0, by simp, by simp, ⟨by simp, by simp [g0], by simp [g1], by simp [g2], by simp [g3]⟩, by simp [g11], by simp [g12], by simp [g15], by simp [g18], by simp [wantT], by simp⟩, ?_⟩
      rintro m ⟨tm, hp⟩ ⟨j, rfl, hj, ⟨h0, g0, g1, g2, g3⟩, g11, g12, g15, g18, g19, g20⟩
      simp only at h0 g0 g1 g2 g3 g11 g12 g15 g18 g19 g20
      subst h0
      simp [g2, g20]
      rcases Nat.lt_or_ge j T.length with jlt | jge
      · have jw := w64_id (n := (j : Int) + 1) (by omega) (by omega)
        simp only [w64] at jw
        have hs := wantT_succ T nm i k j x[k] jlt
        simp [jlt, g2, g11, g18, g20, encB]
        simp only [isB] at hs
        cases c1 : T[j].file == (i : Int) with
        | false =>
          simp only [c1, Bool.false_and, Bool.false_eq_true, if_false] at hs
          simp [jlt, g2, g18, g20, encB, jw]
          exact .same (T.length - (j + 1)) (by omega) ⟨j + 1, rfl, by omega, ⟨by simp, by simp [g0], by simp [g1], by simp [g2], by simp [g3]⟩, by simp [g11], by simp [g12], by simp [g15], by simp [g18], by simp [g19, hs], by simp [jw]⟩
        | true =>
          simp only [c1, Bool.true_and] at hs
          simp [jlt, g2, g18, g20, encB, jw]
          cases c2 : T[j].tok == (k : Int) with
          | false =>
            simp only [c2, Bool.false_eq_true, if_false] at hs
            simp [jlt, g2, g18, g20, encB, jw]
            exact .same (T.length - (j + 1)) (by omega) ⟨j + 1, rfl, by omega, ⟨by simp, by simp [g0], by simp [g1], by simp [g2], by simp [g3]⟩, by simp [g11], by simp [g12], by simp [g15], by simp [g18], by simp [g19, hs], by simp [jw]⟩
          | true =>
            simp only [c2, if_true] at hs
            simp [jlt, g3, g2, g18, g20, encB, jw]
            exact .same (T.length - (j + 1)) (by omega) ⟨j + 1, rfl, by omega, ⟨by simp, by simp [g0], by simp [g1], by simp [g2], by simp [g3]⟩, by simp [g11], by simp [g12], by simp [g15], by simp [g18], by simp [hs], by simp [jw]⟩
      · have hjl : j = T.length := by omega
        subst hjl
        rw [List.take_length] at g19
        simp [klt2, g15, g18, g19, encT, kw]
        exact .same (x.length - (k + 1)) (by omega) ⟨k + 1, y[k].text.toList == (wantT T nm i k x[k]).toList, by
          cases hb2 : y[k].text.toList == (wantT T nm i k x[k]).toList with
          | true => rw [hb2, Bool.true_and] at hq; exact .inl ⟨rfl, hxl, hq⟩
          | false => rw [hb2, Bool.false_and, Bool.false_and] at hq; exact .inr ⟨rfl, hq.symm⟩, rfl, by omega, ⟨by simp, by simp [g0], by simp [g1], by simp [g2], by simp [g3]⟩, by simp, by simp [g11], by simp [g12], by simp [g15], by simp [kw]⟩
  · rintro ⟨tm, hp⟩ ⟨⟨h0, g0, g1, g2, g3⟩, g10⟩
    simp only at h0 g0 g1 g2 g3 g10
    subst h0
    simp [g0, g1, g2, g3]
    refine CallGoal.same cr ?_
    simp [g0, g1, g10]
    refine CallGoal.same cf ?_
    simp [g0, g1]
    refine CallGoal.same ce ?_
    simp
    exact .keep (by simp) (.refl _) (by simp) (by simp) (by simp) (by simp)
end Dm.Ju
end Go.Proofs
