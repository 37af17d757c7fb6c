/- Part of the proof: contracts of the functions, walked by the D-machine. No condition. -/
import Derived.Test.YtinhgekebidigaaDoorJL8
set_option linter.unusedSimpArgs false
set_option linter.unusedVariables false
set_option maxHeartbeats 16000000
set_option maxRecDepth 100000
namespace Go.Proofs.Dm
open Go Go.Proofs Go.Proofs.Tryd Go.Proofs.Dm.Sc
namespace Pl
open Gr
attribute [local simp] encT encN encNs takes handsOn isTmp Op.operands Call.operands
def sT (neg : Bool) (l : List Bool) : Nat → ByteArray
  | 0 => if neg then ⟨#[45, 97]⟩ else ⟨#[97]⟩
  | k + 1 => if l.getD k false then sT neg l k ++ ⟨#[46, 98]⟩ else sT neg l k ++ ⟨#[40, 49, 41]⟩
theorem sT_size (neg : Bool) (l : List Bool) : ∀ k, (sT neg l k).size ≤ 2 + 3 * k
  | 0 => by cases neg <;> simp [sT, ByteArray.size]
  | k + 1 => by
    have e1 : (⟨#[46, 98]⟩ : ByteArray).size = 2 := rfl
    have e2 : (⟨#[40, 49, 41]⟩ : ByteArray).size = 3 := rfl
    have h := sT_size neg l k
    simp only [sT]
    split <;> simp only [ByteArray.size_append, e1, e2] <;> omega
theorem sT_list (neg : Bool) (l : List Bool) : ∀ k m, k ≤ l.length → (sT neg l k).data.toList ++ tlB m = headB neg (l.take k ++ m)
  | 0, m, _ => by cases neg <;> rfl
  | k + 1, m, h => by
    have hk : k < l.length := by omega
    have hg : l.getD k false = l[k] := by simp [List.getD, hk]
    have ht : l.take (k + 1) ++ m = l.take k ++ l[k] :: m := by rw [← List.take_append_getElem hk, List.append_assoc]; rfl
    rw [ht, ← sT_list neg l k _ (by omega)]
    simp only [sT, hg]
    cases l[k] <;> simp [tlB, ByteArray.data_append]
def bRows (l : List Bool) : List (List PD) := l.map fun b => [.bool b]
theorem bRows_get {l : List Bool} {j : Nat} (h : j < l.length) : (bRows l)[j]? = some [.bool (l.getD j false)] := by
  simp [bRows, h, List.getD]
theorem bRows_len (l : List Bool) : (bRows l).length = l.length := by simp [bRows]
def tkS (l : List Bool) (neg : Bool) (st : St) : Prop := st.hp = [] ∧ st.tm 0 = .p (.sl 1 (bRows l)) ∧ st.tm 1 = .p (.bool neg) ∧ st.tm 6 = .p (.str (sT neg l 0))
def tkI (l : List Bool) (neg : Bool) (m : Nat) (st : St) : Prop := ∃ j : Nat, m = 30 - j ∧ j ≤ 30 ∧ j ≤ l.length ∧ st.hp = [] ∧ st.tm 0 = .p (.sl 1 (bRows l)) ∧ st.tm 1 = .p (.bool neg) ∧ st.tm 6 = .p (.str (sT neg l j)) ∧ st.tm 7 = i64 (j : Nat)
def tkJ (l : List Bool) (neg : Bool) (st : St) : Prop := ∃ j : Nat, j ≤ 30 ∧ j ≤ l.length ∧ st.hp = [] ∧ st.tm 0 = .p (.sl 1 (bRows l)) ∧ st.tm 1 = .p (.bool neg) ∧ st.tm 6 = .p (.str (sT neg l j)) ∧ st.tm 7 = i64 (j : Nat)
def tkU (l : List Bool) (j : Nat) (st : St) : Prop := ∃ y, tlR (l.take j).reverse y ∧ st.hp = [(encN y).map .p] ∧ st.tm 0 = .p (.sl 1 (bRows l)) ∧ st.tm 8 = .ref 0 0 ∧ st.tm 7 = i64 (j : Nat)
def tkL (l : List Bool) (m : Nat) (st : St) : Prop := ∃ y, m ≤ 30 ∧ m ≤ l.length ∧ tlR (l.take m).reverse y ∧ st.hp = [(encN y).map .p] ∧ st.tm 0 = .p (.sl 1 (bRows l)) ∧ st.tm 8 = .ref 0 0 ∧ st.tm 11 = i64 ((m : Int) - 1)
def tkM (st : St) : Prop := ∃ t, st.hp = [(encN (.mk 20 t [])).map .p] ∧ st.tm 8 = .ref 0 0
theorem tail_ok {W0 nb} (h2 : 2 ≤ nb) (hT : Lib.Utf8Tabs 0 1 W0) {l : List Bool} {neg : Bool} : DCalls ⟨Tryd.prog, W0, nb⟩ 5 [.p (.sl 1 (bRows l)), .p (.bool neg)] [] (.p (.bool true)) [] := by
  refine dcalls_end Tryd.func5 rfl (by kernel_rfl) 84 Tryd.ntmps5 #[.tmp 4] rfl (Nat.le_of_ble_eq_true rfl) ?_
  simp
  refine CallGoal.same (begun_ok h2 hT) ?_
  simp
  apply IfGoal.cut (tkS l neg)
  · refine ifGoal_of (fun q => ?_) (fun q => ?_)
    · subst q
      simp
      exact ⟨by simp, by simp, by simp, by simp [sT]⟩
    · subst q
      simp
      exact ⟨by simp, by simp, by simp, by simp [sT]⟩
  rintro ⟨tm, hp⟩ ⟨e0, g0, g1, g6⟩
  simp only at e0 g0 g1 g6
  subst e0
  simp [g0]
  refine LoopGoal.cut (tkJ l neg) ?_ ?_
  · refine ⟨tkI l neg, 30, .here ⟨0, by simp, by simp, by simp, by simp, by simp [g0], by simp [g1], by simp [g6], by simp⟩, ?_⟩
    clear g0 g1 g6
    rintro m ⟨tm, hp⟩ ⟨j, rfl, hj, hj2, h0, g0, g1, g6, g7⟩
    simp only at h0 g0 g1 g6 g7
    subst h0
    rcases Nat.lt_or_ge j l.length with hlt | hge
    · rcases Nat.lt_or_ge j 30 with hl3 | hg3
      · have hb := bRows_get hlt
        have hs := sT_size neg l j
        have hw := w64_id (n := (j : Int) + 1) (by omega) (by omega)
        simp only [w64] at hw
        have e1 : (⟨#[46, 98]⟩ : ByteArray).size = 2 := rfl
        have e2 : (⟨#[40, 49, 41]⟩ : ByteArray).size = 3 := rfl
        have w1 : ¬ (9223372036854775807 : Int) < ((sT neg l j).size : Int) + (⟨#[46, 98]⟩ : ByteArray).size := by rw [e1]; omega
        have w2 : ¬ (9223372036854775807 : Int) < ((sT neg l j).size : Int) + (⟨#[40, 49, 41]⟩ : ByteArray).size := by rw [e2]; omega
        have hl3' : (j : Int) < 30 := by omega
        obtain ⟨b, hb0⟩ : ∃ b, l.getD j false = b := ⟨_, rfl⟩
        rw [hb0] at hb
        have hstep : sT neg l (j + 1) = if b then sT neg l j ++ ⟨#[46, 98]⟩ else sT neg l j ++ ⟨#[40, 49, 41]⟩ := by simp only [sT, hb0]
        obtain ⟨hb1, hb2⟩ := List.getElem?_eq_some_iff.1 hb
        simp [g0, g7, bRows_len, hlt, hl3, hl3', hb2]
        cases b with
        | true =>
          simp [g6, g7, w1, hw]
          exact .same (30 - (j + 1)) (by omega) ⟨j + 1, rfl, by omega, by omega, by simp, by simp [g0], by simp [g1], by simp [hstep], by simp [hw]⟩
        | false =>
          simp [g6, g7, w2, hw]
          exact .same (30 - (j + 1)) (by omega) ⟨j + 1, rfl, by omega, by omega, by simp, by simp [g0], by simp [g1], by simp [hstep], by simp [hw]⟩
      · have : j = 30 := by omega
        subst this
        have hlt' : (30 : Int) < l.length := by omega
        simp [g0, g7, bRows_len, hlt, hlt']
        exact ⟨30, by omega, hj2, by simp, by simp [g0], by simp [g1], by simp [g6], by simp [g7]⟩
    · have hn : ¬ j < l.length := by omega
      simp [g0, g7, bRows_len, hn]
      exact ⟨j, hj, hj2, by simp, by simp [g0], by simp [g1], by simp [g6], by simp [g7]⟩
  clear g0 g1 g6
  rintro ⟨tm, hp⟩ ⟨j, hj, hj2, e0, g0, g1, g6, g7⟩
  simp only at e0 g0 g1 g6 g7
  subst e0
  have hs := sT_size neg l j
  have hsz : (preT ++ sT neg l j ++ nlT).size ≤ 2000 := by
    have e1 : preT.size = 22 := rfl
    have e2 : nlT.size = 1 := rfl
    simp only [ByteArray.size_append, e1, e2]; omega
  have hlist : (preT ++ sT neg l j ++ nlT).data.toList = preT.data.toList ++ headB neg (l.take j) := by
    have h := sT_list neg l j [] hj2
    rw [List.append_nil] at h
    rw [← h]
    simp [ByteArray.data_append, nlT, tlB]
  have htl : (l.take j).length = j := by simp; omega
  obtain ⟨e, t, heq, hnd, hlen⟩ := tail_eval (N := 100) (n := 10) (by omega) (by omega) hlist hsz
  have ce := expr_ok (W0 := W0) (nb := nb) h2 hT (s := sT neg l j) (by omega) (by decide) (by omega) heq
  simp [g6]
  refine CallGoal.same ce ?_
  obtain ⟨y0, y1, y2⟩ := e
  simp [g1]
  apply IfGoal.cut (tkU l j)
  · cases neg with
    | true =>
      obtain ⟨t5, y, hy, hr⟩ := hnd
      cases hy
      obtain ⟨c0, c1, c2⟩ := y
      simp
      exact ⟨.mk c0 c1 c2, hr, by simp, by simp [g0], by simp, by simp [g7]⟩
    | false =>
      simp
      exact ⟨.mk y0 y1 y2, hnd, by simp, by simp [g0], by simp, by simp [g7]⟩
  clear g0 g1 g6 g7
  rintro ⟨tm, hp⟩ ⟨y, hy, e0, g0, g8, g7⟩
  simp only at e0 g0 g8 g7
  subst e0
  have hw := w64_id (n := (j : Int) - 1) (by omega) (by omega)
  simp only [w64] at hw
  simp [g7, hw]
  refine LoopGoal.cut tkM ?_ ?_
  · refine ⟨tkL l, j, .here ⟨y, hj, hj2, hy, by simp, by simp [g0], by simp [g8], by simp [hw]⟩, ?_⟩
    clear g0 g8 g7 hy
    rintro m ⟨tm, hp⟩ ⟨y, hm, hm2, hy, h0, g0, g8, g11⟩
    simp only at h0 g0 g8 g11
    subst h0
    cases m with
    | zero =>
      obtain ⟨t5, rfl⟩ := hy
      simp [g11]
      exact ⟨t5, by simp, by simp [g8]⟩
    | succ m =>
      have hb := bRows_get (l := l) (j := m) (by omega)
      have hlm : m < l.length := by omega
      have hrev : (l.take (m + 1)).reverse = l.getD m false :: (l.take m).reverse := by
        rw [← List.take_append_getElem hlm]
        simp [List.getD, hlm]
      rw [hrev] at hy
      obtain ⟨b, hb0⟩ : ∃ b, l.getD m false = b := ⟨_, rfl⟩
      rw [hb0] at hb hy
      obtain ⟨hb1, hb2⟩ := List.getElem?_eq_some_iff.1 hb
      obtain ⟨t5, c, ks, rfl, hr⟩ := hy
      obtain ⟨c0, c1, c2⟩ := c
      have a1 : ((m + 1 : Nat) : Int) - 1 = (m : Int) := by omega
      rw [a1] at g11
      have hge : (0 : Int) ≤ m := by omega
      have hw := w64_id (n := (m : Int) - 1) (by omega) (by omega)
      simp only [w64] at hw
      have hn1 : ¬ (((encNs ks).length : Int) + 1 < 1) := by omega
      simp [g0, g11, hge, bRows_len, hlm, hb2]
      cases b with
      | true =>
        simp [g8, g11, hw, hn1]
        exact .same m (by omega) ⟨.mk c0 c1 c2, by omega, by omega, hr, by simp, by simp [g0], by simp [g8], by simp [hw]⟩
      | false =>
        simp [g8, g11, hw, hn1]
        exact .same m (by omega) ⟨.mk c0 c1 c2, by omega, by omega, hr, by simp, by simp [g0], by simp [g8], by simp [hw]⟩
  rintro ⟨tm, hp⟩ ⟨t5, h0, g8⟩
  simp only at h0 g8
  subst h0
  simp [g8]
  exact .keep (by simp) (.refl _) (by simp) (by simp) (by simp) (by simp)
end Pl
end Go.Proofs.Dm
