/- Part of the proof: contracts of the functions, walked by the D-machine. No condition. -/
import Derived.Test.YtbijhjleceeogaaDoorVi
import Derived.Test.YtbijhjleceeogaaDoorVc
set_option linter.unusedSimpArgs false
set_option linter.unusedVariables false
set_option maxHeartbeats 8000000
set_option maxRecDepth 100000
namespace Go.Proofs.Dm
open Go Go.Proofs Go.Proofs.Tryd Go.Proofs.Dm.Sc
namespace Sh
open Gr
attribute [local simp] encT encN encNs takes handsOn isTmp Op.operands Call.operands
theorem refShape_ok {W0 nb} {l : List Tok} {T B : Nat} (hT : ∀ t ∈ l, t.text.size ≤ T) (hl : l.length < 1099511627776) {nd : Nd} (hS : Small B nd) (hc : cnt nd * (T + 12) < 1099511627776) :
    DCalls ⟨Tryd.prog, W0, nb⟩ 9 [.agg ((encN nd).map .p), .p (.sl 5 (l.map encT))] [] (.p (.str (shapeS l nd))) [] := by
  revert hc
  induction hS with
  | @mk k t ks h1 h2 ih =>
    intro hc
    have h3 := shape_size hT (.mk k t ks)
    have h4 := len_cnts ks
    have h5 : cnts ks * 1 ≤ cnts ks * (T + 12) := Nat.mul_le_mul_left _ (by omega)
    have h6 : cnt (.mk k t ks) * (T + 12) = (T + 12) + cnts ks * (T + 12) := by simp only [cnt, Nat.add_mul, Nat.one_mul]
    refine refShape_step hl (by omega) (by omega) fun x hx => ih x hx ?_
    have h7 : cnt x * (T + 12) ≤ cnts ks * (T + 12) := Nat.mul_le_mul_right _ (cnt_mem hx)
    omega
/-! ### how many nodes there are, up to some -/
mutual
def bigP (most : Int) : Nd → Int
  | .mk _ _ ks => bigsP most 1 ks
def bigsP (most c : Int) : List Nd → Int
  | [] => c
  | x :: xs => if c ≤ most then bigsP most (c + bigP (most - c) x) xs else c
end
mutual
theorem bigP_lo : ∀ (nd : Nd) (most : Int), 1 ≤ bigP most nd
  | .mk _ _ ks, most => by simp only [bigP]; exact bigsP_lo ks most 1
theorem bigsP_lo : ∀ (ks : List Nd) (most c : Int), c ≤ bigsP most c ks
  | [], most, c => by simp [bigsP]
  | x :: xs, most, c => by
    simp only [bigsP]
    split
    · have h1 := bigP_lo x (most - c)
      have h2 := bigsP_lo xs most (c + bigP (most - c) x)
      omega
    · omega
end
mutual
theorem bigP_hi : ∀ (nd : Nd) (most : Int), 0 ≤ most → bigP most nd ≤ most + 1
  | .mk _ _ ks, most, h => by simp only [bigP]; exact bigsP_hi ks most 1 (by omega)
theorem bigsP_hi : ∀ (ks : List Nd) (most c : Int), c ≤ most + 1 → bigsP most c ks ≤ most + 1
  | [], most, c, h => by simpa [bigsP] using h
  | x :: xs, most, c, h => by
    simp only [bigsP]
    split
    · have h1 := bigP_hi x (most - c) (by omega)
      exact bigsP_hi xs most _ (by omega)
    · exact h
end
mutual
theorem bigP_cnt : ∀ (nd : Nd) (most : Int), bigP most nd ≤ most → bigP most nd = (cnt nd : Int)
  | .mk _ _ ks, most, h => by
    simp only [bigP] at h ⊢
    rw [bigsP_cnt ks most 1 h]
    simp only [cnt]; omega
theorem bigsP_cnt : ∀ (ks : List Nd) (most c : Int), bigsP most c ks ≤ most → bigsP most c ks = c + (cnts ks : Int)
  | [], most, c, h => by simp [bigsP, cnts]
  | x :: xs, most, c, h => by
    simp only [bigsP] at h ⊢
    split at h
    · rename_i q
      rw [if_pos q]
      have h1 := bigsP_lo xs most (c + bigP (most - c) x)
      have h2 := bigP_cnt x (most - c) (by omega)
      rw [bigsP_cnt xs most _ h, h2]
      simp only [cnts]; omega
    · omega
end
def biI (ks : List Nd) (k t : Int) (most R : Int) (m : Nat) (st : St) : Prop := ∃ (i : Nat) (c : Int), i ≤ ks.length ∧ m = ks.length - i ∧ 1 ≤ c ∧ c ≤ most + 1 ∧ bigsP most c (ks.drop i) = R ∧ st.hp = [[i64 k, i64 t, .p (.sl 3 (encNs ks))]] ∧ st.tm 1 = i64 most ∧ st.tm 2 = .ref 0 0 ∧ st.tm 5 = i64 c ∧ st.tm 6 = i64 (i : Nat)
theorem big_step {W0 nb} {k t : Int} {ks : List Nd} {most : Int} (h0 : 0 ≤ most) (h1 : most ≤ 100) (hk : ks.length < 1099511627776)
    (ih : ∀ x ∈ ks, ∀ m : Int, 0 ≤ m → m ≤ 100 → DCalls ⟨Tryd.prog, W0, nb⟩ 7 [.agg ((encN x).map .p), i64 m] [] (i64 (bigP m x)) []) :
    DCalls ⟨Tryd.prog, W0, nb⟩ 7 [.agg ((encN (.mk k t ks)).map .p), i64 most] [] (i64 (bigP most (.mk k t ks))) [] := by
  have hL := encNs_len ks
  obtain ⟨R, hR⟩ : ∃ R, bigsP most 1 ks = R := ⟨_, rfl⟩
  have e : bigP most (.mk k t ks) = R := by rw [← hR]; rfl
  rw [e]
  refine dcalls_end Tryd.func7 rfl (by kernel_rfl) 31 Tryd.ntmps7 #[.tmp 4] rfl (Nat.le_of_ble_eq_true rfl) ?_
  simp
  refine ⟨biI ks k t most R, ks.length, .here ⟨0, 1, by omega, by omega, by omega, by omega, by simpa using hR, by simp, by simp, by simp, by simp, by simp⟩, ?_⟩
  rintro m ⟨tm, hp⟩ ⟨i, c, hi, rfl, hc1, hc2, hS, e0, e1, e2, e5, e6⟩
  simp only at e0 e1 e2 e5 e6
  subst e0
  rcases Nat.lt_or_ge i ks.length with hlt | hge
  · have hd : ks.drop i = ks[i] :: ks.drop (i + 1) := List.drop_eq_getElem_cons hlt
    rw [hd, bigsP] at hS
    rcases Int.lt_or_le most c with hcm | hcm
    · have hcm' : ¬ c ≤ most := by omega
      rw [if_neg hcm'] at hS
      subst hS
      simp [hL, hlt, hcm', e1, e2, e5, e6]
      exact .keep (by simp) (.refl _) (by simp) (by simp) (by simp) (by simp)
    · rw [if_pos hcm] at hS
      have hg := encNs_get ks i hlt
      have hlt' : i < (encNs ks).length := by omega
      have hg' : (encNs ks)[i] = encN ks[i] := by
        have := List.getElem?_eq_getElem hlt'
        rw [hg] at this
        injection this with this
        exact this.symm
      have hw := w64_id (n := (i : Int) + 1) (by omega) (by omega)
      have hw1 := w64_id (n := most - c) (by omega) (by omega)
      have cc := ih ks[i] (List.getElem_mem hlt) (most - c) (by omega) (by omega)
      have b1 := bigP_lo ks[i] (most - c)
      have b2 := bigP_hi ks[i] (most - c) (by omega)
      have hw2 := w64_id (n := c + bigP (most - c) ks[i]) (by omega) (by omega)
      simp only [w64] at hw hw1 hw2
      obtain ⟨q, hq⟩ : ∃ q, ks[i] = q := ⟨_, rfl⟩
      rw [hq] at cc hg hg' hS b1 b2 hw2
      generalize bigP (most - c) q = X at *
      obtain ⟨k1, t1, ks1⟩ := q
      simp only [encN] at cc hg hg'
      simp [hL, hlt, hlt', hg, hg', hcm, hw1, e1, e2, e5, e6]
      refine CallGoal.same (cc) ?_
      try simp [e1, e2, e5, e6, hw2]
      try simp [hw, hw2, e1, e2, e5, e6]
      refine .same (ks.length - (i + 1)) (by omega) ⟨i + 1, c + X, by omega, rfl, by omega, by omega, hS, ?_⟩
      simp [e1, e2, e5, e6, hw, hw2]
  · have hn2 : ¬ i < ks.length := by omega
    have hd : ks.drop i = [] := List.drop_eq_nil_of_le (by omega)
    rw [hd, bigsP] at hS
    subst hS
    simp [hn2, hL, e1, e2, e5, e6]
    exact .keep (by simp) (.refl _) (by simp) (by simp) (by simp) (by simp)
theorem big_ok {W0 nb} {B : Nat} (hB : B < 1099511627776) {nd : Nd} (hS : Small B nd) : ∀ m : Int, 0 ≤ m → m ≤ 100 → DCalls ⟨Tryd.prog, W0, nb⟩ 7 [.agg ((encN nd).map .p), i64 m] [] (i64 (bigP m nd)) [] := by
  induction hS with
  | @mk k t ks h1 h2 ih => exact fun m hm0 hm1 => big_step hm0 hm1 (by omega) fun x hx => ih x hx
end Sh
end Go.Proofs.Dm

set_option linter.unusedSimpArgs false
set_option linter.unusedVariables false
set_option maxHeartbeats 8000000
set_option maxRecDepth 100000
namespace Go.Proofs.Dm
open Go Go.Proofs Go.Proofs.Tryd Go.Proofs.Dm.Sc
namespace Sh
open Gr
attribute [local simp] encT encN encNs takes handsOn isTmp Op.operands Call.operands
def anJ (l : List Tok) (k t : Int) (ks : List Nd) (st : St) : Prop := ∃ l' : List Tok, l'.length ≤ 20 ∧ (∀ x ∈ l', x ∈ l) ∧ st.hp = [[i64 k, i64 t, .p (.sl 3 (encNs ks))]] ∧ st.tm 1 = .p (.sl 5 (l'.map encT)) ∧ st.tm 2 = .ref 0 0
theorem any_ok {W0 nb} {l : List Tok} {T B : Nat} (h2 : 2 ≤ nb) (hTab : Lib.Utf8Tabs 0 1 W0) (hT : ∀ t ∈ l, t.text.size ≤ T) (hT2 : T ≤ 1000000000) (hl : l.length < 1099511627776) (hB : B < 1099511627776) {nd : Nd} (hS : Small B nd) :
    DCalls ⟨Tryd.prog, W0, nb⟩ 3 [.agg ((encN nd).map .p), .p (.sl 5 (l.map encT))] [] (.p (.bool true)) [] := by
  have cb := big_ok (W0 := W0) (nb := nb) hB hS 60 (by omega) (by omega)
  have hbc := bigP_cnt nd 60
  have hmul : cnt nd ≤ 60 → cnt nd * (T + 12) < 1099511627776 := fun h => by
    have := Nat.mul_le_mul h (show T + 12 ≤ 1000000012 by omega)
    omega
  have ct := fun (l' : List Tok) (h1 : l'.length ≤ 20) (h2 : ∀ x ∈ l', x ∈ l) (h3 : cnt nd ≤ 60) => text_ok (W0 := W0) (nb := nb) (l := l') (T := T) (fun t ht => hT t (h2 t ht)) (by omega) hS (hmul h3)
  have cs := fun (l' : List Tok) (h1 : l'.length ≤ 20) (h2 : ∀ x ∈ l', x ∈ l) (h3 : cnt nd ≤ 60) => refShape_ok (W0 := W0) (nb := nb) (l := l') (T := T) (fun t ht => hT t (h2 t ht)) (by omega) hS (hmul h3)
  obtain ⟨k, t, ks⟩ := nd
  obtain ⟨n, hn⟩ : ∃ n, bigP 60 (.mk k t ks) = n := ⟨_, rfl⟩
  rw [hn] at cb hbc
  simp only [encN] at cb ct cs
  refine dcalls_end Tryd.func3 rfl (by kernel_rfl) 24 Tryd.ntmps3 #[.tmp 4] rfl (Nat.le_of_ble_eq_true rfl) ?_
  simp
  refine CallGoal.same (begun_ok h2 hTab) ?_
  simp
  refine IfGoal.cut (anJ l k t ks) ?_ ?_
  · rcases Nat.lt_or_ge 20 l.length with hlt | hge
    · have hI : (20 : Int) < (l.length : Int) := by omega
      have hI2 : (20 : Int) ≤ (l.length : Int) := by omega
      simp [hI, hI2, hlt, Nat.le_of_lt hlt]
      exact ⟨l.take 20, by rw [List.length_take]; omega, fun x hx => List.mem_of_mem_take hx, by simp, by simp [List.map_take], by simp⟩
    · have hn2 : ¬ (20 : Int) < (l.length : Int) := by omega
      simp [hn2]
      exact ⟨l, hge, fun x hx => hx, by simp, by simp, by simp⟩
  · rintro ⟨tm, hp⟩ ⟨l', hl', hm, e0, e1, e2⟩
    simp only at e0 e1 e2
    subst e0
    simp [e1, e2]
    refine CallGoal.same (cb) ?_
    try simp [e1, e2]
    rcases Int.lt_or_le 60 n with hc | hc
    · simp [hc]
      exact .keep (by simp) (.refl _) (by simp) (by simp) (by simp) (by simp)
    · have hc' : ¬ 60 < n := by omega
      have hcnt : cnt (.mk k t ks) ≤ 60 := by have := hbc hc; omega
      simp [hc', e1, e2]
      refine drawWp.intro [(2, 3)] [3] mixed (by kernel_rfl) (by kernel_rfl) (by kernel_rfl) ?_
      try simp
      try simp [e1, e2]
      refine CallGoal.same (ct l' hl' hm hcnt) ?_
      try simp [e1, e2]
      refine CallGoal.same (cs l' hl' hm hcnt) ?_
      try simp [e1, e2]
      refine ⟨by simp [pairsOK, pairsOK2, compatAdd, compatCA, compatSt, Dm.stoB, Dm.callB, Dm.adB, compatDyn, lowOK, allLt, labD, skips, guardD, looksG, guardSlot, looksD, goneD, eatsT, eats, goneL, rdD, wrD, simpleD, anyOwn, disj, ldD, ldOK, mvD, e1, e2], by simp [pairsOK, pairsOK2, compatAdd, compatCA, compatSt, Dm.stoB, Dm.callB, Dm.adB, compatDyn, lowOK, allLt, labD, skips, guardD, looksG, guardSlot, looksD, goneD, eatsT, eats, goneL, rdD, wrD, simpleD, anyOwn, disj, ldD, ldOK, mvD, e1, e2], ?_⟩
      try simp
      try simp
      exact .keep (by simp) (.refl _) (by simp) (by simp) (by simp) (by simp)
end Sh
end Go.Proofs.Dm
