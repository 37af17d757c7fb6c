/- Part of the proof: contracts of the functions, walked by the D-machine. No condition. -/
import Derived.Test.YtbijhjleceeogaaDoorVa
set_option linter.unusedSimpArgs false
set_option linter.unusedVariables false
set_option maxHeartbeats 8000000
set_option maxRecDepth 100000
namespace Go.Proofs.Dm
open Go Go.Proofs Go.Proofs.Tryd Go.Proofs.Dm.Sc
namespace Sh
attribute [local simp] encT encN encNs takes handsOn isTmp Op.operands Call.operands
def names28 : List ByteArray := names.drop 1
theorem rows28_len : (rowsS names28).length = 28 := rfl
theorem names28_get (i : Nat) : names28[i]? = names[i + 1]? := by
  simp only [names28, List.getElem?_drop]
  rw [Nat.add_comm]
theorem rows28_get {i : Nat} {x : ByteArray} (h : names28[i]? = some x) : (rowsS names28)[i]? = some [.str x] := by
  simp only [rowsS, List.getElem?_map, h]; rfl
theorem refName_ok {W0 nb k} : DCalls ⟨Tryd.prog, W0, nb⟩ 17 [i64 k] [] (.p (.str (nameOf k))) [] := by
  refine dcalls_end Tryd.func17 rfl (by kernel_rfl) 18 Tryd.ntmps17 #[.tmp 2] rfl (Nat.le_of_ble_eq_true rfl) ?_
  refine cwp_cut (fun s => s.hp = [] ∧ s.tm 0 = i64 k) ?_ ?_
  · simp
  rintro ⟨tm, hp⟩ ⟨e0, e1⟩
  simp only at e0 e1
  subst e0
  refine cwp_cut (fun s => s.hp = [] ∧ s.tm 0 = i64 k ∧ s.tm 3 = .own 9 1 (rowsS names28)) ?_ ?_
  · simp [e1, names28, names, rowsS]
  rintro ⟨tm, hp⟩ ⟨e0, e1, e3⟩
  simp only at e0 e1 e3
  subst e0
  have hL := rows28_len
  generalize hRN : rowsS names28 = RN at *
  rcases Int.lt_or_le k 1 with h | h
  · have e : nameOf k = ⟨#[]⟩ := by
      unfold nameOf
      split
      · have : k.toNat = 0 := by omega
        rw [this]; rfl
      · rfl
    rw [e]
    simp [e1, e3, hL, h]
    exact .keep (by simp) (.refl _) (by simp) (by simp) (by simp) (by simp)
  have h' : ¬ k < 1 := by omega
  rcases Int.lt_or_le 28 k with g | g
  · have e : nameOf k = ⟨#[]⟩ := by
      unfold nameOf
      rw [if_pos (by omega), List.getElem?_eq_none (by rw [names_len]; omega)]; rfl
    rw [e]
    simp [e1, e3, hL, h', g]
    exact .keep (by simp) (.refl _) (by simp) (by simp) (by simp) (by simp)
  · obtain ⟨j, rfl⟩ := Int.eq_ofNat_of_zero_le (show 0 ≤ k by omega)
    obtain ⟨i, rfl⟩ : ∃ i, j = i + 1 := ⟨j - 1, by omega⟩
    have hi : i < 28 := by omega
    obtain ⟨x, hx⟩ : ∃ x, names[i + 1]? = some x := ⟨_, List.getElem?_eq_getElem (by rw [names_len]; omega)⟩
    have e : nameOf ((i + 1 : Nat) : Int) = x := by unfold nameOf; rw [if_pos (by omega), Int.toNat_natCast, hx]; rfl
    rw [e]
    have g1 := rows28_get (by rw [names28_get]; exact hx)
    rw [hRN] at g1
    have hi' : i < RN.length := by omega
    have g2 : RN[i] = [.str x] := by
      have := List.getElem?_eq_getElem hi'
      rw [g1] at this
      injection this with this
      exact this.symm
    have g' : ¬ (28 : Int) < ((i + 1 : Nat) : Int) := by omega
    have hw : IntKind.i64.wrap (((i + 1 : Nat) : Int) - 1) = (i : Int) := by
      have := w64_id (n := ((i + 1 : Nat) : Int) - 1) (by omega) (by omega)
      simp only [w64] at this
      rw [this]; omega
    generalize hz : ((i + 1 : Nat) : Int) = z at *
    simp [e1, e3, hL, h', g', hw, hi, hi', g1, g2]
    exact .keep (by simp) (.refl _) (by simp) (by simp) (by simp) (by simp)
theorem refBare_ok {W0 nb k} : DCalls ⟨Tryd.prog, W0, nb⟩ 18 [i64 k] [] (.p (.bool (bare k))) [] := by
  refine dcalls_end Tryd.func18 rfl (by kernel_rfl) 15 Tryd.ntmps18 #[.tmp 2] rfl (Nat.le_of_ble_eq_true rfl) ?_
  simp
  cases h0 : k == 1 with
  | true =>
    simp [bare, h0]
    exact .keep (by simp) (.refl _) (by simp) (by simp) (by simp) (by simp)
  | false =>
    cases h1 : k == 10 with
    | true =>
      simp [bare, h0, h1]
      exact .keep (by simp) (.refl _) (by simp) (by simp) (by simp) (by simp)
    | false =>
      cases h2 : k == 12 with
      | true =>
        simp [bare, h0, h1, h2]
        exact .keep (by simp) (.refl _) (by simp) (by simp) (by simp) (by simp)
      | false =>
        cases h3 : k == 25 with
        | true =>
          simp [bare, h0, h1, h2, h3]
          exact .keep (by simp) (.refl _) (by simp) (by simp) (by simp) (by simp)
        | false =>
          cases h4 : k == 26 with
          | true =>
            simp [bare, h0, h1, h2, h3, h4]
            exact .keep (by simp) (.refl _) (by simp) (by simp) (by simp) (by simp)
          | false =>
            cases h5 : k == 14 with
            | true =>
              simp [bare, h0, h1, h2, h3, h4, h5]
              exact .keep (by simp) (.refl _) (by simp) (by simp) (by simp) (by simp)
            | false =>
              cases h6 : k == 15 with
              | true =>
                simp [bare, h0, h1, h2, h3, h4, h5, h6]
                exact .keep (by simp) (.refl _) (by simp) (by simp) (by simp) (by simp)
              | false =>
                cases h7 : k == 16 with
                | true =>
                  simp [bare, h0, h1, h2, h3, h4, h5, h6, h7]
                  exact .keep (by simp) (.refl _) (by simp) (by simp) (by simp) (by simp)
                | false =>
                  cases h8 : k == 17 with
                  | true =>
                    simp [bare, h0, h1, h2, h3, h4, h5, h6, h7, h8]
                    exact .keep (by simp) (.refl _) (by simp) (by simp) (by simp) (by simp)
                  | false =>
                    cases h9 : k == 18 with
                    | true =>
                      simp [bare, h0, h1, h2, h3, h4, h5, h6, h7, h8, h9]
                      exact .keep (by simp) (.refl _) (by simp) (by simp) (by simp) (by simp)
                    | false =>
                      simp [bare, h0, h1, h2, h3, h4, h5, h6, h7, h8, h9]
                      exact .keep (by simp) (.refl _) (by simp) (by simp) (by simp) (by simp)
/-- Ahead of the loop. -/
def shH (l : List Tok) (k t : Int) (ks : List Nd) (st : St) : Prop := st.hp = [[i64 k, i64 t, .p (.sl 3 (encNs ks))]] ∧ st.tm 1 = .p (.sl 5 (l.map encT)) ∧ st.tm 2 = .ref 0 0 ∧ st.tm 5 = .p (.str (headS l k t)) ∧ st.tm 6 = i64 0
/-- The loop's invariant: what the kids ahead have written. -/
def shI (l : List Tok) (k t : Int) (ks : List Nd) (R : ByteArray) (m : Nat) (st : St) : Prop := ∃ (i : Nat) (s : ByteArray), i ≤ ks.length ∧ m = ks.length - i ∧ kidsS l s (ks.drop i) = R ∧ st.hp = [[i64 k, i64 t, .p (.sl 3 (encNs ks))]] ∧ st.tm 1 = .p (.sl 5 (l.map encT)) ∧ st.tm 2 = .ref 0 0 ∧ st.tm 5 = .p (.str s) ∧ st.tm 6 = i64 (i : Nat)
theorem refShape_step {W0 nb} {l : List Tok} {k t : Int} {ks : List Nd} (hl : l.length < 1099511627776) (hk : ks.length < 1099511627776) (hs : (shapeS l (.mk k t ks)).size < 1099511627776)
    (ih : ∀ x ∈ ks, DCalls ⟨Tryd.prog, W0, nb⟩ 9 [.agg ((encN x).map .p), .p (.sl 5 (l.map encT))] [] (.p (.str (shapeS l x))) []) :
    DCalls ⟨Tryd.prog, W0, nb⟩ 9 [.agg ((encN (.mk k t ks)).map .p), .p (.sl 5 (l.map encT))] [] (.p (.str (shapeS l (.mk k t ks)))) [] := by
  have hL := encNs_len ks
  obtain ⟨R, hR⟩ : ∃ R, kidsS l (headS l k t) ks = R := ⟨_, rfl⟩
  have hsz : R.size + 1 < 1099511627776 := by
    rw [← hR]
    simpa only [shapeS, ByteArray.size_append, s3] using hs
  have hh : (headS l k t).size ≤ R.size := by rw [← hR]; exact kids_grow l _ ks
  have e : shapeS l (.mk k t ks) = R ++ ⟨#[41]⟩ := by rw [← hR]; rfl
  rw [e]
  have hn := nameOf_size k
  have z1 : ¬ (9223372036854775807 : Int) < (((⟨#[40]⟩ : ByteArray).size : Nat) : Int) + ((nameOf k).size : Int) := by rw [s1]; omega
  have z2 : ¬ (9223372036854775807 : Int) < (((⟨#[40]⟩ : ByteArray).size : Nat) : Int) + ((nameOf k).size : Int) + (((⟨#[32]⟩ : ByteArray).size : Nat) : Int) := by rw [s1, s2]; omega
  refine dcalls_end Tryd.func9 rfl (by kernel_rfl) 54 Tryd.ntmps9 #[.tmp 4] rfl (Nat.le_of_ble_eq_true rfl) ?_
  simp
  refine CallGoal.same refName_ok ?_
  simp [z1]
  refine CallGoal.same refBare_ok ?_
  apply join (J := shH l k t ks)
  case main =>
    intro key
    cases hb : bare k with
    | true =>
      have eh : headS l k t = ⟨#[40]⟩ ++ nameOf k := by unfold headS; rw [hb]; rfl
      simp
      exact key _ ⟨by simp, by simp, by simp, by simp [eh], by simp⟩
    | false =>
      simp [z1, z2]
      rcases Int.lt_or_le t 0 with h0 | h0
      · have eh : headS l k t = ⟨#[40]⟩ ++ nameOf k ++ ⟨#[32]⟩ := by
          unfold headS tokT
          rw [if_neg (by rw [hb]; decide), if_neg (by omega)]
          apply ba_ext; simp
        have h0' : ¬ 0 ≤ t := by omega
        simp [h0']
        exact key _ ⟨by simp, by simp, by simp, by simp [eh], by simp⟩
      · obtain ⟨p, rfl⟩ := Int.eq_ofNat_of_zero_le h0
        rcases Nat.lt_or_ge p l.length with h1 | h1
        · have hg : l[p]? = some l[p] := List.getElem?_eq_getElem h1
          have eh : headS l k (p : Int) = ⟨#[40]⟩ ++ nameOf k ++ ⟨#[32]⟩ ++ l[p].text := by
            unfold headS tokT; rw [hb, if_pos h0, Int.toNat_natCast, hg]; rfl
          have h2 : (headS l k (p : Int)).size = 1 + (nameOf k).size + 1 + l[p].text.size := by rw [eh]; simp only [ByteArray.size_append, s1, s2]
          have z3 : ¬ (9223372036854775807 : Int) < (((⟨#[40]⟩ : ByteArray).size : Nat) : Int) + ((nameOf k).size : Int) + (((⟨#[32]⟩ : ByteArray).size : Nat) : Int) + (l[p].text.size : Int) := by rw [s1, s2]; omega
          simp [h1, hg, z3]
          exact key _ ⟨by simp, by simp, by simp, by simp [eh], by simp⟩
        · have h1' : ¬ p < l.length := by omega
          have eh : headS l k (p : Int) = ⟨#[40]⟩ ++ nameOf k ++ ⟨#[32]⟩ := by
            unfold headS tokT; rw [hb, if_pos h0, Int.toNat_natCast, List.getElem?_eq_none h1]
            apply ba_ext; simp
          simp [h1']
          exact key _ ⟨by simp, by simp, by simp, by simp [eh], by simp⟩
  case key =>
    rintro ⟨tm, hp⟩ ⟨e0, e1, e2, e5, e6⟩
    simp only at e0 e1 e2 e5 e6
    subst e0
    refine ⟨shI l k t ks R, ks.length, .here ⟨0, headS l k t, by omega, by omega, by simpa using hR, by simp, by simp [e1], by simp [e2], by simp [e5], by simp [e6]⟩, ?_⟩
    clear e1 e2 e5 e6
    rintro m ⟨tm, hp⟩ ⟨i, s, hi, rfl, hS, e0, e1, e2, e5, e6⟩
    simp only at e0 e1 e2 e5 e6
    subst e0
    rcases Nat.lt_or_ge i ks.length with hlt | hge
    · have hg := encNs_get ks i hlt
      have hlt' : i < (encNs ks).length := by omega
      have hg' : (encNs ks)[i] = encN ks[i] := by
        have := List.getElem?_eq_getElem hlt'
        rw [hg] at this
        injection this with this
        exact this.symm
      have hw := w64_id (n := (i : Int) + 1) (by omega) (by omega)
      simp only [w64] at hw
      have hd : ks.drop i = ks[i] :: ks.drop (i + 1) := List.drop_eq_getElem_cons hlt
      rw [hd, kidsS] at hS
      have hgr := kids_grow l (s ++ (⟨#[32]⟩ ++ shapeS l ks[i])) (ks.drop (i + 1))
      rw [hS] at hgr
      have c := ih ks[i] (List.getElem_mem hlt)
      obtain ⟨q, hq⟩ : ∃ q, ks[i] = q := ⟨_, rfl⟩
      rw [hq] at c hg hg' hS hgr
      obtain ⟨X, hX⟩ : ∃ X, shapeS l q = X := ⟨_, rfl⟩
      rw [hX] at c hS hgr
      obtain ⟨k1, t1, ks1⟩ := q
      simp only [encN] at c hg hg'
      simp only [ByteArray.size_append] at hgr
      have z4 : ¬ (9223372036854775807 : Int) < (((⟨#[32]⟩ : ByteArray).size : Nat) : Int) + (X.size : Int) := by omega
      have z5 : ¬ (9223372036854775807 : Int) < (s.size : Int) + ((((⟨#[32]⟩ : ByteArray).size : Nat) : Int) + (X.size : Int)) := by omega
      simp [hlt, hlt', hg, hg', hL, e1, e2, e5, e6]
      refine CallGoal.same (c) ?_
      try simp [e1, e2, e5, e6, z4, z5]
      try simp [z4, z5, hw, e1, e2, e5, e6]
      refine .same (ks.length - (i + 1)) (by omega) ⟨i + 1, s ++ (⟨#[32]⟩ ++ X), by omega, rfl, hS, ?_⟩
      simp [ e1, e2, e5, e6, hw]
    · have hn2 : ¬ i < ks.length := by omega
      have hd : ks.drop i = [] := List.drop_eq_nil_of_le (by omega)
      rw [hd, kidsS] at hS
      subst hS
      have z6 : ¬ (9223372036854775807 : Int) < (s.size : Int) + (((⟨#[41]⟩ : ByteArray).size : Nat) : Int) := by rw [s3]; omega
      simp [hn2, hL, e2, e5, e6, z6]
      exact .keep (by simp) (.refl _) (by simp) (by simp) (by simp) (by simp)
end Sh
end Go.Proofs.Dm
