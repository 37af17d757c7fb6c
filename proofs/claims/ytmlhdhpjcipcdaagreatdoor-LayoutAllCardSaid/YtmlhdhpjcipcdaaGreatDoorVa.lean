/- Part of the proof: contracts of the functions, walked by the D-machine. No condition. -/
import Derived.Test.YtmlhdhpjcipcdaaGreatDoorPa
import Derived.Test.YtmlhdhpjcipcdaaGreatDoorHc
import Derived.Test.YtmlhdhpjcipcdaaGreatDoorSa
import Derived.Test.YtmlhdhpjcipcdaaGreatDoorDn
import Derived.Test.YtmlhdhpjcipcdaaGreatDoorSb
set_option linter.unusedSimpArgs false
set_option linter.unusedVariables false
set_option maxHeartbeats 8000000
set_option maxRecDepth 100000
namespace Go.Proofs.Dm
open Go Go.Proofs Go.Proofs.Tryz Go.Proofs.Dm.Sc
namespace Sh
def names : List ByteArray := [⟨#[]⟩, ⟨#[102, 105, 108, 101]⟩, ⟨#[112, 97, 99, 107, 97, 103, 101]⟩, ⟨#[105, 109, 112, 111, 114, 116]⟩, ⟨#[118, 97, 114]⟩, ⟨#[99, 111, 110, 115, 116]⟩, ⟨#[115, 116, 114, 117, 99, 116]⟩, ⟨#[102, 105, 101, 108, 100]⟩, ⟨#[102, 117, 110, 99]⟩, ⟨#[112, 97, 114, 97, 109]⟩, ⟨#[98, 108, 111, 99, 107]⟩, ⟨#[100, 101, 102, 105, 110, 101]⟩, ⟨#[100, 111]⟩, ⟨#[97, 115, 115, 105, 103, 110]⟩, ⟨#[105, 102]⟩, ⟨#[102, 111, 114]⟩, ⟨#[114, 101, 116, 117, 114, 110]⟩, ⟨#[98, 114, 101, 97, 107]⟩, ⟨#[99, 111, 110, 116, 105, 110, 117, 101]⟩, ⟨#[108, 97, 98, 101, 108]⟩, ⟨#[110, 97, 109, 101]⟩, ⟨#[105, 110, 116]⟩, ⟨#[115, 116, 114, 105, 110, 103]⟩, ⟨#[117, 110, 97, 114, 121]⟩, ⟨#[98, 105, 110, 97, 114, 121]⟩, ⟨#[112, 97, 114, 101, 110]⟩, ⟨#[99, 97, 108, 108]⟩, ⟨#[115, 101, 108, 101, 99, 116]⟩, ⟨#[116, 121, 112, 101]⟩]
def nameOf (k : Int) : ByteArray := if 0 ≤ k then (names[k.toNat]?).getD ⟨#[]⟩ else ⟨#[]⟩
def bare (k : Int) : Bool := k == 1 || k == 10 || k == 12 || k == 25 || k == 26 || k == 14 || k == 15 || k == 16 || k == 17 || k == 18
def tokT (l : List Tok) (t : Int) : ByteArray := if 0 ≤ t then ((l[t.toNat]?).map Tok.text).getD ⟨#[]⟩ else ⟨#[]⟩
def headS (l : List Tok) (k t : Int) : ByteArray := if bare k then ⟨#[40]⟩ ++ nameOf k else ⟨#[40]⟩ ++ nameOf k ++ ⟨#[32]⟩ ++ tokT l t
mutual
def shapeS (l : List Tok) : Nd → ByteArray
  | .mk k t ks => kidsS l (headS l k t) ks ++ ⟨#[41]⟩
def kidsS (l : List Tok) (s : ByteArray) : List Nd → ByteArray
  | [] => s
  | x :: xs => kidsS l (s ++ (⟨#[32]⟩ ++ shapeS l x)) xs
end
theorem names_len : names.length = 29 := rfl
theorem names_small : ∀ x ∈ names, x.size ≤ 8 := by decide
theorem e0 : (⟨#[]⟩ : ByteArray).size = 0 := rfl
theorem nameOf_size (k : Int) : (nameOf k).size ≤ 8 := by
  unfold nameOf
  split
  · cases h : names[k.toNat]? with
    | none => show (⟨#[]⟩ : ByteArray).size ≤ 8; rw [e0]; omega
    | some x => exact names_small x (List.mem_of_getElem? h)
  · rw [e0]; omega
theorem tokT_size {l : List Tok} {T : Nat} (hT : ∀ t ∈ l, t.text.size ≤ T) (t : Int) : (tokT l t).size ≤ T := by
  unfold tokT
  split
  · cases h : l[t.toNat]? with
    | none => show (⟨#[]⟩ : ByteArray).size ≤ T; rw [e0]; omega
    | some x => exact hT x (List.mem_of_getElem? h)
  · rw [e0]; omega
theorem s1 : (⟨#[40]⟩ : ByteArray).size = 1 := rfl
theorem s2 : (⟨#[32]⟩ : ByteArray).size = 1 := rfl
theorem s3 : (⟨#[41]⟩ : ByteArray).size = 1 := rfl
theorem headS_size {l : List Tok} {T : Nat} (hT : ∀ t ∈ l, t.text.size ≤ T) (k t : Int) : (headS l k t).size ≤ T + 10 := by
  have h1 := nameOf_size k
  have h2 := tokT_size hT t
  unfold headS
  split <;> simp only [ByteArray.size_append, s1, s2] <;> omega
mutual
theorem shape_size {l : List Tok} {T : Nat} (hT : ∀ t ∈ l, t.text.size ≤ T) : ∀ nd, (shapeS l nd).size + 1 ≤ Gr.cnt nd * (T + 12)
  | .mk k t ks => by
    have h1 := headS_size hT k t
    have h2 := kids_size hT (headS l k t) ks
    simp only [shapeS, Gr.cnt, ByteArray.size_append, s3, Nat.add_mul, Nat.one_mul]
    omega
theorem kids_size {l : List Tok} {T : Nat} (hT : ∀ t ∈ l, t.text.size ≤ T) : ∀ s ks, (kidsS l s ks).size ≤ s.size + Gr.cnts ks * (T + 12)
  | s, [] => by simp [kidsS, Gr.cnts]
  | s, x :: xs => by
    have h1 := shape_size hT x
    have h2 := kids_size hT (s ++ (⟨#[32]⟩ ++ shapeS l x)) xs
    simp only [kidsS, Gr.cnts, Nat.add_mul]
    simp only [ByteArray.size_append, s2] at h2
    omega
end
theorem kids_grow (l : List Tok) : ∀ (s : ByteArray) (ks : List Nd), s.size ≤ (kidsS l s ks).size
  | s, [] => Nat.le_refl _
  | s, x :: xs => by
    have := kids_grow l (s ++ (⟨#[32]⟩ ++ shapeS l x)) xs
    simp only [kidsS]
    simp only [ByteArray.size_append] at this
    omega
theorem cnt_mem : ∀ {ks : List Nd} {x : Nd}, x ∈ ks → Gr.cnt x ≤ Gr.cnts ks
  | [], x, h => by cases h
  | k :: ks, x, h => by
    simp only [Gr.cnts]
    rcases List.mem_cons.1 h with rfl | q
    · omega
    · have := cnt_mem q; omega
end Sh
end Go.Proofs.Dm

set_option linter.unusedSimpArgs false
set_option linter.unusedVariables false
set_option maxHeartbeats 8000000
set_option maxRecDepth 100000
namespace Go.Proofs.Dm
open Go Go.Proofs Go.Proofs.Tryz Go.Proofs.Dm.Sc
namespace Sh
attribute [local simp] encT encN encNs takes handsOn isTmp Op.operands Call.operands
theorem rows_len : (rowsS names).length = 29 := rfl
theorem rows_get {i : Nat} {x : ByteArray} (h : names[i]? = some x) : (rowsS names)[i]? = some [.str x] := by
  simp only [rowsS, List.getElem?_map, h]; rfl
theorem name_ok {W0 nb k} : DCalls ⟨Tryz.prog, W0, nb⟩ 49 [i64 k] [] (.p (.str (nameOf k))) [] := by
  refine dcalls_end Tryz.func49 rfl (by kernel_rfl) 17 Tryz.ntmps49 #[.tmp 2] rfl (Nat.le_of_ble_eq_true rfl) ?_
  refine cwp_cut (fun s => s.hp = [] ∧ s.tm 0 = i64 k) ?_ ?_
  · simp
  rintro ⟨tm, hp⟩ ⟨e0, e1⟩
  simp only at e0 e1
  subst e0
  refine cwp_cut (fun s => s.hp = [] ∧ s.tm 0 = i64 k ∧ s.tm 3 = .own 9 1 (rowsS names)) ?_ ?_
  · simp [e1, names, rowsS]
  rintro ⟨tm, hp⟩ ⟨e0, e1, e3⟩
  simp only at e0 e1 e3
  subst e0
  have hL := rows_len
  generalize hRN : rowsS names = RN at *
  rcases Int.lt_or_le k 0 with h | h
  · have e : nameOf k = ⟨#[]⟩ := by unfold nameOf; rw [if_neg (by omega)]
    rw [e]
    simp [e1, e3, hL, h]
    exact .kk
  have h' : ¬ k < 0 := by omega
  rcases Int.lt_or_le k 29 with g | g
  · obtain ⟨i, rfl⟩ := Int.eq_ofNat_of_zero_le h
    have hi : i < 29 := by omega
    obtain ⟨x, hx⟩ : ∃ x, names[i]? = some x := ⟨_, List.getElem?_eq_getElem (by rw [names_len]; exact hi)⟩
    have e : nameOf (i : Int) = x := by unfold nameOf; rw [if_pos (by omega), Int.toNat_natCast, hx]; rfl
    rw [e]
    have g1 := rows_get hx
    rw [hRN] at g1
    have hi' : i < RN.length := by omega
    have g2 : RN[i] = [.str x] := by
      have := List.getElem?_eq_getElem hi'
      rw [g1] at this
      injection this with this
      exact this.symm
    have g' : ¬ (29 : Int) ≤ (i : Int) := by omega
    simp [e1, e3, hL, h', g', hi, hi', g1, g2]
    exact .kk
  · have e : nameOf k = ⟨#[]⟩ := by
      unfold nameOf
      rw [if_pos h, List.getElem?_eq_none (by rw [names_len]; omega)]; rfl
    rw [e]
    simp [e1, e3, hL, h', g]
    exact .kk
theorem names_ok {W0 nb k} : DCalls ⟨Tryz.prog, W0, nb⟩ 50 [i64 k] [] (.p (.bool (!bare k))) [] := by
  refine dcalls_end Tryz.func50 rfl (by kernel_rfl) 15 Tryz.ntmps50 #[.tmp 2] rfl (Nat.le_of_ble_eq_true rfl) ?_
  simp
  cases h0 : k == 1 with
  | true =>
    simp [bare, h0]
    exact .kk
  | false =>
    cases h1 : k == 10 with
    | true =>
      simp [bare, h0, h1]
      exact .kk
    | false =>
      cases h2 : k == 12 with
      | true =>
        simp [bare, h0, h1, h2]
        exact .kk
      | false =>
        cases h3 : k == 25 with
        | true =>
          simp [bare, h0, h1, h2, h3]
          exact .kk
        | false =>
          cases h4 : k == 26 with
          | true =>
            simp [bare, h0, h1, h2, h3, h4]
            exact .kk
          | false =>
            cases h5 : k == 14 with
            | true =>
              simp [bare, h0, h1, h2, h3, h4, h5]
              exact .kk
            | false =>
              cases h6 : k == 15 with
              | true =>
                simp [bare, h0, h1, h2, h3, h4, h5, h6]
                exact .kk
              | false =>
                cases h7 : k == 16 with
                | true =>
                  simp [bare, h0, h1, h2, h3, h4, h5, h6, h7]
                  exact .kk
                | false =>
                  cases h8 : k == 17 with
                  | true =>
                    simp [bare, h0, h1, h2, h3, h4, h5, h6, h7, h8]
                    exact .kk
                  | false =>
                    cases h9 : k == 18 with
                    | true =>
                      simp [bare, h0, h1, h2, h3, h4, h5, h6, h7, h8, h9]
                      exact .kk
                    | false =>
                      simp [bare, h0, h1, h2, h3, h4, h5, h6, h7, h8, h9]
                      exact .kk
end Sh
end Go.Proofs.Dm

set_option linter.unusedSimpArgs false
set_option linter.unusedVariables false
set_option maxHeartbeats 8000000
set_option maxRecDepth 100000
namespace Go.Proofs.Dm
open Go Go.Proofs Go.Proofs.Tryz Go.Proofs.Dm.Sc
namespace Sh
attribute [local simp] encT encN encNs takes handsOn isTmp Op.operands Call.operands
theorem encNs_len : ∀ ks : List Nd, (encNs ks).length = ks.length
  | [] => rfl
  | k :: ks => by simp only [encNs, List.length_cons, encNs_len ks]
theorem encNs_get : ∀ (ks : List Nd) (i : Nat) (h : i < ks.length), (encNs ks)[i]? = some (encN ks[i])
  | [], i, h => by simp at h
  | k :: ks, 0, h => rfl
  | k :: ks, i + 1, h => by
    simp only [encNs, List.getElem?_cons_succ, List.getElem_cons_succ]
    exact encNs_get ks i (by simpa using h)
def teH (l : List Tok) (k t : Int) (ks : List Nd) (st : St) : Prop := st.hp = [[i64 k, i64 t, .p (.sl 3 (encNs ks))]] ∧ st.tm 1 = .p (.sl 5 (l.map encT)) ∧ st.tm 2 = .ref 0 0 ∧ st.tm 5 = .p (.str (headS l k t)) ∧ st.tm 36 = .p (.sl 3 (encNs ks)) ∧ st.tm 37 = i64 (ks.length : Nat) ∧ st.tm 38 = i64 0
def teI (l : List Tok) (k t : Int) (ks : List Nd) (R : ByteArray) (m : Nat) (st : St) : Prop := ∃ (i : Nat) (s : ByteArray), i ≤ ks.length ∧ m = ks.length - i ∧ kidsS l s (ks.drop i) = R ∧ st.hp = [[i64 k, i64 t, .p (.sl 3 (encNs ks))]] ∧ st.tm 1 = .p (.sl 5 (l.map encT)) ∧ st.tm 2 = .ref 0 0 ∧ st.tm 5 = .p (.str s) ∧ st.tm 36 = .p (.sl 3 (encNs ks)) ∧ st.tm 37 = i64 (ks.length : Nat) ∧ st.tm 38 = i64 (i : Nat)
theorem text_step {W0 nb} {l : List Tok} {k t : Int} {ks : List Nd} (hl : l.length < 1099511627776) (hk : ks.length < 1099511627776) (hs : (shapeS l (.mk k t ks)).size < 1099511627776)
    (ih : ∀ x ∈ ks, DCalls ⟨Tryz.prog, W0, nb⟩ 26 [.agg ((encN x).map .p), .p (.sl 5 (l.map encT))] [] (.p (.str (shapeS l x))) []) :
    DCalls ⟨Tryz.prog, W0, nb⟩ 26 [.agg ((encN (.mk k t ks)).map .p), .p (.sl 5 (l.map encT))] [] (.p (.str (shapeS l (.mk k t ks)))) [] := by
  have hL := encNs_len ks
  obtain ⟨R, hR⟩ : ∃ R, kidsS l (headS l k t) ks = R := ⟨_, rfl⟩
  have hsz : R.size + 1 < 1099511627776 := by
    rw [← hR]
    simpa only [shapeS, ByteArray.size_append, s3] using hs
  have hh : (headS l k t).size ≤ R.size := by rw [← hR]; exact kids_grow l _ ks
  have e : shapeS l (.mk k t ks) = R ++ ⟨#[41]⟩ := by rw [← hR]; rfl
  rw [e]
  have hn := nameOf_size k
  have z1 : ¬ (9223372036854775807 : Int) < (((⟨#[40]⟩ : ByteArray).size : Nat) : Int) + ((nameOf k).size : Int) := by rw [s1]; omega
  have z2 : ¬ (9223372036854775807 : Int) < (((⟨#[40]⟩ : ByteArray).size : Nat) : Int) + ((nameOf k).size : Int) + (((⟨#[32]⟩ : ByteArray).size : Nat) : Int) := by rw [s1, s2]; omega
  refine dcalls_end Tryz.func26 rfl (by kernel_rfl) 51 Tryz.ntmps26 #[.tmp 4] rfl (Nat.le_of_ble_eq_true rfl) ?_
  simp
  refine CallGoal.same name_ok ?_
  simp [z1]
  refine CallGoal.same names_ok ?_
  apply join (J := teH l k t ks)
  case main =>
    intro key
    cases hb : bare k with
    | true =>
      have eh : headS l k t = ⟨#[40]⟩ ++ nameOf k := by unfold headS; rw [hb]; rfl
      simp
      exact key _ ⟨by simp, by simp, by simp, by simp [eh], by simp, by simp [hL], by simp⟩
    | false =>
      simp [z1, z2]
      rcases Int.lt_or_le t 0 with h0 | h0
      · have eh : headS l k t = ⟨#[40]⟩ ++ nameOf k ++ ⟨#[32]⟩ := by
          unfold headS tokT
          rw [if_neg (by rw [hb]; decide), if_neg (by omega)]
          apply ba_ext; simp
        have h0' : ¬ 0 ≤ t := by omega
        simp [h0']
        exact key _ ⟨by simp, by simp, by simp, by simp [eh], by simp, by simp [hL], by simp⟩
      · obtain ⟨p, rfl⟩ := Int.eq_ofNat_of_zero_le h0
        rcases Nat.lt_or_ge p l.length with h1 | h1
        · have hg : l[p]? = some l[p] := List.getElem?_eq_getElem h1
          have eh : headS l k (p : Int) = ⟨#[40]⟩ ++ nameOf k ++ ⟨#[32]⟩ ++ l[p].text := by
            unfold headS tokT; rw [hb, if_pos h0, Int.toNat_natCast, hg]; rfl
          have h2 : (headS l k (p : Int)).size = 1 + (nameOf k).size + 1 + l[p].text.size := by rw [eh]; simp only [ByteArray.size_append, s1, s2]
          have z3 : ¬ (9223372036854775807 : Int) < (((⟨#[40]⟩ : ByteArray).size : Nat) : Int) + ((nameOf k).size : Int) + (((⟨#[32]⟩ : ByteArray).size : Nat) : Int) + (l[p].text.size : Int) := by rw [s1, s2]; omega
          simp [h1, hg, z3]
          exact key _ ⟨by simp, by simp, by simp, by simp [eh], by simp, by simp [hL], by simp⟩
        · have h1' : ¬ p < l.length := by omega
          have eh : headS l k (p : Int) = ⟨#[40]⟩ ++ nameOf k ++ ⟨#[32]⟩ := by
            unfold headS tokT; rw [hb, if_pos h0, Int.toNat_natCast, List.getElem?_eq_none h1]
            apply ba_ext; simp
          simp [h1']
          exact key _ ⟨by simp, by simp, by simp, by simp [eh], by simp, by simp [hL], by simp⟩
  case key =>
    rintro ⟨tm, hp⟩ ⟨e0, e1, e2, e5, e6, e7, e8⟩
    simp only at e0 e1 e2 e5 e6 e7 e8
    subst e0
    refine ⟨teI l k t ks R, ks.length, .here ⟨0, headS l k t, by omega, by omega, by simpa using hR, by simp, by simp [e1], by simp [e2], by simp [e5], by simp [e6], by simp [e7], by simp [e8]⟩, ?_⟩
    clear e1 e2 e5 e6 e7 e8
    rintro m ⟨tm, hp⟩ ⟨i, s, hi, rfl, hS, e0, e1, e2, e5, e6, e7, e8⟩
    simp only at e0 e1 e2 e5 e6 e7 e8
    subst e0
    rcases Nat.lt_or_ge i ks.length with hlt | hge
    · have hg := encNs_get ks i hlt
      have hlt' : i < (encNs ks).length := by omega
      have hg' : (encNs ks)[i] = encN ks[i] := by
        have := List.getElem?_eq_getElem hlt'
        rw [hg] at this
        injection this with this
        exact this.symm
      have hw := w64_id (n := (i : Int) + 1) (by omega) (by omega)
      simp only [w64] at hw
      have hd : ks.drop i = ks[i] :: ks.drop (i + 1) := List.drop_eq_getElem_cons hlt
      rw [hd, kidsS] at hS
      have hgr := kids_grow l (s ++ (⟨#[32]⟩ ++ shapeS l ks[i])) (ks.drop (i + 1))
      rw [hS] at hgr
      have c := ih ks[i] (List.getElem_mem hlt)
      obtain ⟨q, hq⟩ : ∃ q, ks[i] = q := ⟨_, rfl⟩
      rw [hq] at c hg hg' hS hgr
      obtain ⟨X, hX⟩ : ∃ X, shapeS l q = X := ⟨_, rfl⟩
      rw [hX] at c hS hgr
      obtain ⟨k1, t1, ks1⟩ := q
      simp only [encN] at c hg hg'
      simp only [ByteArray.size_append] at hgr
      have z4 : ¬ (9223372036854775807 : Int) < (((⟨#[32]⟩ : ByteArray).size : Nat) : Int) + (X.size : Int) := by omega
      have z5 : ¬ (9223372036854775807 : Int) < (s.size : Int) + ((((⟨#[32]⟩ : ByteArray).size : Nat) : Int) + (X.size : Int)) := by omega
      simp [hlt, hlt', hg, hg', e1, e2, e5, e6, e7, e8]
      refine CallGoal.same (c) ?_
      try simp [e1, e2, e5, e6, e7, e8, z4, z5]
      try simp [z4, z5, hw, e1, e2, e5, e6, e7, e8]
      refine .drop (ks.length - (i + 1)) (by omega) 1 (by simp) (by simp) (by simp) ⟨i + 1, s ++ (⟨#[32]⟩ ++ X), by omega, rfl, hS, ?_⟩
      simp [dropSt, dropD, e1, e2, e5, e6, e7, e8, hw]
    · have hn2 : ¬ i < ks.length := by omega
      have hd : ks.drop i = [] := List.drop_eq_nil_of_le (by omega)
      rw [hd, kidsS] at hS
      subst hS
      have z6 : ¬ (9223372036854775807 : Int) < (s.size : Int) + (((⟨#[41]⟩ : ByteArray).size : Nat) : Int) := by rw [s3]; omega
      simp [hn2, e5, e7, e8, z6]
      exact .kk
end Sh
end Go.Proofs.Dm
