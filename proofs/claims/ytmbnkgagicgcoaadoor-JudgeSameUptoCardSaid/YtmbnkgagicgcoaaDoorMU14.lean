/- Part of the proof: contracts of the functions, walked by the D-machine. No condition. -/
import Derived.Test.YtmbnkgagicgcoaaDoorMU13
set_option linter.unusedSimpArgs false
set_option linter.unusedVariables false
set_option maxHeartbeats 8000000
set_option maxRecDepth 100000
namespace Go.Proofs
open Go Go.RowKit
namespace Dm.Ju
open Dm Dm.Sc Go.Proofs.Tryd
/-- A box of files. -/
def fbox (l : List Fil) : List DV := flatP (l.map encF)
theorem fbox_cons (t : Fil) (l : List Fil) : fbox (t :: l) = (encF t).map .p ++ fbox l := by simp [fbox, flatP_cons]
@[simp] theorem fbox_len (l : List Fil) : (fbox l).length = l.length * 2 := by
  induction l with
  | nil => rfl
  | cons t l ih => rw [fbox_cons, List.length_append, ih]; simp [encF]; omega
theorem fbox_app (a b : List Fil) : fbox (a ++ b) = fbox a ++ fbox b := by
  induction a with
  | nil => rfl
  | cons t a ih => rw [List.cons_append, fbox_cons, fbox_cons, ih, List.append_assoc]
@[simp] theorem fbox_refs (l : List Fil) : refsDs (fbox l) = [] := by
  induction l with
  | nil => rfl
  | cons t l ih => rw [fbox_cons]; simp [encF, ih]
@[simp] theorem fbox_map (f : Nat → Nat) (l : List Fil) : mapRefs f (fbox l) = fbox l := by
  induction l with
  | nil => rfl
  | cons t l ih => rw [fbox_cons]; simp [encF, ih]
@[simp] theorem fbox_own (l : List Fil) : hasOwns (fbox l) = false := by
  induction l with
  | nil => rfl
  | cons t l ih => rw [fbox_cons]; simp [encF, ih]
@[simp] theorem fbox_solid (l : List Fil) : solids (fbox l) = true := by
  induction l with
  | nil => rfl
  | cons t l ih => rw [fbox_cons]; simp [encF, ih]
@[simp] theorem fbox_fz (l : List Fil) : fzs (fbox l) = fbox l := by
  induction l with
  | nil => rfl
  | cons t l ih => rw [fbox_cons]; simp [encF, ih]
@[simp] theorem fbox_nil (l : List Fil) : (fbox l = []) = (l = []) := by
  cases l with
  | nil => simp [fbox, flatP]
  | cons t l => rw [fbox_cons]; simp [encF]
theorem fbox_drop (l : List Fil) (i : Nat) : (fbox l).drop (i * 2) = fbox (l.drop i) := by
  rcases Nat.lt_or_ge l.length i with h | h
  · rw [List.drop_eq_nil_of_le (by simp; omega), List.drop_eq_nil_of_le (by omega)]; rfl
  · have : fbox l = fbox (l.take i) ++ fbox (l.drop i) := by rw [← fbox_app, List.take_append_drop]
    rw [this, List.drop_append_of_le_length (by simp; omega), List.drop_eq_nil_of_le (by simp; omega)]; rfl
theorem fbox_take (l : List Fil) (i : Nat) : (fbox l).take (i * 2) = fbox (l.take i) := by
  rcases Nat.lt_or_ge l.length i with h | h
  · rw [List.take_of_length_le (by simp; omega), List.take_of_length_le (by omega)]
  · have : fbox l = fbox (l.take i) ++ fbox (l.drop i) := by rw [← fbox_app, List.take_append_drop]
    rw [this, List.take_append_of_le_length (by simp; omega), List.take_of_length_le (by simp; omega)]
theorem fbox_at (l : List Fil) (i : Nat) (h : i < l.length) : ((fbox l).drop (i * 2)).take 2 = (encF l[i]).map .p := by
  rw [fbox_drop, List.drop_eq_getElem_cons h, fbox_cons]
  simp [encF]
theorem fbox_set (l : List Fil) (i : Nat) (t : Fil) (h : i < l.length) : (fbox l).take (i * 2) ++ (encF t).map .p ++ (fbox l).drop (i * 2 + 2) = fbox (l.set i t) := by
  rw [fbox_take, show i * 2 + 2 = (i + 1) * 2 by omega, fbox_drop, List.set_eq_take_append_cons_drop, if_pos h, fbox_app, fbox_cons, List.append_assoc]

theorem equalF_arr {W0 nb} {a b : List Fil} (ha : a.length < 100000000000) (hl : b.length = a.length) : DCalls ⟨Tryd.prog, W0, nb⟩ 28 [.p (.sl 2 (a.map encF)), .arr 0 0 2 b.length] [fbox b] (.p (.bool (allEq eqF a b))) [fbox b] := by
  obtain ⟨R, hR⟩ : ∃ R, allEq eqF a b = R := ⟨_, rfl⟩
  rw [hR]
  refine dcalls_end Tryd.func28 rfl (by kernel_rfl) 26 Tryd.ntmps28 #[.tmp 4] rfl (Nat.le_of_ble_eq_true rfl) ?_
  simp
  simp only [hl]
  simp
  refine ⟨fun m st => ∃ i, allEq eqF (a.drop i) (b.drop i) = R ∧ m = a.length - i ∧ i ≤ a.length ∧ st.hp = [fbox b] ∧ st.tm 0 = .p (.sl 2 (a.map encF)) ∧ st.tm 1 = .arr 0 0 2 a.length ∧ st.tm 12 = i64 a.length ∧ st.tm 13 = i64 (i : Nat), a.length, .here ⟨0, hR, by simp, by simp, by simp, by simp, by simp, by simp, by simp⟩, ?_⟩
  rintro m ⟨tm, hp⟩ ⟨i, h, rfl, hi, h0, g0, g1, g12, g13⟩
  simp only at h0 g0 g1 g12 g13
  subst h0
  simp [g12, g13]
  rcases Nat.lt_or_ge i a.length with hlt | hge
  · have hlt2 : i < b.length := by omega
    have hat := fbox_at b i hlt2
    have hbb : i * 2 + 2 ≤ b.length * 2 := by omega
    have hbne : b ≠ [] := by rintro rfl; simp at hlt2
    have hd1 : a.drop i = a[i] :: a.drop (i + 1) := List.drop_eq_getElem_cons hlt
    have hd2 : b.drop i = b[i] :: b.drop (i + 1) := List.drop_eq_getElem_cons hlt2
    rw [hd1, hd2] at h
    simp only [allEq] at h
    have hw := w64_id (n := (i : Int) + 1) (by omega) (by omega)
    simp only [w64] at hw
    simp [hlt, g13]
    refine drawWp.intro [] [7] mixed (by kernel_rfl) (by kernel_rfl) (by kernel_rfl) ?_
    simp [hlt, hlt2, g0, g1, encF, hat, hbb, hbne]
    refine ⟨by simp [pairsOK, compatDyn, lowOK, allLt, labD, skips, guardD, looksG, guardSlot, looksD, goneD, eatsT, eats, goneL, rdD, wrD, simpleD, anyOwn, disj, ldD, ldOK, mvD, g0, g1, hat, hbb, hbne], by simp [pairsOK, compatDyn, lowOK, allLt, labD, skips, guardD, looksG, guardSlot, looksD, goneD, eatsT, eats, goneL, rdD, wrD, simpleD, anyOwn, disj, ldD, ldOK, mvD, g0, g1, hat, hbb, hbne], ?_⟩
    simp
    have he : ((!a[i].name.toList == b[i].name.toList) || (!a[i].text.toList == b[i].text.toList)) = !(eqF a[i] b[i]) := by simp [eqF, Bool.not_and]
    rw [he]
    cases hq : eqF a[i] b[i] with
    | true =>
      rw [hq, Bool.true_and] at h
      simp [g13, hw]
      exact .same (a.length - (i + 1)) (by omega) ⟨i + 1, h, rfl, by omega, by simp, by simp [g0], by simp [g1], by simp [g12], by simp [hw]⟩
    | false =>
      rw [hq, Bool.false_and] at h
      subst h
      simp
      exact .keep (by simp) (.refl _) (by simp) (by simp) (by simp) (by simp)
  · have : i = a.length := by omega
    subst this
    have hb0 : b.drop a.length = [] := List.drop_eq_nil_of_le (by omega)
    simp [hb0, allEq] at h
    subst h
    simp
    exact .keep (by simp) (.refl _) (by simp) (by simp) (by simp) (by simp)
theorem files_arr {W0 nb} {a b : List Fil} (ha : a.length < 100000000000) (hl : b.length = a.length) : DCalls ⟨Tryd.prog, W0, nb⟩ 15 [.p (.sl 2 (a.map encF)), .arr 0 0 2 b.length] [fbox b] (.p (.bool (allEq eqF a b))) [fbox b] := by
  refine dcalls_end Tryd.func15 rfl (by kernel_rfl) 8 Tryd.ntmps15 #[.tmp 4] rfl (Nat.le_of_ble_eq_true rfl) ?_
  simp
  refine CallGoal.same (equalF_arr ha hl) ?_
  simp
  exact .keep (by simp) (.refl _) (by simp) (by simp) (by simp) (by simp)
theorem fbox_d0 (l : List Fil) (k : Nat) (h : k < l.length) : (fbox l).drop (k * 2) = .p (.str l[k].name) :: .p (.str l[k].text) :: fbox (l.drop (k + 1)) := by
  rw [fbox_drop, List.drop_eq_getElem_cons h, fbox_cons]
  simp [encF]
theorem fbox_d1 (l : List Fil) (k : Nat) (h : k < l.length) : (fbox l).drop (k * 2 + 1) = .p (.str l[k].text) :: fbox (l.drop (k + 1)) := by
  have := congrArg (List.drop 1) (fbox_d0 l k h)
  simpa [List.drop_drop] using this
theorem fbox_d2 (l : List Fil) (k : Nat) : (fbox l).drop (k * 2 + 2) = fbox (l.drop (k + 1)) := by
  rw [show k * 2 + 2 = (k + 1) * 2 by omega, fbox_drop]
theorem fbox_s0 (l : List Fil) (k : Nat) (h : k < l.length) (n : ByteArray) : (fbox l).take (k * 2) ++ DV.p (.str n) :: (fbox l).drop (k * 2 + 1) = fbox (l.set k ⟨n, l[k].text⟩) := by
  rw [fbox_d1 l k h, fbox_take, List.set_eq_take_append_cons_drop, if_pos h, fbox_app, fbox_cons]
  simp [encF]
theorem fbox_s1 (l : List Fil) (k : Nat) (h : k < l.length) (n : ByteArray) : (fbox l).take (k * 2 + 1) ++ DV.p (.str n) :: (fbox l).drop (k * 2 + 2) = fbox (l.set k ⟨l[k].name, n⟩) := by
  have e : (fbox l).take (k * 2 + 1) = fbox (l.take k) ++ [DV.p (.str l[k].name)] := by
    have hh : fbox l = fbox (l.take k) ++ fbox (l.drop k) := by rw [← fbox_app, List.take_append_drop]
    rw [hh, List.drop_eq_getElem_cons h, fbox_cons, List.take_append]
    have hl : (fbox (l.take k)).length = k * 2 := by simp; omega
    rw [hl, List.take_of_length_le (by omega), show k * 2 + 1 - k * 2 = 1 by omega]
    simp [encF]
  rw [e, fbox_d2, List.set_eq_take_append_cons_drop, if_pos h, fbox_app, fbox_cons]
  simp [encF]
theorem ne_app (a : ByteArray) (c : UInt8) : (a.toList == (a ++ ⟨#[c]⟩).toList) = false := by
  rw [beq_eq_false_iff_ne, ByteArray.toList_eq, ByteArray.toList_eq]
  intro h
  have := congrArg List.length h
  simp at this
theorem eqTs_refl : ∀ l : List Tok, eqTs l l = true
  | [] => rfl
  | t :: l => by simp [eqTs, eqT, eqTs_refl l]
theorem allEq_refl {α : Type} {eq : α → α → Bool} (h : ∀ x, eq x x = true) : ∀ l : List α, allEq eq l l = true
  | [] => rfl
  | x :: l => by simp [allEq, h x, allEq_refl h l]
theorem allEq_set {α : Type} {eq : α → α → Bool} : ∀ (l : List α) (k : Nat) (y : α) (hk : k < l.length), eq l[k] y = false → allEq eq l (l.set k y) = false
  | [], k, y, hk, h => by simp at hk
  | x :: l, 0, y, hk, h => by simp at h; simp [allEq, h]
  | x :: l, k + 1, y, hk, h => by
    simp at h
    simp only [List.set_cons_succ, allEq, allEq_set l k y (by simpa using hk) h, Bool.and_false]
theorem eqF_refl (f : Fil) : eqF f f = true := by simp [eqF]
theorem eqR_refl (f : Rem) : eqR f f = true := by simp [eqR]
theorem judgeTokens_self (s : ByteArray) : judgeTokens s s = decide ((scanP s).2.2 < 0) := by simp [judgeTokens, eqTs_refl]
theorem judgeComments_self (s : ByteArray) : judgeComments s s = decide ((scanP s).2.2 < 0) := by simp [judgeComments, allEq_refl eqR_refl]
theorem judgeSame_ok {W0 nb} {s : ByteArray} {fs : List Fil} {at_ : Int} {nm : Bool} (h2 : 2 ≤ nb) (hT : Lib.Utf8Tabs 0 1 W0) (hl : fs.length < 2000000) (hs : ∀ f ∈ fs, f.name.size < 2000000 ∧ f.text.size < 2000000) :
    DCalls ⟨Tryd.prog, W0, nb⟩ 5 [.p (.str s), .p (.sl 2 (fs.map encF)), i64 at_, .p (.bool nm)] [] (.p (.bool true)) [] := by
  have ks := cut_ok (W0 := W0) (nb := nb) (s := s) (n := 500) (by decide)
  have hsz := cutS_size s 500
  generalize cutS s 500 = t at *
  simp at ks
  have ca := Rs.scan_ok (W0 := W0) (nb := nb) (s := t) (by omega)
  have tok := tokens_ok (W0 := W0) (nb := nb) (a := t) (b := t) h2 hT (by omega) (by omega)
  have com := comments_ok (W0 := W0) (nb := nb) (a := t) (b := t) h2 hT (by omega) (by omega)
  rw [judgeTokens_self] at tok
  rw [judgeComments_self] at com
  obtain ⟨A, hA⟩ : ∃ A, scanP t = A := ⟨_, rfl⟩
  rw [hA] at ca tok com
  obtain ⟨x, xc, f⟩ := A
  simp only at ca tok com
  simp only [Sc.toks, coms] at ca
  have cff := files_ok (W0 := W0) (nb := nb) (a := fs) (b := fs) (by omega)
  rw [allEq_refl eqF_refl] at cff
  refine dcalls_end Tryd.func5 rfl (by kernel_rfl) 92 Tryd.ntmps5 #[.tmp 8] rfl (Nat.le_of_ble_eq_true rfl) ?_
  simp
  refine CallGoal.same (begun_ok h2 hT) ?_
  simp
  refine CallGoal.same ks ?_
  simp
  refine CallGoal.same ca ?_
  simp
  refine CallGoal.same tok ?_
  simp
  refine CallGoal.same com ?_
  simp
  by_cases hn : fs = []
  · subst hn
    simp at cff
    simp
    refine CallGoal.same cff ?_
    simp
    exact .keep (by simp) (.refl _) (by simp) (by simp) (by simp) (by simp)
  have h0 : ((fs.length : Int) == 0) = false := by
    have := List.length_pos_iff.2 hn
    simp only [beq_eq_false_iff_ne, ne_eq]; omega
  by_cases ha : at_ < 0
  · simp [h0, ha]
    refine CallGoal.same cff ?_
    simp
    exact .keep (by simp) (.refl _) (by simp) (by simp) (by simp) (by simp)
  have hpos := List.length_pos_iff.2 hn
  have hb1 : fs.length * 32 ≤ 140737488355328 := by omega
  have hb2 : fs.length ≤ 9223372036854775807 := by omega
  obtain ⟨k, hk⟩ : ∃ k : Nat, Int.tmod at_ fs.length = (k : Int) ∧ k < fs.length := ⟨(Int.tmod at_ fs.length).toNat, by
    have h1 := Int.tmod_nonneg (fs.length : Int) (show (0 : Int) ≤ at_ by omega)
    have h2 := Int.tmod_lt_of_pos at_ (show (0 : Int) < fs.length by omega)
    omega⟩
  have e : flatP (fs.map encF) = fbox fs := rfl
  obtain ⟨hk1, hk2⟩ := hk
  have hkf := hs fs[k] (List.getElem_mem hk2)
  have hat := fbox_at fs k hk2
  have hbk : k * 2 + 2 ≤ fs.length * 2 := by omega
  simp [h0, ha, hpos, hb1, hb2, e, hn, hk1]
  apply IfGoal.cut (fun st => ∃ g : Fil, eqF fs[k] g = false ∧ st.hp = [fbox (fs.set k g)] ∧ st.tm 1 = .p (.sl 2 (fs.map encF)) ∧ st.tm 13 = .arr 0 0 2 fs.length)
  · refine ifGoal_of (fun q => ?_) (fun q => ?_)
    · have d0 := fbox_d0 fs k hk2
      have s0 := fbox_s0 fs k hk2
      have b1 : k * 2 + 1 ≤ fs.length * 2 := by omega
      have z0 : ¬ (9223372036854775807 : Int) < (fs[k].name.size : Int) + ((⟨#[120]⟩ : ByteArray).size : Int) := by
        have : (⟨#[120]⟩ : ByteArray).size = 1 := rfl
        rw [this]; have := hkf.1; omega
      simp [hk2, d0, b1, hn, s0, z0]
      exact ⟨_, by simp [eqF, ne_app], rfl⟩
    · have d1 := fbox_d1 fs k hk2
      have s1 := fbox_s1 fs k hk2
      have b1 : k * 2 + 1 + 1 ≤ fs.length * 2 := by omega
      have z0 : ¬ (9223372036854775807 : Int) < (fs[k].text.size : Int) + ((⟨#[32]⟩ : ByteArray).size : Int) := by
        have : (⟨#[32]⟩ : ByteArray).size = 1 := rfl
        rw [this]; have := hkf.2; omega
      simp [hk2, d1, b1, hn, s1, z0]
      exact ⟨_, by simp [eqF, ne_app], rfl⟩
  rintro ⟨tm, hp⟩ ⟨g, hg, e0, g1, g13⟩
  simp only at e0 g1 g13
  subst e0
  have cfg := files_arr (W0 := W0) (nb := nb) (a := fs) (b := fs.set k g) (by omega) (by simp)
  rw [allEq_set fs k g hk2 hg] at cfg
  simp at cfg
  have cfl := files_ok (W0 := W0) (nb := nb) (a := fs) (b := fs.take (fs.length - 1)) (by omega)
  rw [allEq_len _ _ _ (by simp; omega)] at cfl
  simp at cfl
  have hw := w64_id (n := (fs.length : Int) - 1) (by omega) (by omega)
  simp only [w64] at hw
  simp [g1, g13]
  refine CallGoal.same cff ?_
  simp [g1, g13]
  refine CallGoal.same cfg ?_
  have l1 : (1 : Int) ≤ fs.length := by omega
  have l2 : (fs.length : Int) - 1 ≤ fs.length := by omega
  simp [g1, g13, hw, hpos, l1, l2]
  refine CallGoal.same cfl ?_
  simp [g1, g13]
  exact .keep (by simp) (.refl _) (by simp) (by simp) (by simp) (by simp)
end Dm.Ju
end Go.Proofs
