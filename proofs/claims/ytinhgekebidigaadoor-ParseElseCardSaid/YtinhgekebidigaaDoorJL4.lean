/- Part of the proof: contracts of the functions, walked by the D-machine. No condition. -/
import Derived.Test.YtinhgekebidigaaDoorJL4E
set_option linter.unusedSimpArgs false
set_option linter.unusedVariables false
set_option maxHeartbeats 16000000
set_option maxRecDepth 100000
namespace Go.Proofs.Dm
open Go Go.Proofs Go.Proofs.Tryd Go.Proofs.Dm.Sc
namespace Pl
open Gr
attribute [local simp] encT encN encNs takes handsOn isTmp Op.operands Call.operands
theorem els_size (n : Nat) : (elsP n).size = 8 + 14 * n := by
  induction n with
  | zero => rfl
  | succ n ih =>
    have e1 : (⟨#[32, 101, 108, 115, 101, 32, 105, 102, 32, 98, 32, 123, 32, 125]⟩ : ByteArray).size = 14 := rfl
    simp only [elsP, ByteArray.size_append, e1, ih]; omega
def elI (n : Nat) (last : Bool) (m : Nat) (st : St) : Prop := ∃ i : Nat, m = n - i ∧ i ≤ n ∧ st.hp = [] ∧ st.tm 0 = i64 (n : Nat) ∧ st.tm 1 = .p (.bool last) ∧ st.tm 6 = .p (.str (elsP i)) ∧ st.tm 7 = i64 (i : Nat)
def elJ (n : Nat) (last : Bool) (st : St) : Prop := st.hp = [] ∧ st.tm 0 = i64 (n : Nat) ∧ st.tm 1 = .p (.bool last) ∧ st.tm 6 = .p (.str (elsP n))
def elK (n : Nat) (last : Bool) (s : ByteArray) (st : St) : Prop := st.hp = [] ∧ st.tm 0 = i64 (n : Nat) ∧ st.tm 1 = .p (.bool last) ∧ st.tm 6 = .p (.str s)
def elL (n : Nat) (last : Bool) (X : List DV) (m : Nat) (st : St) : Prop := ∃ (i : Nat) (y : Nd), m = n - i ∧ i ≤ n ∧ elsTree (n - i) last y = true ∧ st.hp = [X, (encN y).map .p] ∧ st.tm 0 = i64 (n : Nat) ∧ st.tm 1 = .p (.bool last) ∧ st.tm 11 = .ref 1 0 ∧ st.tm 12 = i64 (i : Nat)
def elM (last : Bool) (X : List DV) (st : St) : Prop := ∃ y : Nd, elsTree 0 last y = true ∧ st.hp = [X, (encN y).map .p] ∧ st.tm 1 = .p (.bool last) ∧ st.tm 11 = .ref 1 0
theorem elsTree_s {n : Nat} {last : Bool} {y : Nd} (h : elsTree (n + 1) last y = true) : ∃ t a b c, y = .mk 14 t [a, b, c] ∧ elsTree n last c = true := by
  obtain ⟨k, t, ks⟩ := y
  match ks with
  | [a, b, c] =>
    simp only [elsTree, Bool.and_eq_true, beq_iff_eq] at h
    exact ⟨t, a, b, c, by rw [h.1], h.2⟩
  | [] => simp [elsTree] at h
  | [_] => simp [elsTree] at h
  | [_, _] => simp [elsTree] at h
  | _ :: _ :: _ :: _ :: _ => simp [elsTree] at h
theorem elsTree_z {last : Bool} {y : Nd} (h : elsTree 0 last y = true) : (last = true ∧ ∃ t a b tt kk, y = .mk 14 t [a, b, .mk 10 tt kk]) ∨ (last = false ∧ ∃ t ks, y = .mk 14 t ks ∧ ks.length ≠ 3) := by
  obtain ⟨k, t, ks⟩ := y
  match ks with
  | [a, b, .mk kz tt kk] =>
    simp only [elsTree, Bool.and_eq_true, beq_iff_eq] at h
    exact .inl ⟨h.1.2, t, a, b, tt, kk, by rw [h.1.1, h.2]⟩
  | [] => simp [elsTree] at h; exact .inr ⟨h.2, t, [], by rw [h.1], by simp⟩
  | [u] => simp [elsTree] at h; exact .inr ⟨h.2, t, [u], by rw [h.1], by simp⟩
  | [u, v] => simp [elsTree] at h; exact .inr ⟨h.2, t, [u, v], by rw [h.1], by simp⟩
  | u :: v :: w :: x :: r => simp [elsTree] at h; exact .inr ⟨h.2, t, u :: v :: w :: x :: r, by rw [h.1], by simp⟩
theorem else_ok {W0 nb} (h2 : 2 ≤ nb) (hT : Lib.Utf8Tabs 0 1 W0) {n : Int} {last : Bool} : DCalls ⟨Tryd.prog, W0, nb⟩ 7 [i64 n, .p (.bool last)] [] (.p (.bool true)) [] := by
  refine dcalls_end Tryd.func7 rfl (by kernel_rfl) 120 Tryd.ntmps7 #[.tmp 4] rfl (Nat.le_of_ble_eq_true rfl) ?_
  simp
  refine CallGoal.same (begun_ok h2 hT) ?_
  simp
  cases h1 : decide (n < 0) with
  | true =>
    have h1' := of_decide_eq_true h1
    simp [h1']
    exact .keep (by simp) (.refl _) (by simp) (by simp) (by simp) (by simp)
  | false =>
  have h1' := of_decide_eq_false h1
  simp [h1']
  cases h8 : decide (20 < n) with
  | true =>
    have h8' := of_decide_eq_true h8
    simp [h8']
    exact .keep (by simp) (.refl _) (by simp) (by simp) (by simp) (by simp)
  | false =>
  have h8' := of_decide_eq_false h8
  obtain ⟨k, rfl⟩ : ∃ k : Nat, n = (k : Int) := ⟨n.toNat, by omega⟩
  simp [h8']
  have eB : (⟨#[32, 101, 108, 115, 101, 32, 105, 102, 32, 98, 32, 123, 32, 125]⟩ : ByteArray).size = 14 := rfl
  have eC : (⟨#[32, 101, 108, 115, 101, 32, 123, 32, 125]⟩ : ByteArray).size = 9 := rfl
  have eP : (⟨#[112, 97, 99, 107, 97, 103, 101, 32, 112, 10, 102, 117, 110, 99, 32, 102, 40, 41, 32, 123, 32]⟩ : ByteArray).size = 21 := rfl
  have eE : (⟨#[32, 125]⟩ : ByteArray).size = 2 := rfl
  refine LoopGoal.cut (elJ k last) ?_ ?_
  · refine ⟨elI k last, k, .here ⟨0, by simp, by simp, by simp, by simp, by simp, by simp [elsP], by simp⟩, ?_⟩
    rintro m ⟨tm, hp⟩ ⟨i, rfl, hi, h0, g0, g1, g6, g7⟩
    simp only at h0 g0 g1 g6 g7
    subst h0
    simp [g0, g7]
    rcases Nat.lt_or_ge i k with hlt | hge
    · have hs := els_size i
      have hw := w64_id (n := (i : Int) + 1) (by omega) (by omega)
      simp only [w64] at hw
      have w1 : ¬ (9223372036854775807 : Int) < ((elsP i).size : Int) + (⟨#[32, 101, 108, 115, 101, 32, 105, 102, 32, 98, 32, 123, 32, 125]⟩ : ByteArray).size := by rw [eB]; omega
      have hlt' : (i : Int) < k := by omega
      simp [hlt, g6, g7, w1, hw]
      exact .same (k - (i + 1)) (by omega) ⟨i + 1, rfl, by omega, by simp, by simp [g0], by simp [g1], by simp [elsP], by simp [hw]⟩
    · have : i = k := by omega
      subst this
      simp
      exact ⟨by simp, by simp [g0], by simp [g1], by simp [g6]⟩
  rintro ⟨tm, hp⟩ ⟨e0, g0, g1, g6⟩
  simp only at e0 g0 g1 g6
  subst e0
  have hk := els_all k last (by omega)
  simp only [elsOne, Bool.and_eq_true, decide_eq_true_eq] at hk
  obtain ⟨hok, hlen0⟩ := hk
  have hlen : (scanP (elsT (elsL k last))).1.length < 100000000 := by omega
  have hgs := els_size k
  simp [g1]
  apply IfGoal.cut (elK k last (elsL k last))
  · refine ifGoal_of (fun q => ?_) (fun q => ?_)
    · subst q
      have w1 : ¬ (9223372036854775807 : Int) < ((elsP k).size : Int) + (⟨#[32, 101, 108, 115, 101, 32, 123, 32, 125]⟩ : ByteArray).size := by rw [eC]; omega
      simp [g6, w1]
      exact ⟨by simp, by simp [g0], by simp [g1], by simp [elsL]⟩
    · subst q
      simp
      exact ⟨by simp, by simp [g0], by simp [g1], by simp [elsL, g6]⟩
  rintro ⟨tm, hp⟩ ⟨e0, g0, g1, g6⟩
  simp only at e0 g0 g1 g6
  subst e0
  have hls : (elsL k last).size ≤ 400 := by
    unfold elsL
    split
    · simp only [ByteArray.size_append, eC, hgs]; omega
    · omega
  unfold elsOK at hok
  generalize elsL k last = s at *
  split at hok
  rotate_left
  · cases hok
  rename_i _ u9 y9 k0 u8 y8 u7 y7 y l bad heq
  simp only [Bool.and_eq_true, beq_iff_eq] at hok
  obtain ⟨rfl, htree⟩ := hok
  have hsz : (elsT s).size < 10000000 := by simp only [elsT, ByteArray.size_append, eP, eE]; omega
  have w1 : ¬ (9223372036854775807 : Int) < ((⟨#[112, 97, 99, 107, 97, 103, 101, 32, 112, 10, 102, 117, 110, 99, 32, 102, 40, 41, 32, 123, 32]⟩ : ByteArray).size : Int) + s.size := by rw [eP]; omega
  have w2 : ¬ (9223372036854775807 : Int) < (((⟨#[112, 97, 99, 107, 97, 103, 101, 32, 112, 10, 102, 117, 110, 99, 32, 102, 40, 41, 32, 123, 32]⟩ : ByteArray) ++ s).size : Int) + (⟨#[32, 125]⟩ : ByteArray).size := by simp only [ByteArray.size_append, eP, eE]; omega
  simp only [ByteArray.size_append, Int.natCast_add] at w2
  have ct := text_eval (W0 := W0) (nb := nb) h2 hT hsz (by decide) hlen heq
  simp only [elsT] at ct
  obtain ⟨x0, x1, x2⟩ := k0
  obtain ⟨v0, v1, v2⟩ := y
  simp at ct
  simp [g6, w1, w2]
  refine CallGoal.same ct ?_
  simp (maxSteps := 3000000)
  generalize hX : ([i64 u9, _, _] : List DV) = X
  refine LoopGoal.cut (elM last X) ?_ ?_
  · refine ⟨elL k last X, k, .here ⟨0, .mk v0 v1 v2, by simp, by simp, by simpa using htree, by simp, by simp [g0], by simp [g1], by simp, by simp⟩, ?_⟩
    rintro m ⟨tm, hp⟩ ⟨i, y, rfl, hi, ht, h0, g0, g1, g11, g12⟩
    simp only at h0 g0 g1 g11 g12
    subst h0
    simp [g0, g12]
    rcases Nat.lt_or_ge i k with hlt | hge
    · have hw := w64_id (n := (i : Int) + 1) (by omega) (by omega)
      simp only [w64] at hw
      have hlt' : (i : Int) < k := by omega
      rw [show k - i = (k - (i + 1)) + 1 by omega] at ht
      obtain ⟨t, a, b, c, rfl, ht'⟩ := elsTree_s ht
      obtain ⟨a0, a1, a2⟩ := a
      obtain ⟨b0, b1, b2⟩ := b
      obtain ⟨c0, c1, c2⟩ := c
      simp [hlt, g11, g12, hw]
      exact .same (k - (i + 1)) (by omega) ⟨i + 1, .mk c0 c1 c2, rfl, by omega, ht', by simp, by simp [g0], by simp [g1], by simp [g11], by simp [hw]⟩
    · have : i = k := by omega
      subst this
      rw [Nat.sub_self] at ht
      simp
      exact ⟨y, ht, by simp, by simp [g1], by simp [g11]⟩
  rintro ⟨tm, hp⟩ ⟨y, ht, h0, g1, g11⟩
  simp only at h0 g1 g11
  subst h0
  rcases elsTree_z ht with ⟨rfl, t, a, b, tt, kk, rfl⟩ | ⟨rfl, t, ks, rfl, hne⟩
  · obtain ⟨a0, a1, a2⟩ := a
    obtain ⟨b0, b1, b2⟩ := b
    simp [g1, g11]
    exact .keep (by simp) (.refl _) (by simp) (by simp) (by simp) (by simp)
  · have hne' : (((encNs ks).length : Int) == 3) = false := by
      have : (encNs ks).length = ks.length := encNs_length ks
      rw [this]; simp; omega
    simp [g1, g11, hne']
    exact .keep (by simp) (.refl _) (by simp) (by simp) (by simp) (by simp)
end Pl
end Go.Proofs.Dm
