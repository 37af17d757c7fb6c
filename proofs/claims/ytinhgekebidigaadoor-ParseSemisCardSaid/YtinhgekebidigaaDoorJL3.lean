/- Part of the proof: contracts of the functions, walked by the D-machine. No condition. -/
import Derived.Test.YtinhgekebidigaaDoorJL1
set_option linter.unusedSimpArgs false
set_option linter.unusedVariables false
set_option maxHeartbeats 16000000
set_option maxRecDepth 100000
namespace Go.Proofs.Dm
open Go Go.Proofs Go.Proofs.Tryd Go.Proofs.Dm.Sc
namespace Pl
open Gr
attribute [local simp] encT encN encNs takes handsOn isTmp Op.operands Call.operands
def gapP : Nat → ByteArray
  | 0 => ⟨#[]⟩
  | i + 1 => if i % 2 == 1 then (gapP i ++ ⟨#[59]⟩) ++ ⟨#[10]⟩ else gapP i ++ ⟨#[59]⟩
def semT (g e : ByteArray) : ByteArray := ((((((((((⟨#[112, 97, 99, 107, 97, 103, 101, 32, 112]⟩ : ByteArray) ++ g) ++ (⟨#[102, 117, 110, 99, 32, 102, 40, 41, 32, 123]⟩ : ByteArray)) ++ g) ++ (⟨#[97]⟩ : ByteArray)) ++ g) ++ (⟨#[98]⟩ : ByteArray)) ++ e) ++ (⟨#[125]⟩ : ByteArray)) ++ g)
def endP (last : Bool) : ByteArray := if last then ⟨#[59]⟩ else ⟨#[]⟩
def semOK (n : Nat) (last : Bool) : Bool := match evalText (semT (gapP n) (endP last)) 80 60 with
  | some (.mk _ _ [_, .mk k t [.mk _ _ [_, _]]], l, bad) => bad == -1 && k == 8
  | _ => false
def semAll : Bool := (List.range 8).all fun i => semOK (i + 1) true && semOK (i + 1) false && decide ((scanP (semT (gapP (i + 1)) (endP true))).1.length < 1000) && decide ((scanP (semT (gapP (i + 1)) (endP false))).1.length < 1000)
theorem sem_all : semAll = true := by kernel_rfl
theorem gap_size (n : Nat) : (gapP n).size ≤ 2 * n := by
  induction n with
  | zero => decide
  | succ n ih =>
    have e1 : (⟨#[59]⟩ : ByteArray).size = 1 := rfl
    have e2 : (⟨#[10]⟩ : ByteArray).size = 1 := rfl
    simp only [gapP]
    split <;> simp only [ByteArray.size_append, e1, e2] <;> omega
def smI (n : Nat) (last : Bool) (m : Nat) (st : St) : Prop := ∃ i : Nat, m = n - i ∧ i ≤ n ∧ st.hp = [] ∧ st.tm 0 = i64 (n : Nat) ∧ st.tm 1 = .p (.bool last) ∧ st.tm 6 = .p (.str (gapP i)) ∧ st.tm 7 = i64 (i : Nat)
def smJ (n : Nat) (last : Bool) (st : St) : Prop := st.hp = [] ∧ st.tm 1 = .p (.bool last) ∧ st.tm 6 = .p (.str (gapP n))
theorem semis_ok {W0 nb} (h2 : 2 ≤ nb) (hT : Lib.Utf8Tabs 0 1 W0) {n : Int} {last : Bool} : DCalls ⟨Tryd.prog, W0, nb⟩ 6 [i64 n, .p (.bool last)] [] (.p (.bool true)) [] := by
  refine dcalls_end Tryd.func6 rfl (by kernel_rfl) 90 Tryd.ntmps6 #[.tmp 4] rfl (Nat.le_of_ble_eq_true rfl) ?_
  simp
  refine CallGoal.same (begun_ok h2 hT) ?_
  simp
  cases h1 : decide (n < 1) with
  | true =>
    have h1' := of_decide_eq_true h1
    simp [h1']
    exact .keep (by simp) (.refl _) (by simp) (by simp) (by simp) (by simp)
  | false =>
  have h1' := of_decide_eq_false h1
  simp [h1']
  cases h8 : decide (8 < n) with
  | true =>
    have h8' := of_decide_eq_true h8
    simp [h8']
    exact .keep (by simp) (.refl _) (by simp) (by simp) (by simp) (by simp)
  | false =>
  have h8' := of_decide_eq_false h8
  obtain ⟨k, rfl⟩ : ∃ k : Nat, n = (k : Int) := ⟨n.toNat, by omega⟩
  simp [h8']
  refine LoopGoal.cut (smJ k last) ?_ ?_
  · refine ⟨smI k last, k, .here ⟨0, by simp, by simp, by simp, by simp, by simp, by simp [gapP], by simp⟩, ?_⟩
    rintro m ⟨tm, hp⟩ ⟨i, rfl, hi, h0, g0, g1, g6, g7⟩
    simp only at h0 g0 g1 g6 g7
    subst h0
    simp [g0, g7]
    rcases Nat.lt_or_ge i k with hlt | hge
    · have hs := gap_size i
      have hw := w64_id (n := (i : Int) + 1) (by omega) (by omega)
      simp only [w64] at hw
      have e1 : (⟨#[59]⟩ : ByteArray).size = 1 := rfl
      have e2 : (⟨#[10]⟩ : ByteArray).size = 1 := rfl
      have w1 : ¬ (9223372036854775807 : Int) < ((gapP i).size : Int) + (⟨#[59]⟩ : ByteArray).size := by rw [e1]; omega
      have w2 : ¬ (9223372036854775807 : Int) < ((gapP i ++ ⟨#[59]⟩).size : Int) + (⟨#[10]⟩ : ByteArray).size := by
        simp only [ByteArray.size_append, e1, e2]; omega
      simp only [ByteArray.size_append, Int.natCast_add] at w2
      have hm : Int.tmod (i : Int) 2 = ((i % 2 : Nat) : Int) := by
        rw [Int.tmod_eq_emod_of_nonneg (by omega)]; omega
      have hlt' : (i : Int) < k := by omega
      rcases Nat.mod_two_eq_zero_or_one i with h0 | h1
      · rw [h0] at hm
        have hg : gapP (i + 1) = gapP i ++ ⟨#[59]⟩ := by simp [gapP, h0]
        simp [hlt, g6, g7, w1, hm, hw]
        exact .same (k - (i + 1)) (by omega) ⟨i + 1, rfl, by omega, by simp, by simp [g0], by simp [g1], by simp [hg], by simp [hw]⟩
      · rw [h1] at hm
        have hg : gapP (i + 1) = (gapP i ++ ⟨#[59]⟩) ++ ⟨#[10]⟩ := by simp [gapP, h1]
        simp [hlt, g6, g7, w1, w2, hm, hw]
        exact .same (k - (i + 1)) (by omega) ⟨i + 1, rfl, by omega, by simp, by simp [g0], by simp [g1], by simp [hg], by simp [hw]⟩
    · have : i = k := by omega
      subst this
      simp
      exact ⟨by simp, by simp [g1], by simp [g6]⟩
  rintro ⟨tm, hp⟩ ⟨e0, g1, g6⟩
  simp only at e0 g1 g6
  subst e0
  have hA := sem_all
  simp only [semAll] at hA
  have hk := List.all_eq_true.1 hA (k - 1) (List.mem_range.2 (by omega))
  rw [show k - 1 + 1 = k by omega] at hk
  simp only [Bool.and_eq_true, decide_eq_true_eq] at hk
  obtain ⟨⟨⟨ok1, ok2⟩, len1⟩, len2⟩ := hk
  have hok : semOK k last = true := by cases last <;> assumption
  have hlen : (scanP (semT (gapP k) (endP last))).1.length < 100000000 := by cases last <;> omega
  have hgs := gap_size k
  have hes : (endP last).size ≤ 1 := by cases last <;> decide
  unfold semOK at hok
  generalize gapP k = g at *
  split at hok
  rotate_left
  · cases hok
  rename_i _ u9 y9 k0 kk uu u8 y8 n0 n1 l bad heq
  simp only [Bool.and_eq_true, beq_iff_eq] at hok
  obtain ⟨rfl, rfl⟩ := hok
  obtain ⟨x0, x1, x2⟩ := k0
  obtain ⟨w0, w1, w2⟩ := n0
  obtain ⟨v0, v1, v2⟩ := n1
  generalize hE : endP last = e at *
  have hsz : (semT g e).size < 10000000 := by
    have q0 : (⟨#[112, 97, 99, 107, 97, 103, 101, 32, 112]⟩ : ByteArray).size = 9 := rfl; have q1 : (⟨#[102, 117, 110, 99, 32, 102, 40, 41, 32, 123]⟩ : ByteArray).size = 10 := rfl; have q2 : (⟨#[97]⟩ : ByteArray).size = 1 := rfl; have q3 : (⟨#[98]⟩ : ByteArray).size = 1 := rfl; have q4 : (⟨#[125]⟩ : ByteArray).size = 1 := rfl
    simp only [semT, ByteArray.size_append, q0, q1, q2, q3, q4]; omega
  have z0 : ¬ (9223372036854775807 : Int) < (((⟨#[112, 97, 99, 107, 97, 103, 101, 32, 112]⟩ : ByteArray)).size : Int) + ((g : ByteArray)).size := by
    have q0 : (⟨#[112, 97, 99, 107, 97, 103, 101, 32, 112]⟩ : ByteArray).size = 9 := rfl; have q1 : (⟨#[102, 117, 110, 99, 32, 102, 40, 41, 32, 123]⟩ : ByteArray).size = 10 := rfl; have q2 : (⟨#[97]⟩ : ByteArray).size = 1 := rfl; have q3 : (⟨#[98]⟩ : ByteArray).size = 1 := rfl; have q4 : (⟨#[125]⟩ : ByteArray).size = 1 := rfl
    simp only [ByteArray.size_append, q0, q1, q2, q3, q4]; omega
  have z1 : ¬ (9223372036854775807 : Int) < ((((⟨#[112, 97, 99, 107, 97, 103, 101, 32, 112]⟩ : ByteArray) ++ (g : ByteArray))).size : Int) + ((⟨#[102, 117, 110, 99, 32, 102, 40, 41, 32, 123]⟩ : ByteArray)).size := by
    have q0 : (⟨#[112, 97, 99, 107, 97, 103, 101, 32, 112]⟩ : ByteArray).size = 9 := rfl; have q1 : (⟨#[102, 117, 110, 99, 32, 102, 40, 41, 32, 123]⟩ : ByteArray).size = 10 := rfl; have q2 : (⟨#[97]⟩ : ByteArray).size = 1 := rfl; have q3 : (⟨#[98]⟩ : ByteArray).size = 1 := rfl; have q4 : (⟨#[125]⟩ : ByteArray).size = 1 := rfl
    simp only [ByteArray.size_append, q0, q1, q2, q3, q4]; omega
  have z2 : ¬ (9223372036854775807 : Int) < (((((⟨#[112, 97, 99, 107, 97, 103, 101, 32, 112]⟩ : ByteArray) ++ (g : ByteArray)) ++ (⟨#[102, 117, 110, 99, 32, 102, 40, 41, 32, 123]⟩ : ByteArray))).size : Int) + ((g : ByteArray)).size := by
    have q0 : (⟨#[112, 97, 99, 107, 97, 103, 101, 32, 112]⟩ : ByteArray).size = 9 := rfl; have q1 : (⟨#[102, 117, 110, 99, 32, 102, 40, 41, 32, 123]⟩ : ByteArray).size = 10 := rfl; have q2 : (⟨#[97]⟩ : ByteArray).size = 1 := rfl; have q3 : (⟨#[98]⟩ : ByteArray).size = 1 := rfl; have q4 : (⟨#[125]⟩ : ByteArray).size = 1 := rfl
    simp only [ByteArray.size_append, q0, q1, q2, q3, q4]; omega
  have z3 : ¬ (9223372036854775807 : Int) < ((((((⟨#[112, 97, 99, 107, 97, 103, 101, 32, 112]⟩ : ByteArray) ++ (g : ByteArray)) ++ (⟨#[102, 117, 110, 99, 32, 102, 40, 41, 32, 123]⟩ : ByteArray)) ++ (g : ByteArray))).size : Int) + ((⟨#[97]⟩ : ByteArray)).size := by
    have q0 : (⟨#[112, 97, 99, 107, 97, 103, 101, 32, 112]⟩ : ByteArray).size = 9 := rfl; have q1 : (⟨#[102, 117, 110, 99, 32, 102, 40, 41, 32, 123]⟩ : ByteArray).size = 10 := rfl; have q2 : (⟨#[97]⟩ : ByteArray).size = 1 := rfl; have q3 : (⟨#[98]⟩ : ByteArray).size = 1 := rfl; have q4 : (⟨#[125]⟩ : ByteArray).size = 1 := rfl
    simp only [ByteArray.size_append, q0, q1, q2, q3, q4]; omega
  have z4 : ¬ (9223372036854775807 : Int) < (((((((⟨#[112, 97, 99, 107, 97, 103, 101, 32, 112]⟩ : ByteArray) ++ (g : ByteArray)) ++ (⟨#[102, 117, 110, 99, 32, 102, 40, 41, 32, 123]⟩ : ByteArray)) ++ (g : ByteArray)) ++ (⟨#[97]⟩ : ByteArray))).size : Int) + ((g : ByteArray)).size := by
    have q0 : (⟨#[112, 97, 99, 107, 97, 103, 101, 32, 112]⟩ : ByteArray).size = 9 := rfl; have q1 : (⟨#[102, 117, 110, 99, 32, 102, 40, 41, 32, 123]⟩ : ByteArray).size = 10 := rfl; have q2 : (⟨#[97]⟩ : ByteArray).size = 1 := rfl; have q3 : (⟨#[98]⟩ : ByteArray).size = 1 := rfl; have q4 : (⟨#[125]⟩ : ByteArray).size = 1 := rfl
    simp only [ByteArray.size_append, q0, q1, q2, q3, q4]; omega
  have z5 : ¬ (9223372036854775807 : Int) < ((((((((⟨#[112, 97, 99, 107, 97, 103, 101, 32, 112]⟩ : ByteArray) ++ (g : ByteArray)) ++ (⟨#[102, 117, 110, 99, 32, 102, 40, 41, 32, 123]⟩ : ByteArray)) ++ (g : ByteArray)) ++ (⟨#[97]⟩ : ByteArray)) ++ (g : ByteArray))).size : Int) + ((⟨#[98]⟩ : ByteArray)).size := by
    have q0 : (⟨#[112, 97, 99, 107, 97, 103, 101, 32, 112]⟩ : ByteArray).size = 9 := rfl; have q1 : (⟨#[102, 117, 110, 99, 32, 102, 40, 41, 32, 123]⟩ : ByteArray).size = 10 := rfl; have q2 : (⟨#[97]⟩ : ByteArray).size = 1 := rfl; have q3 : (⟨#[98]⟩ : ByteArray).size = 1 := rfl; have q4 : (⟨#[125]⟩ : ByteArray).size = 1 := rfl
    simp only [ByteArray.size_append, q0, q1, q2, q3, q4]; omega
  have z6 : ¬ (9223372036854775807 : Int) < (((((((((⟨#[112, 97, 99, 107, 97, 103, 101, 32, 112]⟩ : ByteArray) ++ (g : ByteArray)) ++ (⟨#[102, 117, 110, 99, 32, 102, 40, 41, 32, 123]⟩ : ByteArray)) ++ (g : ByteArray)) ++ (⟨#[97]⟩ : ByteArray)) ++ (g : ByteArray)) ++ (⟨#[98]⟩ : ByteArray))).size : Int) + ((e : ByteArray)).size := by
    have q0 : (⟨#[112, 97, 99, 107, 97, 103, 101, 32, 112]⟩ : ByteArray).size = 9 := rfl; have q1 : (⟨#[102, 117, 110, 99, 32, 102, 40, 41, 32, 123]⟩ : ByteArray).size = 10 := rfl; have q2 : (⟨#[97]⟩ : ByteArray).size = 1 := rfl; have q3 : (⟨#[98]⟩ : ByteArray).size = 1 := rfl; have q4 : (⟨#[125]⟩ : ByteArray).size = 1 := rfl
    simp only [ByteArray.size_append, q0, q1, q2, q3, q4]; omega
  have z7 : ¬ (9223372036854775807 : Int) < ((((((((((⟨#[112, 97, 99, 107, 97, 103, 101, 32, 112]⟩ : ByteArray) ++ (g : ByteArray)) ++ (⟨#[102, 117, 110, 99, 32, 102, 40, 41, 32, 123]⟩ : ByteArray)) ++ (g : ByteArray)) ++ (⟨#[97]⟩ : ByteArray)) ++ (g : ByteArray)) ++ (⟨#[98]⟩ : ByteArray)) ++ (e : ByteArray))).size : Int) + ((⟨#[125]⟩ : ByteArray)).size := by
    have q0 : (⟨#[112, 97, 99, 107, 97, 103, 101, 32, 112]⟩ : ByteArray).size = 9 := rfl; have q1 : (⟨#[102, 117, 110, 99, 32, 102, 40, 41, 32, 123]⟩ : ByteArray).size = 10 := rfl; have q2 : (⟨#[97]⟩ : ByteArray).size = 1 := rfl; have q3 : (⟨#[98]⟩ : ByteArray).size = 1 := rfl; have q4 : (⟨#[125]⟩ : ByteArray).size = 1 := rfl
    simp only [ByteArray.size_append, q0, q1, q2, q3, q4]; omega
  have z8 : ¬ (9223372036854775807 : Int) < (((((((((((⟨#[112, 97, 99, 107, 97, 103, 101, 32, 112]⟩ : ByteArray) ++ (g : ByteArray)) ++ (⟨#[102, 117, 110, 99, 32, 102, 40, 41, 32, 123]⟩ : ByteArray)) ++ (g : ByteArray)) ++ (⟨#[97]⟩ : ByteArray)) ++ (g : ByteArray)) ++ (⟨#[98]⟩ : ByteArray)) ++ (e : ByteArray)) ++ (⟨#[125]⟩ : ByteArray))).size : Int) + ((g : ByteArray)).size := by
    have q0 : (⟨#[112, 97, 99, 107, 97, 103, 101, 32, 112]⟩ : ByteArray).size = 9 := rfl; have q1 : (⟨#[102, 117, 110, 99, 32, 102, 40, 41, 32, 123]⟩ : ByteArray).size = 10 := rfl; have q2 : (⟨#[97]⟩ : ByteArray).size = 1 := rfl; have q3 : (⟨#[98]⟩ : ByteArray).size = 1 := rfl; have q4 : (⟨#[125]⟩ : ByteArray).size = 1 := rfl
    simp only [ByteArray.size_append, q0, q1, q2, q3, q4]; omega
  simp only [ByteArray.size_append, Int.natCast_add] at z1 z2 z3 z4 z5 z6 z7 z8
  have ct := text_eval (W0 := W0) (nb := nb) h2 hT hsz (by decide) hlen heq
  simp only [semT] at ct
  simp at ct
  simp [g1]
  apply IfGoal.cut (fun st => st.hp = [] ∧ st.tm 6 = .p (.str g) ∧ st.tm 8 = .p (.str e))
  · refine ifGoal_of (fun q => ?_) (fun q => ?_)
    · subst q
      simp only [endP, if_true] at hE
      subst hE
      simp [g6]
    · subst q
      simp only [endP, Bool.false_eq_true, if_false] at hE
      subst hE
      simp [g6]
  rintro ⟨tm, hp⟩ ⟨e0, g6, g8⟩
  simp only at e0 g6 g8
  subst e0
  simp [g6, g8, z0, z1, z2, z3, z4, z5, z6, z7, z8]
  refine CallGoal.same ct ?_
  simp (maxSteps := 3000000)
  exact .keep (by simp) (.refl _) (by simp) (by simp) (by simp) (by simp)
end Pl
end Go.Proofs.Dm
