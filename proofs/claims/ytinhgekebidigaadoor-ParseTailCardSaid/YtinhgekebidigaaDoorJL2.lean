/- Part of the proof: contracts of the functions, walked by the D-machine. No condition. -/
import Derived.Test.YtinhgekebidigaaDoorJL1
set_option linter.unusedSimpArgs false
set_option linter.unusedVariables false
set_option maxHeartbeats 16000000
set_option maxRecDepth 100000
namespace Go.Proofs.Dm
open Go Go.Proofs Go.Proofs.Tryd Go.Proofs.Dm.Sc
namespace Pl
open Gr
attribute [local simp] encT encN encNs takes handsOn isTmp Op.operands Call.operands
def opsL : List ByteArray := [⟨#[124, 124]⟩, ⟨#[38, 38]⟩, ⟨#[61, 61]⟩, ⟨#[33, 61]⟩, ⟨#[60]⟩, ⟨#[43]⟩, ⟨#[45]⟩, ⟨#[42]⟩]
def opAt (i : Nat) : ByteArray := opsL.getD i ⟨#[]⟩
def ranksT (a b : ByteArray) : ByteArray := (((⟨#[49, 32]⟩ ++ a) ++ ⟨#[32, 50, 32]⟩) ++ b) ++ ⟨#[32, 51]⟩
def txtAt (l : List Tok) (t : Int) (s : ByteArray) : Bool := decide (0 ≤ t) && (match l[t.toNat]? with
  | some x => x.text.toList == s.toList
  | none => false)
def ranksOK (a b : ByteArray) : Bool := match evalText (preT ++ ranksT a b ++ nlT) 60 60 with
  | some (.mk _ _ [_, .mk _ _ [_, .mk k t [.mk k0 v0 _, .mk k1 v1 _]]], l, bad) => bad == -1 && k == 24 &&
      (if Pp.rank b ≤ Pp.rank a then txtAt l t b && (k0 == 24 && txtAt l v0 a && k1 == 21) else txtAt l t a && (k1 == 24 && txtAt l v1 b && k0 == 21))
  | _ => false
def ranksAll : Bool := (List.range 8).all fun i => (List.range 8).all fun j => ranksOK (opAt i) (opAt j) && decide ((scanP (preT ++ ranksT (opAt i) (opAt j) ++ nlT)).1.length < 1000) && (decide (Pp.rank (opAt j) ≤ Pp.rank (opAt i)) || !((opAt i).toList == (opAt j).toList))
theorem ranks_all : ranksAll = true := by kernel_rfl
theorem opAt_size (i : Nat) : (opAt i).size ≤ 2 := by
  unfold opAt opsL
  rcases i with _ | _ | _ | _ | _ | _ | _ | _ | i <;> first | decide | (simp [List.getD]; decide)
theorem opsRow (i : Nat) (h : i < 8) : ([[.str ⟨#[124, 124]⟩], [.str ⟨#[38, 38]⟩], [.str ⟨#[61, 61]⟩], [.str ⟨#[33, 61]⟩], [.str ⟨#[60]⟩], [.str ⟨#[43]⟩], [.str ⟨#[45]⟩], [.str ⟨#[42]⟩]] : List (List PD))[i]? = some [.str (opAt i)] := by
  rcases i with _ | _ | _ | _ | _ | _ | _ | _ | i
  all_goals first | rfl | omega
theorem mod8 (i : Int) : ∃ n : Nat, n < 8 ∧ Int.tmod (Int.tmod i 8 + 8) 8 = (n : Int) ∧ w64 (Int.tmod i 8 + 8) = Int.tmod i 8 + 8 := by
  have h1 := Int.tmod_lt_of_pos i (show (0 : Int) < 8 by decide)
  have h2 : -8 < Int.tmod i 8 := by
    rcases Int.le_total 0 i with h | h
    · have := Int.tmod_nonneg 8 h; omega
    · have := Int.tmod_lt_of_pos (-i) (show (0 : Int) < 8 by decide)
      rw [Int.neg_tmod] at this; omega
  refine ⟨(Int.tmod (Int.tmod i 8 + 8) 8).toNat, ?_, ?_, w64_id (by omega) (by omega)⟩
  · have h3 := Int.tmod_lt_of_pos (Int.tmod i 8 + 8) (show (0 : Int) < 8 by decide)
    omega
  · have h3 := Int.tmod_nonneg 8 (show 0 ≤ Int.tmod i 8 + 8 by omega)
    omega
theorem txtAt_spec {l : List Tok} {t : Int} {s : ByteArray} (h : txtAt l t s = true) : 0 ≤ t ∧ ∃ x : Tok, l[t.toNat]? = some x ∧ (x.text.toList == s.toList) = true := by
  simp only [txtAt, Bool.and_eq_true, decide_eq_true_eq] at h
  refine ⟨h.1, ?_⟩
  cases hx : l[t.toNat]? with
  | none => rw [hx] at h; cases h.2
  | some x => rw [hx] at h; exact ⟨x, rfl, h.2⟩
theorem ranks_ok {W0 nb} (h2 : 2 ≤ nb) (hT : Lib.Utf8Tabs 0 1 W0) {i j : Int} : DCalls ⟨Tryd.prog, W0, nb⟩ 3 [i64 i, i64 j] [] (.p (.bool true)) [] := by
  obtain ⟨ii, hi, ei, wi⟩ := mod8 i
  obtain ⟨jj, hj, ej, wj⟩ := mod8 j
  simp only [w64] at wi wj
  have hA := ranks_all
  simp only [ranksAll] at hA
  have hij := List.all_eq_true.1 (List.all_eq_true.1 hA ii (List.mem_range.2 hi)) jj (List.mem_range.2 hj)
  simp only [Bool.and_eq_true, decide_eq_true_eq] at hij
  obtain ⟨⟨hok, hlen⟩, hne⟩ := hij
  have ra := opsRow ii hi
  have rb := opsRow jj hj
  obtain ⟨ra1, ra2⟩ := List.getElem?_eq_some_iff.1 ra
  obtain ⟨rb1, rb2⟩ := List.getElem?_eq_some_iff.1 rb
  have sa := opAt_size ii
  have sb := opAt_size jj
  generalize opAt ii = a at *
  generalize opAt jj = b at *
  unfold ranksOK at hok
  split at hok
  rotate_left
  · cases hok
  rename_i _ k9 u9 y9 k8 u8 y8 k v k0 v0 c0 k1 v1 c1 l bad heq
  simp only [Bool.and_eq_true, beq_iff_eq] at hok
  obtain ⟨⟨rfl, rfl⟩, hok⟩ := hok
  have hsz : (ranksT a b).size < 100000 := by
    have e1 : (⟨#[49, 32]⟩ : ByteArray).size = 2 := rfl
    have e2 : (⟨#[32, 50, 32]⟩ : ByteArray).size = 3 := rfl
    have e3 : (⟨#[32, 51]⟩ : ByteArray).size = 2 := rfl
    simp only [ranksT, ByteArray.size_append, e1, e2, e3]; omega
  have ce := expr_ok (W0 := W0) (nb := nb) h2 hT hsz (by decide) (by omega) heq
  simp only [ranksT] at ce
  have z1 : ¬ (9223372036854775807 : Int) < ((⟨#[49, 32]⟩ : ByteArray).size : Int) + a.size := by
    have e1 : (⟨#[49, 32]⟩ : ByteArray).size = 2 := rfl
    rw [e1]; omega
  have z2 : ¬ (9223372036854775807 : Int) < (((⟨#[49, 32]⟩ : ByteArray) ++ a).size : Int) + (⟨#[32, 50, 32]⟩ : ByteArray).size := by
    have e1 : (⟨#[49, 32]⟩ : ByteArray).size = 2 := rfl
    have e2 : (⟨#[32, 50, 32]⟩ : ByteArray).size = 3 := rfl
    simp only [ByteArray.size_append, e1, e2]; omega
  have z3 : ¬ (9223372036854775807 : Int) < ((((⟨#[49, 32]⟩ : ByteArray) ++ a) ++ (⟨#[32, 50, 32]⟩ : ByteArray)).size : Int) + b.size := by
    have e1 : (⟨#[49, 32]⟩ : ByteArray).size = 2 := rfl
    have e2 : (⟨#[32, 50, 32]⟩ : ByteArray).size = 3 := rfl
    simp only [ByteArray.size_append, e1, e2]; omega
  have z4 : ¬ (9223372036854775807 : Int) < (((((⟨#[49, 32]⟩ : ByteArray) ++ a) ++ (⟨#[32, 50, 32]⟩ : ByteArray)) ++ b).size : Int) + (⟨#[32, 51]⟩ : ByteArray).size := by
    have e1 : (⟨#[49, 32]⟩ : ByteArray).size = 2 := rfl
    have e2 : (⟨#[32, 50, 32]⟩ : ByteArray).size = 3 := rfl
    have e3 : (⟨#[32, 51]⟩ : ByteArray).size = 2 := rfl
    simp only [ByteArray.size_append, e1, e2, e3]; omega
  simp only [ByteArray.size_append, Int.natCast_add] at z2 z3 z4
  have ka := Rk.rank_ok (W0 := W0) (nb := nb) (s := a)
  have kb := Rk.rank_ok (W0 := W0) (nb := nb) (s := b)
  simp at ce
  refine dcalls_end Tryd.func3 rfl (by kernel_rfl) 136 Tryd.ntmps3 #[.tmp 4] rfl (Nat.le_of_ble_eq_true rfl) ?_
  simp
  refine CallGoal.same (begun_ok h2 hT) ?_
  simp
  refine drawWp.intro [(6, 13)] [13] mixed (by kernel_rfl) (by kernel_rfl) (by kernel_rfl) ?_
  simp [wi, wj, ei, ej, ra2, rb2, hi, hj]
  refine ⟨by simp [pairsOK, pairsOK2, compatAdd, compatCA, compatSt, Dm.stoB, Dm.callB, Dm.adB, compatDyn, lowOK, allLt, labD, skips, guardD, looksG, guardSlot, looksD, goneD, eatsT, eats, goneL, rdD, wrD, simpleD, anyOwn, disj, ldD, ldOK, mvD, wi, wj, ei, ej, ra2, rb2, hi, hj], by simp [pairsOK, pairsOK2, compatAdd, compatCA, compatSt, Dm.stoB, Dm.callB, Dm.adB, compatDyn, lowOK, allLt, labD, skips, guardD, looksG, guardSlot, looksD, goneD, eatsT, eats, goneL, rdD, wrD, simpleD, anyOwn, disj, ldD, ldOK, mvD, wi, wj, ei, ej, ra2, rb2, hi, hj], ?_⟩
  simp [z1, z2, z3, z4]
  refine CallGoal.same ce ?_
  simp
  refine CallGoal.same ka ?_
  simp
  refine CallGoal.same kb ?_
  cases hr : decide (Pp.rank b ≤ Pp.rank a) with
  | true =>
    have hr' := of_decide_eq_true hr
    rw [if_pos hr'] at hok
    simp only [Bool.and_eq_true, beq_iff_eq] at hok
    obtain ⟨q1, ⟨⟨rfl, q2⟩, rfl⟩⟩ := hok
    obtain ⟨p1, x1, p2, p3⟩ := txtAt_spec q1
    obtain ⟨p4, x2, p5, p6⟩ := txtAt_spec q2
    simp [hr']
    refine CallGoal.same ka ?_
    simp
    refine CallGoal.same kb ?_
    simp [hr', p1, p2, p3, p4, p5, p6]
    exact .keep (by simp) (.refl _) (by simp) (by simp) (by simp) (by simp)
  | false =>
    have hr' := of_decide_eq_false hr
    rw [if_neg hr'] at hok
    rw [hr, Bool.false_or] at hne
    have hne' : (a.toList == b.toList) = false := by simpa using hne
    simp only [Bool.and_eq_true, beq_iff_eq] at hok
    obtain ⟨q1, ⟨⟨rfl, q2⟩, rfl⟩⟩ := hok
    obtain ⟨p1, x1, p2, p3⟩ := txtAt_spec q1
    obtain ⟨p4, x2, p5, p6⟩ := txtAt_spec q2
    simp [hr', hne']
    simp [hr', hne', p1, p2, p3, p4, p5, p6]
    exact .keep (by simp) (.refl _) (by simp) (by simp) (by simp) (by simp)
end Pl
end Go.Proofs.Dm
