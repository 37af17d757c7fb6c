/- Part of the proof: contracts of the functions, walked by the D-machine. No condition. -/
import Derived.Test.YtcacihiiilemgaaE1
set_option linter.unusedSimpArgs false
set_option linter.unusedVariables false
namespace Go.Proofs.Dm
open Go Go.Proofs Go.Proofs.Try
/-- A row of bools as a box. -/
def fbox (fr : List Bool) : List DV := fr.map fun b => .p (.bool b)
@[simp] theorem fbox_len (fr : List Bool) : (fbox fr).length = fr.length := by simp [fbox]
@[simp] theorem fbox_refs (fr : List Bool) : refsDs (fbox fr) = [] := by
  induction fr with
  | nil => rfl
  | cons b fr ih => simpa [fbox] using ih
@[simp] theorem fbox_own (fr : List Bool) : hasOwns (fbox fr) = false := by
  induction fr with
  | nil => rfl
  | cons b fr ih => simpa [fbox] using ih
@[simp] theorem fbox_solid (fr : List Bool) : solids (fbox fr) = true := by
  induction fr with
  | nil => rfl
  | cons b fr ih => simpa [fbox] using ih
@[simp] theorem fbox_map (f : Nat → Nat) (fr : List Bool) : mapRefs f (fbox fr) = fbox fr := by
  induction fr with
  | nil => rfl
  | cons b fr ih => simpa [fbox] using ih
@[simp] theorem fbox_fz (fr : List Bool) : fzs (fbox fr) = fbox fr := by
  induction fr with
  | nil => rfl
  | cons b fr ih => simpa [fbox] using ih
@[simp] theorem fbox_nil (fr : List Bool) : (fbox fr = []) = (fr = []) := by cases fr <;> simp [fbox]
@[simp] theorem fbox_drop (fr : List Bool) (k : Nat) : (fbox fr).drop k = fbox (fr.drop k) := by simp [fbox, List.map_drop]
@[simp] theorem fbox_take (fr : List Bool) (k : Nat) : (fbox fr).take k = fbox (fr.take k) := by simp [fbox, List.map_take]
@[simp] theorem fbox_app (a b : List Bool) : fbox a ++ fbox b = fbox (a ++ b) := by simp [fbox]
@[simp] theorem fbox_app2 (a b : List Bool) (c : List DV) : fbox a ++ (fbox b ++ c) = fbox (a ++ b) ++ c := by rw [← List.append_assoc, fbox_app]
@[simp] theorem fbox_cons (b : Bool) (fr : List Bool) : (DV.p (.bool b)) :: fbox fr = fbox (b :: fr) := rfl
@[simp] theorem fbox_e : fbox [] = [] := rfl
@[simp] theorem fbox_rep (n : Nat) (b : Bool) : List.replicate n (DV.p (.bool b)) = fbox (List.replicate n b) := by simp [fbox]
@[simp] theorem fbox_flat (b : Bool) : flatP [[PD.bool b]] = fbox [b] := rfl
@[simp] theorem fbox_single (b : Bool) : fbox [b] = [bl b] := rfl
@[simp] theorem fbox_asVal (b : Bool) : asVal false (fbox [b]) = some (bl b) := rfl
theorem take1 {fr : List Bool} {i : Nat} {b : Bool} (h : fr[i]? = some b) : (fr.drop i).take 1 = [b] := by
  obtain ⟨hi, rfl⟩ := List.getElem?_eq_some_iff.1 h
  rw [List.drop_eq_getElem_cons hi]; rfl

theorem repeat_ok {W0 nb} {n : Nat} (h2 : n ≤ 4096) : DCalls ⟨Try.prog, W0, nb⟩ 18 [.p (.sl 1 [[.bool true]]), i64 n] [] (.arr 0 0 1 n) [fbox (List.replicate n true)] := by
  refine dcalls_end Try.func18 rfl (by kernel_rfl) 48 Try.ntmps18 #[.tmp 4] rfl (Nat.le_of_ble_eq_true rfl) ?_
  have n1 : ¬ ((n : Int) < 0) := by omega
  have n2 : IntKind.u64.wrap (n : Int) = n := wU (by omega) (by omega)
  have n3 : IntKind.i64.wrap (n : Int) = n := wI (by omega) (by omega)
  have n4 : ¬ (9223372036854775807 < (n : Int)) := by omega
  have n5 : n ≤ 281474976710656 := by omega
  have n6 : n ≤ 9223372036854775807 := by omega
  have w1 : IntKind.u64.wrap 1 = 1 := by decide
  simp [n1, n2, w1]
  refine CallGoal.same (mul_ok (n := n) (by omega) (by omega)) ?_
  try simp [n1, n2, n3, n4, n5, n6]
  by_cases h0 : n = 0
  · subst h0
    simp
    refine LoopGoal.cut (fun s => s.hp = [fbox []] ∧ s.tm 7 = .arr 0 0 1 0) ?_ ?_
    · refine ⟨fun m s => s.hp = [fbox []] ∧ s.tm 7 = .arr 0 0 1 0 ∧ s.tm 8 = i64 0, 1, .here ⟨by simp, by simp, by simp⟩, ?_⟩
      rintro m ⟨tm, hp⟩ ⟨q1, q2, q3⟩
      simp only at q1 q2 q3
      subst q1
      simp [q2, q3]
    · rintro ⟨tm, hp⟩ ⟨q1, q2⟩
      simp only at q1 q2
      subst q1
      simp [q2]
      exact .all (by simp) (.refl _) (by simp) (by simp) (by simp) (by simp) (by simp)
  · have h1 : min 1 n = 1 := by omega
    simp [h1, h0]
    refine LoopGoal.cut (fun s => s.hp = [fbox (List.replicate n true)] ∧ s.tm 7 = .arr 0 0 1 n) ?_ ?_
    · refine ⟨fun m s => ∃ k, m = n - k ∧ 0 < k ∧ k ≤ n ∧ s.hp = [fbox (List.replicate k true ++ List.replicate (n - k) false)] ∧ s.tm 7 = .arr 0 0 1 n ∧ s.tm 8 = i64 k, n - 1, .here ⟨1, rfl, by omega, by omega, by simp, by simp, by simp⟩, ?_⟩
      rintro m ⟨tm, hp⟩ ⟨k, rfl, k0, k1, q1, q2, q3⟩
      simp only at q1 q2 q3
      subst q1
      by_cases hk : k < n
      · have hk' : ((k : Int) < n) := by omega
        simp [q2, q3, hk']
        refine drawWp.intro [] [7] mixed (by kernel_rfl) (by kernel_rfl) (by kernel_rfl) ?_
        have e1 : (k : Int) ≤ n := by omega
        have e2 : min k (n - k) = 0 ↔ False := by simp; omega
        have e3 : k + (n - k) = n := by omega
        have e4 : ¬ (n - k = 0) := by omega
        have e5 : ¬ (k = 0) := by omega
        have e6 : 0 < min k (n - k) := by omega
        have e7 : IntKind.i64.wrap ((k : Int) + (min k (n - k) : Nat)) = ((k + min k (n - k) : Nat) : Int) := by rw [wI (by omega) (by omega)]; omega
        simp [q2, q3, hk', e1, e2, e3, e4, e5, e6, k0, k1, e7]
        refine ⟨by simp [pairsOK, compatDyn, lowOK, allLt, labD, skips, guardD, looksG, guardSlot, looksD, goneD, eatsT, eats, goneL, rdD, wrD, simpleD, anyOwn, disj, q2, q3, hk', e1, e2, e3, e4, e5, e6, k0, k1], by simp [pairsOK, compatDyn, lowOK, allLt, labD, skips, guardD, looksG, guardSlot, looksD, goneD, eatsT, eats, goneL, rdD, wrD, simpleD, anyOwn, disj, q2, q3, hk', e1, e2, e3, e4, e5, e6, k0, k1], ?_⟩
        simp [q2, q3, hk', e1, e2, e3, e4, e5, e6, k0, k1, e7]
        refine .same (n - (k + min k (n - k))) (by omega) ⟨k + min k (n - k), rfl, by omega, by omega, ?_, by simp [q2], by simp⟩
        simp only []
        congr 3
        rw [List.drop_append, List.drop_of_length_le (by simp), List.nil_append, List.drop_replicate]
        congr 1
        simp; omega
      · have hk' : ¬ ((k : Int) < n) := by omega
        have : k = n := by omega
        subst this
        simp [q2, q3, hk']
    · rintro ⟨tm, hp⟩ ⟨q1, q2⟩
      simp only at q1 q2
      subst q1
      simp [q2]
      exact .all (by simp) (.refl _) (by simp) (by simp) (by simp) (by simp) (by simp)
