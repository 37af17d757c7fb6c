/- Part of the proof: contracts of the functions, walked by the D-machine. No condition. -/
import Derived.Test.YtmbnkgagicgcoaaDoorMS8
import Derived.Test.YtmbnkgagicgcoaaDoorMT1
set_option linter.unusedSimpArgs false
set_option linter.unusedVariables false
set_option maxHeartbeats 4000000
set_option maxRecDepth 100000
namespace Go.Proofs.Dm
open Go Go.Proofs Go.Proofs.Tryd
namespace Rs
open Sc
abbrev w32 (n : Int) : Int := IntKind.i32.wrap n
theorem w32_id {n : Int} (h0 : -1073741824 ≤ n) (h1 : n < 1073741824) : w32 n = n := by
  simp only [w32, IntKind.wrap, IntKind.bits, IntKind.signed]
  simp
  omega
/-- Behind a lead byte: n bytes in all, r so far. -/
def decL (s : ByteArray) (n : Nat) : Nat → Nat → Int → Option Int
  | 0, _, r => some r
  | k + 1, i, r => if i < n then (match s[i]? with
    | some b => if (b.toNat : Int) < 128 ∨ 191 < (b.toNat : Int) then none else decL s n k (i + 1) (r * 64 + b.toNat - 128)
    | none => none) else some r
def decE (s : ByteArray) (n : Nat) (low r : Int) : Int × Bool :=
  if (s.size : Int) < n then (1, false) else match decL s n 4 1 r with
  | some r => if r < low ∨ 1114111 < r ∨ (55296 ≤ r ∧ r < 57344) then (1, false) else (n, true)
  | none => (1, false)
def decR (s : ByteArray) : Int × Bool := match s[0]? with
  | none => (1, false)
  | some c =>
    if (c.toNat : Int) < 128 then (1, true)
    else if 192 ≤ (c.toNat : Int) ∧ (c.toNat : Int) < 224 then decE s 2 128 (c.toNat - 192)
    else if 224 ≤ (c.toNat : Int) ∧ (c.toNat : Int) < 240 then decE s 3 2048 (c.toNat - 224)
    else if 240 ≤ (c.toNat : Int) ∧ (c.toNat : Int) < 248 then decE s 4 65536 (c.toNat - 240)
    else (1, false)
theorem dec_tail {s : ByteArray} {n : Nat} {low r : Int} (b : UInt8) (h : ¬ ((b.toNat : Int) < 128 ∨ 191 < (b.toNat : Int))) (h0 : 0 ≤ r) (h1 : r < 131072) : w32 (r * 64) = r * 64 ∧ w32 (r * 64 + b.toNat) = r * 64 + b.toNat ∧ w32 (r * 64 + b.toNat - 128) = r * 64 + b.toNat - 128 :=
  ⟨w32_id (by omega) (by omega), w32_id (by omega) (by omega), w32_id (by omega) (by omega)⟩
def bnd : Nat → Int
  | 0 => 0
  | 1 => 32
  | 2 => 2048
  | 3 => 131072
  | _ => 8388608
theorem decode_ok {W0 nb s} (hs : 0 < s.size) (h3 : s.size < 1099511627776) : DCalls ⟨Tryd.prog, W0, nb⟩ 29 [.p (.str s)] [] (.tup [i64 (decR s).1, .p (.bool (decR s).2)]) [] := by
  have hg : s[0]? = some s[0] := by simp
  obtain ⟨R, hR⟩ : ∃ R, decR s = R := ⟨_, rfl⟩
  rw [hR]
  simp only [decR, hg] at hR
  refine dcalls_end Tryd.func29 rfl (by kernel_rfl) 87 Tryd.ntmps29 #[.tmp 2, .tmp 3] rfl (Nat.le_of_ble_eq_true rfl) ?_
  simp [hs]
  generalize s[0] = c at *
  have hcl := c.toNat_lt
  refine ifGoal_of (fun q => ?_) (fun q => ?_)
  · rw [if_pos (by simpa using q)] at hR
    subst hR
    simp
    exact .keep (by simp) (.refl _) (by simp) (by simp) (by simp) (by simp)
  rw [if_neg (by simpa using q)] at hR
  by_cases q1 : 192 ≤ (c.toNat : Int) ∧ (c.toNat : Int) < 224
  · rw [if_pos q1] at hR
    have hc := w32_id (n := (c.toNat : Int)) (by omega) (by omega)
    have hc2 := w32_id (n := (c.toNat : Int) - 192) (by omega) (by omega)
    simp only [w32] at hc hc2
    simp [q1.1, q1.2, hc, hc2]
    have hr0 : 0 ≤ (c.toNat : Int) - 192 := by omega
    have hr1 : (c.toNat : Int) - 192 < 32 := by omega
    generalize (c.toNat : Int) - 192 = r0 at *
    simp only [decE] at hR
    obtain ⟨D, hD⟩ : ∃ D, decL s 2 4 1 r0 = D := ⟨_, rfl⟩
    rw [hD] at hR
    refine ifGoal_of (fun p => ?_) (fun p => ?_)
    · rw [if_pos (by simpa using p)] at hR
      subst hR
      simp
      exact .keep (by simp) (.refl _) (by simp) (by simp) (by simp) (by simp)
    rw [if_neg (by simpa using p)] at hR
    have hp : ¬ (s.size : Int) < 2 := by simpa using p
    simp
    refine LoopGoal.cut (fun st => ∃ r, D = some r ∧ 0 ≤ r ∧ r < 8388608 * 64 ∧ st.hp = [] ∧ st.tm 0 = .p (.str s) ∧ st.tm 5 = i64 2 ∧ st.tm 6 = .p (.int .i32 128) ∧ st.tm 7 = .p (.int .i32 r)) ?_ ?_
    · refine ⟨fun k st => ∃ (i : Nat) (r : Int), decL s 2 k i r = D ∧ k + i = 5 ∧ 1 ≤ i ∧ i ≤ 2 ∧ 0 ≤ r ∧ r < bnd i ∧ st.hp = [] ∧ st.tm 0 = .p (.str s) ∧ st.tm 5 = i64 2 ∧ st.tm 6 = .p (.int .i32 128) ∧ st.tm 7 = .p (.int .i32 r) ∧ st.tm 8 = i64 (i : Nat), 4, .here ⟨1, r0, hD, rfl, by omega, by omega, hr0, by simpa [bnd] using hr1, by simp, by simp, by simp, by simp, by simp, by simp⟩, ?_⟩
      rintro k ⟨tm, hp'⟩ ⟨i, r, h, hk, hi1, hi2, hb0, hb1, h0, g0, g5, g6, g7, g8⟩
      simp only at h0 g0 g5 g6 g7 g8
      subst h0
      obtain ⟨k, rfl⟩ : ∃ k', k = k' + 1 := ⟨k - 1, by omega⟩
      simp only [decL] at h
      simp [g0, g5, g8]
      by_cases hin : i < 2
      · have hlt : i < s.size := by omega
        have hin' : (i : Int) < 2 := by omega
        have hb : s[i]? = some s[i] := by simp [hlt]
        have hw := w64_id (n := (i : Int) + 1) (by omega) (by omega)
        simp only [w64] at hw
        rw [if_pos hin, hb] at h
        simp only at h
        simp [hin', hlt, g0, g5, g6, g7, g8]
        have hbb : 0 ≤ r ∧ r < 131072 := by
          refine ⟨hb0, ?_⟩
          rcases (show i = 1 ∨ i = 2 ∨ i = 3 by omega) with rfl | rfl | rfl <;> simp [bnd] at hb1 <;> omega
        have hbn : ∀ b : Int, 128 ≤ b → b ≤ 191 → 0 ≤ r * 64 + b - 128 ∧ r * 64 + b - 128 < bnd (i + 1) := by
          intro b b1 b2
          rcases (show i = 1 ∨ i = 2 ∨ i = 3 by omega) with rfl | rfl | rfl <;> simp [bnd] at hb1 ⊢ <;> omega
        generalize hgi : s[i] = b at *
        by_cases c1 : (b.toNat : Int) < 128
        · rw [if_pos (.inl c1)] at h
          rw [← h] at hR
          simp only at hR
          subst hR
          simp [c1]
          exact .keep (by simp) (.refl _) (by simp) (by simp) (by simp) (by simp)
        · by_cases c2 : 191 < (b.toNat : Int)
          · rw [if_pos (.inr c2)] at h
            rw [← h] at hR
            simp only at hR
            subst hR
            simp [c1, c2, hlt, g0, g8, hgi]
            exact .keep (by simp) (.refl _) (by simp) (by simp) (by simp) (by simp)
          · rw [if_neg (by omega)] at h
            obtain ⟨z1, z2, z3⟩ := dec_tail (s := s) (n := 2) (low := 0) b (by omega) hbb.1 hbb.2
            have z0 := w32_id (n := (b.toNat : Int)) (by omega) (by omega)
            simp only [w32] at z0 z1 z2 z3
            simp [c1, c2, hlt, g0, g5, g6, g7, g8, hgi, z0, z1, z2, z3]
            have hbn2 := hbn b.toNat (by omega) (by omega)
            exact .same k (by omega) ⟨i + 1, _, h, by omega, by omega, by omega, hbn2.1, hbn2.2, by simp, by simp [g0], by simp [g5], by simp [g6], by simp, by simp [hw]⟩
      · have hin' : ¬ (i : Int) < 2 := by omega
        rw [if_neg hin] at h
        simp [hin']
        refine ⟨r, h.symm, hb0, ?_, ?_⟩
        · rcases (show i = 1 ∨ i = 2 ∨ i = 3 ∨ i = 4 by omega) with rfl | rfl | rfl | rfl <;> simp [bnd] at hb1 <;> omega
        · simp [g0, g5, g6, g7]
    · rintro ⟨tm, hp'⟩ ⟨r, h, hb0, hb1, h0, g0, g5, g6, g7⟩
      simp only at h0 g0 g5 g6 g7
      subst h0
      rw [h] at hR
      simp only at hR
      simp [g0, g5, g6, g7]
      by_cases c1 : r < 128
      · rw [if_pos (.inl c1)] at hR
        subst hR
        simp [c1]
        exact .keep (by simp) (.refl _) (by simp) (by simp) (by simp) (by simp)
      by_cases c2 : 1114111 < r
      · rw [if_pos (.inr (.inl c2))] at hR
        subst hR
        simp [c1, c2, g7]
        exact .keep (by simp) (.refl _) (by simp) (by simp) (by simp) (by simp)
      by_cases c3 : 55296 ≤ r
      · by_cases c4 : r < 57344
        · rw [if_pos (.inr (.inr ⟨c3, c4⟩))] at hR
          subst hR
          simp [c1, c2, c3, c4, g7]
          exact .keep (by simp) (.refl _) (by simp) (by simp) (by simp) (by simp)
        · rw [if_neg (by omega)] at hR
          subst hR
          simp [c1, c2, c3, c4, g5, g7]
          exact .keep (by simp) (.refl _) (by simp) (by simp) (by simp) (by simp)
      · rw [if_neg (by omega)] at hR
        subst hR
        simp [c1, c2, c3, g5, g7]
        exact .keep (by simp) (.refl _) (by simp) (by simp) (by simp) (by simp)
  rw [if_neg q1] at hR
  have q1' : ¬ (192 ≤ (c.toNat : Int)) ∨ ¬ (c.toNat : Int) < 224 := by omega
  by_cases q2 : 224 ≤ (c.toNat : Int) ∧ (c.toNat : Int) < 240
  · rw [if_pos q2] at hR
    have hc := w32_id (n := (c.toNat : Int)) (by omega) (by omega)
    have hc2 := w32_id (n := (c.toNat : Int) - 224) (by omega) (by omega)
    simp only [w32] at hc hc2
    simp [q2.1, q2.2, hc, hc2, show 192 ≤ (c.toNat : Int) by omega, show ¬ (c.toNat : Int) < 224 by omega]
    have hr0 : 0 ≤ (c.toNat : Int) - 224 := by omega
    have hr1 : (c.toNat : Int) - 224 < 32 := by omega
    generalize (c.toNat : Int) - 224 = r0 at *
    simp only [decE] at hR
    obtain ⟨D, hD⟩ : ∃ D, decL s 3 4 1 r0 = D := ⟨_, rfl⟩
    rw [hD] at hR
    refine ifGoal_of (fun p => ?_) (fun p => ?_)
    · rw [if_pos (by simpa using p)] at hR
      subst hR
      simp
      exact .keep (by simp) (.refl _) (by simp) (by simp) (by simp) (by simp)
    rw [if_neg (by simpa using p)] at hR
    have hp : ¬ (s.size : Int) < 3 := by simpa using p
    simp
    refine LoopGoal.cut (fun st => ∃ r, D = some r ∧ 0 ≤ r ∧ r < 8388608 * 64 ∧ st.hp = [] ∧ st.tm 0 = .p (.str s) ∧ st.tm 5 = i64 3 ∧ st.tm 6 = .p (.int .i32 2048) ∧ st.tm 7 = .p (.int .i32 r)) ?_ ?_
    · refine ⟨fun k st => ∃ (i : Nat) (r : Int), decL s 3 k i r = D ∧ k + i = 5 ∧ 1 ≤ i ∧ i ≤ 3 ∧ 0 ≤ r ∧ r < bnd i ∧ st.hp = [] ∧ st.tm 0 = .p (.str s) ∧ st.tm 5 = i64 3 ∧ st.tm 6 = .p (.int .i32 2048) ∧ st.tm 7 = .p (.int .i32 r) ∧ st.tm 8 = i64 (i : Nat), 4, .here ⟨1, r0, hD, rfl, by omega, by omega, hr0, by simpa [bnd] using hr1, by simp, by simp, by simp, by simp, by simp, by simp⟩, ?_⟩
      rintro k ⟨tm, hp'⟩ ⟨i, r, h, hk, hi1, hi2, hb0, hb1, h0, g0, g5, g6, g7, g8⟩
      simp only at h0 g0 g5 g6 g7 g8
      subst h0
      obtain ⟨k, rfl⟩ : ∃ k', k = k' + 1 := ⟨k - 1, by omega⟩
      simp only [decL] at h
      simp [g0, g5, g8]
      by_cases hin : i < 3
      · have hlt : i < s.size := by omega
        have hin' : (i : Int) < 3 := by omega
        have hb : s[i]? = some s[i] := by simp [hlt]
        have hw := w64_id (n := (i : Int) + 1) (by omega) (by omega)
        simp only [w64] at hw
        rw [if_pos hin, hb] at h
        simp only at h
        simp [hin', hlt, g0, g5, g6, g7, g8]
        have hbb : 0 ≤ r ∧ r < 131072 := by
          refine ⟨hb0, ?_⟩
          rcases (show i = 1 ∨ i = 2 ∨ i = 3 by omega) with rfl | rfl | rfl <;> simp [bnd] at hb1 <;> omega
        have hbn : ∀ b : Int, 128 ≤ b → b ≤ 191 → 0 ≤ r * 64 + b - 128 ∧ r * 64 + b - 128 < bnd (i + 1) := by
          intro b b1 b2
          rcases (show i = 1 ∨ i = 2 ∨ i = 3 by omega) with rfl | rfl | rfl <;> simp [bnd] at hb1 ⊢ <;> omega
        generalize hgi : s[i] = b at *
        by_cases c1 : (b.toNat : Int) < 128
        · rw [if_pos (.inl c1)] at h
          rw [← h] at hR
          simp only at hR
          subst hR
          simp [c1]
          exact .keep (by simp) (.refl _) (by simp) (by simp) (by simp) (by simp)
        · by_cases c2 : 191 < (b.toNat : Int)
          · rw [if_pos (.inr c2)] at h
            rw [← h] at hR
            simp only at hR
            subst hR
            simp [c1, c2, hlt, g0, g8, hgi]
            exact .keep (by simp) (.refl _) (by simp) (by simp) (by simp) (by simp)
          · rw [if_neg (by omega)] at h
            obtain ⟨z1, z2, z3⟩ := dec_tail (s := s) (n := 3) (low := 0) b (by omega) hbb.1 hbb.2
            have z0 := w32_id (n := (b.toNat : Int)) (by omega) (by omega)
            simp only [w32] at z0 z1 z2 z3
            simp [c1, c2, hlt, g0, g5, g6, g7, g8, hgi, z0, z1, z2, z3]
            have hbn2 := hbn b.toNat (by omega) (by omega)
            exact .same k (by omega) ⟨i + 1, _, h, by omega, by omega, by omega, hbn2.1, hbn2.2, by simp, by simp [g0], by simp [g5], by simp [g6], by simp, by simp [hw]⟩
      · have hin' : ¬ (i : Int) < 3 := by omega
        rw [if_neg hin] at h
        simp [hin']
        refine ⟨r, h.symm, hb0, ?_, ?_⟩
        · rcases (show i = 1 ∨ i = 2 ∨ i = 3 ∨ i = 4 by omega) with rfl | rfl | rfl | rfl <;> simp [bnd] at hb1 <;> omega
        · simp [g0, g5, g6, g7]
    · rintro ⟨tm, hp'⟩ ⟨r, h, hb0, hb1, h0, g0, g5, g6, g7⟩
      simp only at h0 g0 g5 g6 g7
      subst h0
      rw [h] at hR
      simp only at hR
      simp [g0, g5, g6, g7]
      by_cases c1 : r < 2048
      · rw [if_pos (.inl c1)] at hR
        subst hR
        simp [c1]
        exact .keep (by simp) (.refl _) (by simp) (by simp) (by simp) (by simp)
      by_cases c2 : 1114111 < r
      · rw [if_pos (.inr (.inl c2))] at hR
        subst hR
        simp [c1, c2, g7]
        exact .keep (by simp) (.refl _) (by simp) (by simp) (by simp) (by simp)
      by_cases c3 : 55296 ≤ r
      · by_cases c4 : r < 57344
        · rw [if_pos (.inr (.inr ⟨c3, c4⟩))] at hR
          subst hR
          simp [c1, c2, c3, c4, g7]
          exact .keep (by simp) (.refl _) (by simp) (by simp) (by simp) (by simp)
        · rw [if_neg (by omega)] at hR
          subst hR
          simp [c1, c2, c3, c4, g5, g7]
          exact .keep (by simp) (.refl _) (by simp) (by simp) (by simp) (by simp)
      · rw [if_neg (by omega)] at hR
        subst hR
        simp [c1, c2, c3, g5, g7]
        exact .keep (by simp) (.refl _) (by simp) (by simp) (by simp) (by simp)
  rw [if_neg q2] at hR
  by_cases q3 : 240 ≤ (c.toNat : Int) ∧ (c.toNat : Int) < 248
  · rw [if_pos q3] at hR
    have hc := w32_id (n := (c.toNat : Int)) (by omega) (by omega)
    have hc2 := w32_id (n := (c.toNat : Int) - 240) (by omega) (by omega)
    simp only [w32] at hc hc2
    simp [q3.1, q3.2, hc, hc2, show 192 ≤ (c.toNat : Int) by omega, show ¬ (c.toNat : Int) < 224 by omega, show 224 ≤ (c.toNat : Int) by omega, show ¬ (c.toNat : Int) < 240 by omega]
    have hr0 : 0 ≤ (c.toNat : Int) - 240 := by omega
    have hr1 : (c.toNat : Int) - 240 < 32 := by omega
    generalize (c.toNat : Int) - 240 = r0 at *
    simp only [decE] at hR
    obtain ⟨D, hD⟩ : ∃ D, decL s 4 4 1 r0 = D := ⟨_, rfl⟩
    rw [hD] at hR
    refine ifGoal_of (fun p => ?_) (fun p => ?_)
    · rw [if_pos (by simpa using p)] at hR
      subst hR
      simp
      exact .keep (by simp) (.refl _) (by simp) (by simp) (by simp) (by simp)
    rw [if_neg (by simpa using p)] at hR
    have hp : ¬ (s.size : Int) < 4 := by simpa using p
    simp
    refine LoopGoal.cut (fun st => ∃ r, D = some r ∧ 0 ≤ r ∧ r < 8388608 * 64 ∧ st.hp = [] ∧ st.tm 0 = .p (.str s) ∧ st.tm 5 = i64 4 ∧ st.tm 6 = .p (.int .i32 65536) ∧ st.tm 7 = .p (.int .i32 r)) ?_ ?_
    · refine ⟨fun k st => ∃ (i : Nat) (r : Int), decL s 4 k i r = D ∧ k + i = 5 ∧ 1 ≤ i ∧ i ≤ 4 ∧ 0 ≤ r ∧ r < bnd i ∧ st.hp = [] ∧ st.tm 0 = .p (.str s) ∧ st.tm 5 = i64 4 ∧ st.tm 6 = .p (.int .i32 65536) ∧ st.tm 7 = .p (.int .i32 r) ∧ st.tm 8 = i64 (i : Nat), 4, .here ⟨1, r0, hD, rfl, by omega, by omega, hr0, by simpa [bnd] using hr1, by simp, by simp, by simp, by simp, by simp, by simp⟩, ?_⟩
      rintro k ⟨tm, hp'⟩ ⟨i, r, h, hk, hi1, hi2, hb0, hb1, h0, g0, g5, g6, g7, g8⟩
      simp only at h0 g0 g5 g6 g7 g8
      subst h0
      obtain ⟨k, rfl⟩ : ∃ k', k = k' + 1 := ⟨k - 1, by omega⟩
      simp only [decL] at h
      simp [g0, g5, g8]
      by_cases hin : i < 4
      · have hlt : i < s.size := by omega
        have hin' : (i : Int) < 4 := by omega
        have hb : s[i]? = some s[i] := by simp [hlt]
        have hw := w64_id (n := (i : Int) + 1) (by omega) (by omega)
        simp only [w64] at hw
        rw [if_pos hin, hb] at h
        simp only at h
        simp [hin', hlt, g0, g5, g6, g7, g8]
        have hbb : 0 ≤ r ∧ r < 131072 := by
          refine ⟨hb0, ?_⟩
          rcases (show i = 1 ∨ i = 2 ∨ i = 3 by omega) with rfl | rfl | rfl <;> simp [bnd] at hb1 <;> omega
        have hbn : ∀ b : Int, 128 ≤ b → b ≤ 191 → 0 ≤ r * 64 + b - 128 ∧ r * 64 + b - 128 < bnd (i + 1) := by
          intro b b1 b2
          rcases (show i = 1 ∨ i = 2 ∨ i = 3 by omega) with rfl | rfl | rfl <;> simp [bnd] at hb1 ⊢ <;> omega
        generalize hgi : s[i] = b at *
        by_cases c1 : (b.toNat : Int) < 128
        · rw [if_pos (.inl c1)] at h
          rw [← h] at hR
          simp only at hR
          subst hR
          simp [c1]
          exact .keep (by simp) (.refl _) (by simp) (by simp) (by simp) (by simp)
        · by_cases c2 : 191 < (b.toNat : Int)
          · rw [if_pos (.inr c2)] at h
            rw [← h] at hR
            simp only at hR
            subst hR
            simp [c1, c2, hlt, g0, g8, hgi]
            exact .keep (by simp) (.refl _) (by simp) (by simp) (by simp) (by simp)
          · rw [if_neg (by omega)] at h
            obtain ⟨z1, z2, z3⟩ := dec_tail (s := s) (n := 4) (low := 0) b (by omega) hbb.1 hbb.2
            have z0 := w32_id (n := (b.toNat : Int)) (by omega) (by omega)
            simp only [w32] at z0 z1 z2 z3
            simp [c1, c2, hlt, g0, g5, g6, g7, g8, hgi, z0, z1, z2, z3]
            have hbn2 := hbn b.toNat (by omega) (by omega)
            exact .same k (by omega) ⟨i + 1, _, h, by omega, by omega, by omega, hbn2.1, hbn2.2, by simp, by simp [g0], by simp [g5], by simp [g6], by simp, by simp [hw]⟩
      · have hin' : ¬ (i : Int) < 4 := by omega
        rw [if_neg hin] at h
        simp [hin']
        refine ⟨r, h.symm, hb0, ?_, ?_⟩
        · rcases (show i = 1 ∨ i = 2 ∨ i = 3 ∨ i = 4 by omega) with rfl | rfl | rfl | rfl <;> simp [bnd] at hb1 <;> omega
        · simp [g0, g5, g6, g7]
    · rintro ⟨tm, hp'⟩ ⟨r, h, hb0, hb1, h0, g0, g5, g6, g7⟩
      simp only at h0 g0 g5 g6 g7
      subst h0
      rw [h] at hR
      simp only at hR
      simp [g0, g5, g6, g7]
      by_cases c1 : r < 65536
      · rw [if_pos (.inl c1)] at hR
        subst hR
        simp [c1]
        exact .keep (by simp) (.refl _) (by simp) (by simp) (by simp) (by simp)
      by_cases c2 : 1114111 < r
      · rw [if_pos (.inr (.inl c2))] at hR
        subst hR
        simp [c1, c2, g7]
        exact .keep (by simp) (.refl _) (by simp) (by simp) (by simp) (by simp)
      by_cases c3 : 55296 ≤ r
      · by_cases c4 : r < 57344
        · rw [if_pos (.inr (.inr ⟨c3, c4⟩))] at hR
          subst hR
          simp [c1, c2, c3, c4, g7]
          exact .keep (by simp) (.refl _) (by simp) (by simp) (by simp) (by simp)
        · rw [if_neg (by omega)] at hR
          subst hR
          simp [c1, c2, c3, c4, g5, g7]
          exact .keep (by simp) (.refl _) (by simp) (by simp) (by simp) (by simp)
      · rw [if_neg (by omega)] at hR
        subst hR
        simp [c1, c2, c3, g5, g7]
        exact .keep (by simp) (.refl _) (by simp) (by simp) (by simp) (by simp)
  rw [if_neg q3] at hR
  subst hR
  have hq : ¬ (c.toNat : Int) < 128 := by simpa using q
  by_cases g1 : 192 ≤ (c.toNat : Int)
  · have g2 : ¬ (c.toNat : Int) < 224 := by omega
    have g3 : 224 ≤ (c.toNat : Int) := by omega
    have g4 : ¬ (c.toNat : Int) < 240 := by omega
    have g5 : 240 ≤ (c.toNat : Int) := by omega
    have g6 : ¬ (c.toNat : Int) < 248 := by omega
    simp [g1, g2, g3, g4, g5, g6]
    exact .keep (by simp) (.refl _) (by simp) (by simp) (by simp) (by simp)
  · have g3 : ¬ 224 ≤ (c.toNat : Int) := by omega
    have g5 : ¬ 240 ≤ (c.toNat : Int) := by omega
    simp [g1, g3, g5]
    exact .keep (by simp) (.refl _) (by simp) (by simp) (by simp) (by simp)
end Rs
end Go.Proofs.Dm
