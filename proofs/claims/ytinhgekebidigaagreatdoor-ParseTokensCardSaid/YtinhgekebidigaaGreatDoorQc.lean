/- Part of the proof: contracts of the functions, walked by the D-machine. No condition. -/
import Derived.Test.YtinhgekebidigaaGreatDoorHe
import Derived.Test.YtinhgekebidigaaGreatDoorQa
import Derived.Test.YtinhgekebidigaaGreatDoorQb
set_option linter.unusedSimpArgs false
set_option linter.unusedVariables false
set_option maxHeartbeats 8000000
set_option maxRecDepth 100000
namespace Go.Proofs.Dm
open Go Go.Proofs Go.Proofs.Tryz Go.Proofs.Dm.Sc
namespace Pq
open Gr
attribute [local simp] encT encN encNs takes handsOn isTmp Op.operands Call.operands
def cutS (s : ByteArray) (n : Nat) : ByteArray := if n < s.size then s.extract 0 n else s
theorem cutS_size (s : ByteArray) (n : Nat) : (cutS s n).size ≤ n := by
  unfold cutS
  split
  · simp; omega
  · omega
theorem cut_ok {W0 nb s} {n : Nat} (hn : n < 1000000) : DCalls ⟨Tryz.prog, W0, nb⟩ 10 [.p (.str s), i64 (n : Nat)] [] (.p (.str (cutS s n))) [] := by
  refine dcalls_end Tryz.func10 rfl (by kernel_rfl) 13 Tryz.ntmps10 #[.tmp 4] rfl (Nat.le_of_ble_eq_true rfl) ?_
  simp
  by_cases h : n < s.size
  · simp [h, cutS, Nat.le_of_lt h]
    exact .keep (by simp) (.refl _) (by simp) (by simp) (by simp) (by simp)
  · simp [h, cutS]
    exact .keep (by simp) (.refl _) (by simp) (by simp) (by simp) (by simp)
theorem same_ok {W0 nb} {s : ByteArray} (h2 : 2 ≤ nb) (hT : Lib.Utf8Tabs 0 1 W0) (hs : s.size < 10000000) : DCalls ⟨Tryz.prog, W0, nb⟩ 9 [.p (.str s)] [] (.p (.bool true)) [] := by
  have c1 := pText_ok (W0 := W0) (nb := nb) h2 hT hs
  have c2 := rText_ok (W0 := W0) (nb := nb) hs
  have c3 := eq_ok (W0 := W0) (nb := nb) (by omega) (textP_small s hs)
  have c4 := eqTokens_ok (W0 := W0) (nb := nb) (l := (textP s).2.1) (by have := textP_len s hs; omega)
  obtain ⟨R, hR⟩ : ∃ R, textP s = R := ⟨_, rfl⟩
  rw [hR] at c1 c2 c3 c4
  obtain ⟨⟨k, t, ks⟩, l, f⟩ := R
  simp at c1 c2 c3 c4
  refine dcalls_end Tryz.func9 rfl (by kernel_rfl) 34 Tryz.ntmps9 #[.tmp 2] rfl (Nat.le_of_ble_eq_true rfl) ?_
  simp
  refine CallGoal.same c1 ?_
  simp
  refine CallGoal.same c2 ?_
  simp
  refine CallGoal.same c4 ?_
  simp
  refine CallGoal.same c3 ?_
  simp
  exact .keep (by simp) (.refl _) (by simp) (by simp) (by simp) (by simp)
theorem all_ok {W0 nb} {s : ByteArray} (h2 : 2 ≤ nb) (hT : Lib.Utf8Tabs 0 1 W0) : DCalls ⟨Tryz.prog, W0, nb⟩ 3 [.p (.str s)] [] (.p (.bool true)) [] := by
  have hc := cutS_size s 2010
  refine dcalls_end Tryz.func3 rfl (by kernel_rfl) 10 Tryz.ntmps3 #[.tmp 2] rfl (Nat.le_of_ble_eq_true rfl) ?_
  simp
  refine CallGoal.same (begun_ok h2 hT) ?_
  simp
  refine CallGoal.same (cut_ok (n := 2010) (by omega)) ?_
  simp
  refine CallGoal.same (same_ok h2 hT (by omega)) ?_
  simp
  exact .keep (by simp) (.refl _) (by simp) (by simp) (by simp) (by simp)
theorem rscan_ok {W0 nb} {s : ByteArray} (hs : s.size < 10000000) : DCalls ⟨Tryz.prog, W0, nb⟩ 11 [.p (.str s)] [] (.tup [toks (scanP s).1, coms (scanP s).2.1, i64 (scanP s).2.2]) [] := Rs.scan_ok hs
end Pq
end Go.Proofs.Dm
