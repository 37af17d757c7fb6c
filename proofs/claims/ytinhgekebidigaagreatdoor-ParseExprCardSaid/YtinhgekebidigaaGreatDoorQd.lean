/- Part of the proof: contracts of the functions, walked by the D-machine. No condition. -/
import Derived.Test.YtinhgekebidigaaGreatDoorQc
set_option linter.unusedSimpArgs false
set_option linter.unusedVariables false
set_option maxHeartbeats 8000000
set_option maxRecDepth 100000
namespace Go.Proofs.Dm
open Go Go.Proofs Go.Proofs.Tryz Go.Proofs.Dm.Sc
namespace Pq
open Gr
attribute [local simp] encT encN encNs takes handsOn isTmp Op.operands Call.operands
def sA1 : ByteArray := ⟨#[112, 97, 99, 107, 97, 103, 101, 32, 112, 10, 102, 117, 110, 99, 32, 102, 40, 41, 32, 123, 10]⟩
def sA2 : ByteArray := ⟨#[10, 125, 10]⟩
def sB1 : ByteArray := ⟨#[112, 97, 99, 107, 97, 103, 101, 32, 112, 10, 102, 117, 110, 99, 32, 102, 40, 41, 32, 123, 32]⟩
def sB2 : ByteArray := ⟨#[32, 125]⟩
def eA1 : ByteArray := ⟨#[112, 97, 99, 107, 97, 103, 101, 32, 112, 10, 118, 97, 114, 32, 120, 32, 105, 110, 116, 32, 61, 32]⟩
def eA2 : ByteArray := ⟨#[10]⟩
def eB1 : ByteArray := ⟨#[112, 97, 99, 107, 97, 103, 101, 32, 112, 10, 102, 117, 110, 99, 32, 102, 40, 41, 32, 123, 32, 105, 102, 32]⟩
def eB2 : ByteArray := ⟨#[32, 123, 32, 125, 32, 125]⟩
theorem cat_size {a b s : ByteArray} {n : Nat} (ha : a.size < 100) (hb : b.size < 100) (hs : s.size ≤ n) (hn : n < 1000000) : ¬ (9223372036854775807 : Int) < ((a.size : Nat) : Int) + ((s.size : Nat) : Int) ∧ ¬ (9223372036854775807 : Int) < (((a.size : Nat) : Int) + ((s.size : Nat) : Int)) + ((b.size : Nat) : Int) ∧ (a ++ s ++ b).size < 10000000 := by
  refine ⟨by omega, by omega, ?_⟩
  simp only [ByteArray.size_append]; omega
theorem stmts_ok {W0 nb} {s : ByteArray} (h2 : 2 ≤ nb) (hT : Lib.Utf8Tabs 0 1 W0) : DCalls ⟨Tryz.prog, W0, nb⟩ 4 [.p (.str s)] [] (.p (.bool true)) [] := by
  have hc := cutS_size s 600
  obtain ⟨z1, z2, z3⟩ := cat_size (a := sA1) (b := sA2) (by decide) (by decide) hc (by omega)
  obtain ⟨y1, y2, y3⟩ := cat_size (a := sB1) (b := sB2) (by decide) (by decide) hc (by omega)
  have q1 := same_ok (W0 := W0) (nb := nb) h2 hT z3
  have q2 := same_ok (W0 := W0) (nb := nb) h2 hT y3
  simp only [sA1, sA2, sB1, sB2] at z1 z2 y1 y2 q1 q2
  generalize hcc : cutS s 600 = c at *
  refine dcalls_end Tryz.func4 rfl (by kernel_rfl) 19 Tryz.ntmps4 #[.tmp 2] rfl (Nat.le_of_ble_eq_true rfl) ?_
  simp
  refine CallGoal.same (begun_ok h2 hT) ?_
  simp
  refine CallGoal.same (cut_ok (n := 600) (by omega)) ?_
  rw [hcc]
  simp [z1, z2, y1, y2]
  refine CallGoal.same q1 ?_
  simp [z1, z2, y1, y2]
  refine CallGoal.same q2 ?_
  simp
  exact .keep (by simp) (.refl _) (by simp) (by simp) (by simp) (by simp)
theorem expr_ok {W0 nb} {s : ByteArray} (h2 : 2 ≤ nb) (hT : Lib.Utf8Tabs 0 1 W0) : DCalls ⟨Tryz.prog, W0, nb⟩ 5 [.p (.str s)] [] (.p (.bool true)) [] := by
  have hc := cutS_size s 300
  obtain ⟨z1, z2, z3⟩ := cat_size (a := eA1) (b := eA2) (by decide) (by decide) hc (by omega)
  obtain ⟨y1, y2, y3⟩ := cat_size (a := eB1) (b := eB2) (by decide) (by decide) hc (by omega)
  have q1 := same_ok (W0 := W0) (nb := nb) h2 hT z3
  have q2 := same_ok (W0 := W0) (nb := nb) h2 hT y3
  simp only [eA1, eA2, eB1, eB2] at z1 z2 y1 y2 q1 q2
  generalize hcc : cutS s 300 = c at *
  refine dcalls_end Tryz.func5 rfl (by kernel_rfl) 19 Tryz.ntmps5 #[.tmp 2] rfl (Nat.le_of_ble_eq_true rfl) ?_
  simp
  refine CallGoal.same (begun_ok h2 hT) ?_
  simp
  refine CallGoal.same (cut_ok (n := 300) (by omega)) ?_
  rw [hcc]
  simp [z1, z2, y1, y2]
  refine CallGoal.same q1 ?_
  simp [z1, z2, y1, y2]
  refine CallGoal.same q2 ?_
  simp
  exact .keep (by simp) (.refl _) (by simp) (by simp) (by simp) (by simp)
end Pq
end Go.Proofs.Dm
