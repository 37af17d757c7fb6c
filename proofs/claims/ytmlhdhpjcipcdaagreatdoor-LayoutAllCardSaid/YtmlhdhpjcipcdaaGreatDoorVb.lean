/- Part of the proof: contracts of the functions, walked by the D-machine. No condition. -/
import Derived.Test.YtmlhdhpjcipcdaaGreatDoorGc
import Derived.KernelRfl
set_option linter.unusedSimpArgs false
set_option linter.unusedVariables false
set_option maxHeartbeats 8000000
set_option maxRecDepth 100000
namespace Go.Proofs.Dm
open Go Go.Proofs Go.Proofs.Tryz Go.Proofs.Dm.Sc
namespace Pq
open Gr
attribute [local simp] encT encN encNs takes handsOn isTmp Op.operands Call.operands
def txt1 : ByteArray := ⟨#[112, 97, 99, 107, 97, 103, 101, 32, 112, 10, 118, 97, 114, 32, 120, 32, 105, 110, 116, 32, 61, 32, 49, 32, 43, 32, 50, 32, 42, 32, 121, 10]⟩
def txt2 : ByteArray := ⟨#[112, 97, 99, 107, 97, 103, 101, 32, 112, 10, 118, 97, 114, 32, 120, 32, 61, 32, 49, 10]⟩
def begB (r : Option (Nd × List Tok × Int)) : Bool := match r with
  | some (.mk k t [k0, .mk k1 v1 [y, .mk k2 v2 ks]], l, b) => b == -1 && k == 1 && k1 == 4 && k2 == 24 && decide (10 < l.length)
  | _ => false
def badAt (r : Option (Nd × List Tok × Int)) (n : Int) : Bool := match r with
  | some (_, _, b) => b == n
  | _ => false
theorem beg1 : begB (evalText txt1 40 60) = true := by kernel_rfl
theorem beg2 : badAt (evalText txt2 40 60) 16 = true := by kernel_rfl
theorem len1 : (scanP txt1).1.length < 100000000 := of_decide_eq_true (by kernel_rfl)
theorem len2 : (scanP txt2).1.length < 100000000 := of_decide_eq_true (by kernel_rfl)
theorem begun_ok {W0 nb} (h2 : 2 ≤ nb) (hT : Lib.Utf8Tabs 0 1 W0) : DCalls ⟨Tryz.prog, W0, nb⟩ 83 [] [] (.p (.bool true)) [] := by
  have b1 := beg1
  have b2 := beg2
  cases e1 : evalText txt1 40 60 with
  | none => rw [e1] at b1; cases b1
  | some r1 =>
  cases e2 : evalText txt2 40 60 with
  | none => rw [e2] at b2; cases b2
  | some r2 =>
  rw [e1] at b1
  rw [e2] at b2
  obtain ⟨⟨m, mt, mk⟩, l2, n2⟩ := r2
  obtain ⟨nd, l, bd⟩ := r1
  have c1 := text_eval (W0 := W0) (nb := nb) h2 hT (by decide) (by decide) len1 e1
  have c2 := text_eval (W0 := W0) (nb := nb) h2 hT (by decide) (by decide) len2 e2
  simp only [badAt, beq_iff_eq] at b2
  subst b2
  unfold begB at b1
  split at b1
  rotate_left
  · cases b1
  rename_i _ k t k0 k1 v1 y kk2 v2 ks l' b' heq
  injection heq with heq
  simp only [Prod.mk.injEq] at heq
  obtain ⟨rfl, rfl, rfl⟩ := heq
  simp only [Bool.and_eq_true, beq_iff_eq, decide_eq_true_eq] at b1
  obtain ⟨⟨⟨⟨rfl, rfl⟩, rfl⟩, rfl⟩, b5⟩ := b1
  have b6 : (10 : Int) < l.length := by omega
  simp only [txt1, txt2] at c1 c2
  obtain ⟨y0, y1, y2⟩ := y
  obtain ⟨z0, z1, z2⟩ := k0
  simp at c1 c2
  refine dcalls_end Tryz.func83 rfl (by kernel_rfl) 67 Tryz.ntmps83 #[.tmp 0] rfl (Nat.le_of_ble_eq_true rfl) ?_
  simp
  refine CallGoal.same c1 ?_
  simp
  refine CallGoal.same c2 ?_
  simp (maxSteps := 3000000) [b6]
  exact .kk
end Pq
end Go.Proofs.Dm
