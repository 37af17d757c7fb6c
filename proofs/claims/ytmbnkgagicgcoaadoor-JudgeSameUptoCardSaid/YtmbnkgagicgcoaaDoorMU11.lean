/- Part of the proof: contracts of the functions, walked by the D-machine. No condition. -/
import Derived.Test.YtmbnkgagicgcoaaDoorMU10
import Derived.KernelRfl
set_option linter.unusedSimpArgs false
set_option linter.unusedVariables false
set_option maxHeartbeats 4000000
set_option maxRecDepth 100000
namespace Go.Proofs
open Go Go.RowKit
namespace Dm.Ju
open Dm Dm.Sc Go.Proofs.Tryd
theorem b1 : judgeTokens ⟨#[97, 32, 98, 10]⟩ ⟨#[97, 32, 32, 98, 32, 47, 47, 32, 99]⟩ = true := by kernel_rfl
theorem b2 : judgeTokens ⟨#[97]⟩ ⟨#[98]⟩ = false := by kernel_rfl
theorem b3 : judgeTokens ⟨#[36]⟩ ⟨#[36]⟩ = false := by kernel_rfl
theorem b4 : judgeComments ⟨#[97, 32, 47, 47, 32, 99, 32, 10]⟩ ⟨#[97, 10, 47, 47, 32, 99]⟩ = true := by kernel_rfl
theorem b5 : judgeComments ⟨#[47, 47, 32, 99, 10, 97]⟩ ⟨#[97, 32, 47, 47, 32, 99]⟩ = false := by kernel_rfl
def fa : List Fil := [⟨⟨#[97]⟩, ⟨#[120, 32, 121, 32, 120]⟩⟩]
def fb : List Fil := [⟨⟨#[97]⟩, ⟨#[122, 32, 121, 32, 122]⟩⟩]
def tz : List Bnd := [⟨0, 0, 0, 0⟩, ⟨0, 2, 0, 0⟩]
theorem b6 : renamedP fa fb tz ⟨#[122]⟩ = true := by kernel_rfl
theorem b7 : renamedP fa fb [] ⟨#[122]⟩ = false := by kernel_rfl
theorem b8 : allEq eqF fa fa = true := by kernel_rfl
theorem b9 : allEq eqF fa fb = false := by kernel_rfl
attribute [local simp] takes handsOn isTmp Op.operands Call.operands
theorem begun_ok {W0 nb} (h2 : 2 ≤ nb) (hT : Lib.Utf8Tabs 0 1 W0) : DCalls ⟨Tryd.prog, W0, nb⟩ 6 [] [] (.p (.bool true)) [] := by
  have c1 := tokens_ok (W0 := W0) (nb := nb) (a := ⟨#[97, 32, 98, 10]⟩) (b := ⟨#[97, 32, 32, 98, 32, 47, 47, 32, 99]⟩) h2 hT (by decide) (by decide)
  have c2 := tokens_ok (W0 := W0) (nb := nb) (a := ⟨#[97]⟩) (b := ⟨#[98]⟩) h2 hT (by decide) (by decide)
  have c3 := tokens_ok (W0 := W0) (nb := nb) (a := ⟨#[36]⟩) (b := ⟨#[36]⟩) h2 hT (by decide) (by decide)
  have c4 := comments_ok (W0 := W0) (nb := nb) (a := ⟨#[97, 32, 47, 47, 32, 99, 32, 10]⟩) (b := ⟨#[97, 10, 47, 47, 32, 99]⟩) h2 hT (by decide) (by decide)
  have c5 := comments_ok (W0 := W0) (nb := nb) (a := ⟨#[47, 47, 32, 99, 10, 97]⟩) (b := ⟨#[97, 32, 47, 47, 32, 99]⟩) h2 hT (by decide) (by decide)
  have hfa : ∀ f ∈ fa, f.text.size < 10000000 := by decide
  have hfb : ∀ f ∈ fb, f.text.size < 10000000 := by decide
  have c6 := renamed_ok (W0 := W0) (nb := nb) (a := fa) (b := fb) (toks := tz) (name := ⟨#[122]⟩) h2 hT hfa hfb (by decide) (by decide)
  have c7 := renamed_ok (W0 := W0) (nb := nb) (a := fa) (b := fb) (toks := []) (name := ⟨#[122]⟩) h2 hT hfa hfb (by decide) (by decide)
  have c8 := files_ok (W0 := W0) (nb := nb) (a := fa) (b := fa) (by decide)
  have c9 := files_ok (W0 := W0) (nb := nb) (a := fa) (b := fb) (by decide)
  rw [b1] at c1
  rw [b2] at c2
  rw [b3] at c3
  rw [b4] at c4
  rw [b5] at c5
  rw [b6] at c6
  rw [b7] at c7
  rw [b8] at c8
  rw [b9] at c9
  simp only [fa, fb, tz, encF, encB, List.map_cons, List.map_nil] at c6 c7 c8 c9
  refine dcalls_end Tryd.func6 rfl (by kernel_rfl) 48 Tryd.ntmps6 #[.tmp 0] rfl (Nat.le_of_ble_eq_true rfl) ?_
  simp
  refine CallGoal.same c1 ?_
  simp
  refine CallGoal.same c2 ?_
  simp
  refine CallGoal.same c3 ?_
  simp
  refine CallGoal.same c4 ?_
  simp
  refine CallGoal.same c5 ?_
  simp
  refine CallGoal.intro c6 (.cons (.refl _) (.cons (.refl _) (.cons (.fr _ _ _) (.cons (.refl _) .nil)))) ?_
  simp
  refine CallGoal.intro c7 (.cons (.refl _) (.cons (.refl _) (.cons (.nilp _) (.cons (.refl _) .nil)))) ?_
  simp
  refine CallGoal.same c8 ?_
  simp
  refine CallGoal.same c9 ?_
  simp
  exact .keep (by simp) (.refl _) (by simp) (by simp) (by simp) (by simp)
end Dm.Ju
end Go.Proofs
