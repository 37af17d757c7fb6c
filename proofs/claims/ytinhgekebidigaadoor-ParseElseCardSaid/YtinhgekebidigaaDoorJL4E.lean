/- Part of the proof: contracts of the functions, walked by the D-machine. No condition. -/
import Derived.Test.YtinhgekebidigaaDoorJL1
set_option linter.unusedSimpArgs false
set_option linter.unusedVariables false
set_option Elab.async false
set_option maxHeartbeats 16000000
set_option maxRecDepth 100000
namespace Go.Proofs.Dm
open Go Go.Proofs Go.Proofs.Tryd Go.Proofs.Dm.Sc
namespace Pl
open Gr
attribute [local simp] encT encN encNs takes handsOn isTmp Op.operands Call.operands
def elsP : Nat → ByteArray
  | 0 => ⟨#[105, 102, 32, 97, 32, 123, 32, 125]⟩
  | i + 1 => elsP i ++ ⟨#[32, 101, 108, 115, 101, 32, 105, 102, 32, 98, 32, 123, 32, 125]⟩
def elsL (n : Nat) (last : Bool) : ByteArray := if last then elsP n ++ ⟨#[32, 101, 108, 115, 101, 32, 123, 32, 125]⟩ else elsP n
def elsT (s : ByteArray) : ByteArray := (⟨#[112, 97, 99, 107, 97, 103, 101, 32, 112, 10, 102, 117, 110, 99, 32, 102, 40, 41, 32, 123, 32]⟩ ++ s) ++ ⟨#[32, 125]⟩
def elsTree : Nat → Bool → Nd → Bool
  | 0, last, .mk k _ [_, _, .mk k2 _ _] => k == 14 && last && k2 == 10
  | 0, last, .mk k _ ks => k == 14 && !last && !(decide (ks.length = 3))
  | n + 1, last, .mk k _ [_, _, c] => k == 14 && elsTree n last c
  | _, _, _ => false
def elsOK (n : Nat) (last : Bool) : Bool := match evalText (elsT (elsL n last)) 300 100 with
  | some (.mk _ _ [_, .mk _ _ [.mk _ _ [y]]], l, bad) => bad == -1 && elsTree n last y
  | _ => false
def elsOne (i : Nat) (b : Bool) : Bool := elsOK i b && decide ((scanP (elsT (elsL i b))).1.length < 1000)
theorem els_0f : elsOne 0 false = true := by kernel_rfl
theorem els_0t : elsOne 0 true = true := by kernel_rfl
theorem els_1f : elsOne 1 false = true := by kernel_rfl
theorem els_1t : elsOne 1 true = true := by kernel_rfl
theorem els_2f : elsOne 2 false = true := by kernel_rfl
theorem els_2t : elsOne 2 true = true := by kernel_rfl
theorem els_3f : elsOne 3 false = true := by kernel_rfl
theorem els_3t : elsOne 3 true = true := by kernel_rfl
theorem els_4f : elsOne 4 false = true := by kernel_rfl
theorem els_4t : elsOne 4 true = true := by kernel_rfl
theorem els_5f : elsOne 5 false = true := by kernel_rfl
theorem els_5t : elsOne 5 true = true := by kernel_rfl
theorem els_6f : elsOne 6 false = true := by kernel_rfl
theorem els_6t : elsOne 6 true = true := by kernel_rfl
theorem els_7f : elsOne 7 false = true := by kernel_rfl
theorem els_7t : elsOne 7 true = true := by kernel_rfl
theorem els_8f : elsOne 8 false = true := by kernel_rfl
theorem els_8t : elsOne 8 true = true := by kernel_rfl
theorem els_9f : elsOne 9 false = true := by kernel_rfl
theorem els_9t : elsOne 9 true = true := by kernel_rfl
theorem els_10f : elsOne 10 false = true := by kernel_rfl
theorem els_10t : elsOne 10 true = true := by kernel_rfl
theorem els_11f : elsOne 11 false = true := by kernel_rfl
theorem els_11t : elsOne 11 true = true := by kernel_rfl
theorem els_12f : elsOne 12 false = true := by kernel_rfl
theorem els_12t : elsOne 12 true = true := by kernel_rfl
theorem els_13f : elsOne 13 false = true := by kernel_rfl
theorem els_13t : elsOne 13 true = true := by kernel_rfl
theorem els_14f : elsOne 14 false = true := by kernel_rfl
theorem els_14t : elsOne 14 true = true := by kernel_rfl
theorem els_15f : elsOne 15 false = true := by kernel_rfl
theorem els_15t : elsOne 15 true = true := by kernel_rfl
theorem els_16f : elsOne 16 false = true := by kernel_rfl
theorem els_16t : elsOne 16 true = true := by kernel_rfl
theorem els_17f : elsOne 17 false = true := by kernel_rfl
theorem els_17t : elsOne 17 true = true := by kernel_rfl
theorem els_18f : elsOne 18 false = true := by kernel_rfl
theorem els_18t : elsOne 18 true = true := by kernel_rfl
theorem els_19f : elsOne 19 false = true := by kernel_rfl
theorem els_19t : elsOne 19 true = true := by kernel_rfl
theorem els_20f : elsOne 20 false = true := by kernel_rfl
theorem els_20t : elsOne 20 true = true := by kernel_rfl
theorem els_all : ∀ (k : Nat) (b : Bool), k < 21 → elsOne k b = true
  | 0, false, _ => els_0f
  | 0, true, _ => els_0t
  | 1, false, _ => els_1f
  | 1, true, _ => els_1t
  | 2, false, _ => els_2f
  | 2, true, _ => els_2t
  | 3, false, _ => els_3f
  | 3, true, _ => els_3t
  | 4, false, _ => els_4f
  | 4, true, _ => els_4t
  | 5, false, _ => els_5f
  | 5, true, _ => els_5t
  | 6, false, _ => els_6f
  | 6, true, _ => els_6t
  | 7, false, _ => els_7f
  | 7, true, _ => els_7t
  | 8, false, _ => els_8f
  | 8, true, _ => els_8t
  | 9, false, _ => els_9f
  | 9, true, _ => els_9t
  | 10, false, _ => els_10f
  | 10, true, _ => els_10t
  | 11, false, _ => els_11f
  | 11, true, _ => els_11t
  | 12, false, _ => els_12f
  | 12, true, _ => els_12t
  | 13, false, _ => els_13f
  | 13, true, _ => els_13t
  | 14, false, _ => els_14f
  | 14, true, _ => els_14t
  | 15, false, _ => els_15f
  | 15, true, _ => els_15t
  | 16, false, _ => els_16f
  | 16, true, _ => els_16t
  | 17, false, _ => els_17f
  | 17, true, _ => els_17t
  | 18, false, _ => els_18f
  | 18, true, _ => els_18t
  | 19, false, _ => els_19f
  | 19, true, _ => els_19t
  | 20, false, _ => els_20f
  | 20, true, _ => els_20t
  | k + 21, _, h => absurd h (by omega)
end Pl
end Go.Proofs.Dm
