/- Part of the proof: contracts of the functions, walked by the D-machine. No condition. -/
import Derived.Test.YtbijhjleceeogaaDoorVc
set_option linter.unusedSimpArgs false
set_option linter.unusedVariables false
set_option maxHeartbeats 8000000
set_option maxRecDepth 100000
namespace Go.Proofs.Dm
open Go Go.Proofs Go.Proofs.Tryd Go.Proofs.Dm.Sc
namespace Sh
open Gr
attribute [local simp] encT encN encNs takes handsOn isTmp Op.operands Call.operands
def rep (c : UInt8) (n : Nat) : ByteArray := ⟨(List.replicate n c).toArray⟩
theorem rep_size (c : UInt8) (n : Nat) : (rep c n).size = n := by
  show (List.replicate n c).toArray.size = n
  simp
theorem rep_add (c : UInt8) (n : Nat) : rep c n ++ ⟨#[c]⟩ = rep c (n + 1) := by
  apply ba_ext
  rw [ByteArray.data_append, Array.toList_append]
  show List.replicate n c ++ [c] = List.replicate (n + 1) c
  exact List.replicate_succ'.symm
def pre1 : ByteArray := ⟨#[112, 97, 99, 107, 97, 103, 101, 32, 112, 10, 118, 97, 114, 32, 120, 32, 105, 110, 116, 32, 61, 32]⟩
def pre2 : ByteArray := ⟨#[112, 97, 99, 107, 97, 103, 101, 32, 112, 10, 118, 97, 114, 32, 120, 32, 105, 110, 116, 32, 61, 32, 40]⟩
def aT (n : Nat) : ByteArray := pre1 ++ rep 40 n ++ ⟨#[49]⟩ ++ rep 41 n ++ ⟨#[10]⟩
def bT (n : Nat) : ByteArray := pre1 ++ rep 40 n ++ rep 32 n ++ ⟨#[49]⟩ ++ rep 32 n ++ rep 41 n ++ ⟨#[10]⟩
def cT (n : Nat) : ByteArray := pre2 ++ rep 40 n ++ ⟨#[49]⟩ ++ rep 41 n ++ ⟨#[41, 10]⟩
def same3 (x y z : ByteArray × Bool) : Bool := x.2 && y.2 && (x.1.toList == y.1.toList) && !(z.2 && (x.1.toList == z.1.toList))
def chk (n : Nat) : Bool := same3 (ofP (aT n)) (ofP (bT n)) (ofP (cT n))
theorem chk_same {n : Nat} (h : chk n = true) : sameP (aT n) (bT n) = true ∧ sameP (aT n) (cT n) = false := by
  unfold chk same3 at h
  unfold sameP
  simp only [Bool.and_eq_true] at h
  obtain ⟨⟨⟨h1, h2⟩, h3⟩, h4⟩ := h
  refine ⟨by rw [h1, h2, h3]; rfl, ?_⟩
  rw [h1]
  cases h5 : (ofP (cT n)).2 with
  | false => rfl
  | true =>
    rw [h5] at h4
    simpa using h4
theorem T_size {n : Nat} (h : n ≤ 30) : (aT n).size < 100000 ∧ (bT n).size < 100000 ∧ (cT n).size < 100000 := by
  have e1 : pre1.size = 22 := rfl
  have e2 : pre2.size = 23 := rfl
  have e3 : (⟨#[49]⟩ : ByteArray).size = 1 := rfl
  have e4 : (⟨#[10]⟩ : ByteArray).size = 1 := rfl
  have e5 : (⟨#[41, 10]⟩ : ByteArray).size = 2 := rfl
  unfold aT bT cT
  simp only [ByteArray.size_append, rep_size, e1, e2, e3, e4, e5]
  omega
end Sh
end Go.Proofs.Dm
