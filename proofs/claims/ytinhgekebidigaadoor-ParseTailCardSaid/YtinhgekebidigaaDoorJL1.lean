/- Part of the proof: contracts of the functions, walked by the D-machine. No condition. -/
import Derived.Test.YtinhgekebidigaaDoorGc
import Derived.Test.YtinhgekebidigaaDoorJN1
import Derived.KernelRfl
set_option linter.unusedSimpArgs false
set_option linter.unusedVariables false
set_option maxHeartbeats 8000000
set_option maxRecDepth 100000
namespace Go.Proofs.Dm
open Go Go.Proofs Go.Proofs.Tryd Go.Proofs.Dm.Sc
namespace Pl
open Gr
attribute [local simp] encT encN encNs takes handsOn isTmp Op.operands Call.operands
/-! ### begun -/
def txt1 : ByteArray := ⟨#[112, 97, 99, 107, 97, 103, 101, 32, 112, 10, 118, 97, 114, 32, 120, 32, 105, 110, 116, 32, 61, 32, 49, 32, 43, 32, 50, 32, 42, 32, 121, 10]⟩
def txt2 : ByteArray := ⟨#[112, 97, 99, 107, 97, 103, 101, 32, 112, 10, 118, 97, 114, 32, 120, 32, 61, 32, 49, 10]⟩
def begB (r : Option (Nd × List Tok × Int)) : Bool := match r with
  | some (.mk k t [k0, .mk k1 v1 [y, .mk k2 v2 ks]], l, b) => b == -1 && k == 1 && k1 == 4 && k2 == 24 && decide (10 < l.length)
  | _ => false
def badAt (r : Option (Nd × List Tok × Int)) (n : Int) : Bool := match r with
  | some (_, _, b) => b == n
  | _ => false
theorem beg1 : begB (evalText txt1 40 60) = true := by kernel_rfl
theorem beg2 : badAt (evalText txt2 40 60) 16 = true := by kernel_rfl
theorem len1 : (scanP txt1).1.length < 100000000 := of_decide_eq_true (by kernel_rfl)
theorem len2 : (scanP txt2).1.length < 100000000 := of_decide_eq_true (by kernel_rfl)
theorem begun_ok {W0 nb} (h2 : 2 ≤ nb) (hT : Lib.Utf8Tabs 0 1 W0) : DCalls ⟨Tryd.prog, W0, nb⟩ 8 [] [] (.p (.bool true)) [] := by
  have b1 := beg1
  have b2 := beg2
  cases e1 : evalText txt1 40 60 with
  | none => rw [e1] at b1; cases b1
  | some r1 =>
  cases e2 : evalText txt2 40 60 with
  | none => rw [e2] at b2; cases b2
  | some r2 =>
  rw [e1] at b1
  rw [e2] at b2
  obtain ⟨⟨m, mt, mk⟩, l2, n2⟩ := r2
  obtain ⟨nd, l, bd⟩ := r1
  have c1 := text_eval (W0 := W0) (nb := nb) h2 hT (by decide) (by decide) len1 e1
  have c2 := text_eval (W0 := W0) (nb := nb) h2 hT (by decide) (by decide) len2 e2
  simp only [badAt, beq_iff_eq] at b2
  subst b2
  unfold begB at b1
  split at b1
  rotate_left
  · cases b1
  rename_i _ k t k0 k1 v1 y kk2 v2 ks l' b' heq
  injection heq with heq
  simp only [Prod.mk.injEq] at heq
  obtain ⟨rfl, rfl, rfl⟩ := heq
  simp only [Bool.and_eq_true, beq_iff_eq, decide_eq_true_eq] at b1
  obtain ⟨⟨⟨⟨rfl, rfl⟩, rfl⟩, rfl⟩, b5⟩ := b1
  have b6 : (10 : Int) < l.length := by omega
  simp only [txt1, txt2] at c1 c2
  obtain ⟨y0, y1, y2⟩ := y
  obtain ⟨z0, z1, z2⟩ := k0
  simp at c1 c2
  refine dcalls_end Tryd.func8 rfl (by kernel_rfl) 67 Tryd.ntmps8 #[.tmp 0] rfl (Nat.le_of_ble_eq_true rfl) ?_
  simp
  refine CallGoal.same c1 ?_
  simp
  refine CallGoal.same c2 ?_
  simp (maxSteps := 3000000) [b6]
  exact .keep (by simp) (.refl _) (by simp) (by simp) (by simp) (by simp)
/-! ### a var's expression -/
def preT : ByteArray := ⟨#[112, 97, 99, 107, 97, 103, 101, 32, 112, 10, 118, 97, 114, 32, 120, 32, 105, 110, 116, 32, 61, 32]⟩
def nlT : ByteArray := ⟨#[10]⟩
theorem expr_ok {W0 nb} (h2 : 2 ≤ nb) (hT : Lib.Utf8Tabs 0 1 W0) {s : ByteArray} (hs : s.size < 100000) {N n : Nat} (hN : N < 1000000000) (hl : (scanP (preT ++ s ++ nlT)).1.length < 100000000) {k t k1 v1 : Int} {k0 y e : Nd} {l : List Tok} (h : evalText (preT ++ s ++ nlT) N n = some (.mk k t [k0, .mk k1 v1 [y, e]], l, -1)) :
    DCalls ⟨Tryd.prog, W0, nb⟩ 9 [.p (.str s)] [] (.tup [.agg ((encN e).map .p), .p (.sl 5 (l.map encT)), .p (.bool true)]) [] := by
  have hsz : (preT ++ s ++ nlT).size = s.size + 23 := by
    have e1 : preT.size = 22 := rfl
    have e2 : nlT.size = 1 := rfl
    simp only [ByteArray.size_append, e1, e2]; omega
  have c1 := text_eval (W0 := W0) (nb := nb) h2 hT (by omega) hN hl h
  have z1 : ¬ (9223372036854775807 : Int) < (preT.size : Int) + s.size := by
    have e1 : preT.size = 22 := rfl
    rw [e1]; omega
  have z2 : ¬ (9223372036854775807 : Int) < ((preT ++ s).size : Int) + nlT.size := by
    have e1 : preT.size = 22 := rfl
    have e2 : nlT.size = 1 := rfl
    simp only [ByteArray.size_append, e1, e2]; omega
  simp only [ByteArray.size_append, Int.natCast_add] at z2
  simp only [preT, nlT] at c1 z1 z2
  obtain ⟨y0, y1, y2⟩ := y
  obtain ⟨x0, x1, x2⟩ := k0
  obtain ⟨w0, w1, w2⟩ := e
  simp at c1
  refine dcalls_end Tryd.func9 rfl (by kernel_rfl) 42 Tryd.ntmps9 #[.cell 2 26, .tmp 3, .tmp 4] rfl (Nat.le_of_ble_eq_true rfl) ?_
  simp [z1, z2]
  refine CallGoal.same c1 ?_
  simp
  exact .keep (by simp) (.refl _) (by simp) (by simp) (by simp) (by simp)
end Pl
end Go.Proofs.Dm
