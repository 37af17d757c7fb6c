/- Part of the proof: contracts of the functions, walked by the D-machine. No condition. -/
import Derived.Test.YtmbnkgagicgcoaaDoorMS3
import Derived.Test.YtmbnkgagicgcoaaDoorDl
set_option linter.unusedSimpArgs false
set_option linter.unusedVariables false
set_option maxHeartbeats 4000000
set_option maxRecDepth 100000
namespace Go.Proofs
open Go Go.RowKit
namespace Dm.Ju
open Dm Dm.Sc
/-- A box of tokens. -/
def tbox (l : List Tok) : List DV := flatP (l.map encT)
theorem tbox_cons (t : Tok) (l : List Tok) : tbox (t :: l) = (encT t).map .p ++ tbox l := by simp [tbox, flatP_cons]
@[simp] theorem tbox_len (l : List Tok) : (tbox l).length = l.length * 5 := by
  induction l with
  | nil => rfl
  | cons t l ih => rw [tbox_cons, List.length_append, ih]; simp [encT]; omega
theorem tbox_app (a b : List Tok) : tbox (a ++ b) = tbox a ++ tbox b := by
  induction a with
  | nil => rfl
  | cons t a ih => rw [List.cons_append, tbox_cons, tbox_cons, ih, List.append_assoc]
@[simp] theorem tbox_refs (l : List Tok) : refsDs (tbox l) = [] := by
  induction l with
  | nil => rfl
  | cons t l ih => rw [tbox_cons]; simp [encT, ih]
@[simp] theorem tbox_map (f : Nat → Nat) (l : List Tok) : mapRefs f (tbox l) = tbox l := by
  induction l with
  | nil => rfl
  | cons t l ih => rw [tbox_cons]; simp [encT, ih]
@[simp] theorem tbox_own (l : List Tok) : hasOwns (tbox l) = false := by
  induction l with
  | nil => rfl
  | cons t l ih => rw [tbox_cons]; simp [encT, ih]
@[simp] theorem tbox_solid (l : List Tok) : solids (tbox l) = true := by
  induction l with
  | nil => rfl
  | cons t l ih => rw [tbox_cons]; simp [encT, ih]
@[simp] theorem tbox_fz (l : List Tok) : fzs (tbox l) = tbox l := by
  induction l with
  | nil => rfl
  | cons t l ih => rw [tbox_cons]; simp [encT, ih]
@[simp] theorem tbox_nil (l : List Tok) : (tbox l = []) = (l = []) := by
  cases l with
  | nil => simp [tbox, flatP]
  | cons t l => rw [tbox_cons]; simp [encT]
theorem tbox_drop (l : List Tok) (i : Nat) : (tbox l).drop (i * 5) = tbox (l.drop i) := by
  rcases Nat.lt_or_ge l.length i with h | h
  · rw [List.drop_eq_nil_of_le (by simp; omega), List.drop_eq_nil_of_le (by omega)]; rfl
  · have : tbox l = tbox (l.take i) ++ tbox (l.drop i) := by rw [← tbox_app, List.take_append_drop]
    rw [this, List.drop_append_of_le_length (by simp; omega), List.drop_eq_nil_of_le (by simp; omega)]; rfl
theorem tbox_take (l : List Tok) (i : Nat) : (tbox l).take (i * 5) = tbox (l.take i) := by
  rcases Nat.lt_or_ge l.length i with h | h
  · rw [List.take_of_length_le (by simp; omega), List.take_of_length_le (by omega)]
  · have : tbox l = tbox (l.take i) ++ tbox (l.drop i) := by rw [← tbox_app, List.take_append_drop]
    rw [this, List.take_append_of_le_length (by simp; omega), List.take_of_length_le (by simp; omega)]
theorem tbox_at (l : List Tok) (i : Nat) (h : i < l.length) : ((tbox l).drop (i * 5)).take 5 = (encT l[i]).map .p := by
  rw [tbox_drop, List.drop_eq_getElem_cons h, tbox_cons]
  simp [encT]
theorem tbox_set (l : List Tok) (i : Nat) (t : Tok) (h : i < l.length) : (tbox l).take (i * 5) ++ (encT t).map .p ++ (tbox l).drop (i * 5 + 5) = tbox (l.set i t) := by
  rw [tbox_take, show i * 5 + 5 = (i + 1) * 5 by omega, tbox_drop, List.set_eq_take_append_cons_drop, if_pos h, tbox_app, tbox_cons, List.append_assoc]
abbrev tk (l : List Tok) : DV := .p (.sl 5 (l.map encT))
end Dm.Ju
end Go.Proofs
