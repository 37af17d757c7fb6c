/- Part of the proof: contracts of the functions, walked by the D-machine. No condition. -/
import Derived.Test.YtinhgekebidigaaDoorGc
set_option linter.unusedSimpArgs false
set_option linter.unusedVariables false
namespace Go.Proofs.Dm
open Go Go.Proofs Go.Proofs.Dm.Sc
namespace Gr
/-! ### the scanner over a list of plain bytes: neither strings nor remarks -/
def addL (k : Int) (w : List UInt8) (x : SS) : SS := { x with l := x.l ++ [⟨k, ⟨w.toArray⟩, x.at_, x.line, false⟩], at_ := x.at_ + w.length }
def stepL : List UInt8 → SS → Option (List UInt8 × SS)
  | [], _ => none
  | c :: r, x =>
    if (c.toNat : Int) == 10 then some (r, { semi x with at_ := x.at_ + 1, line := x.line + 1 })
    else if (c.toNat : Int) == 32 then some (r, { x with at_ := x.at_ + 1 })
    else if (c.toNat : Int) == 9 || c == 47 || (c.toNat : Int) == 34 then none
    else if letter c then
      if 24 < ((c :: r).takeWhile wordB).length then none else some ((c :: r).dropWhile wordB, addL (if isIn keys ⟨((c :: r).takeWhile wordB).toArray⟩ then 5 else 1) ((c :: r).takeWhile wordB) x)
    else if digit c then
      if 12 < ((c :: r).takeWhile digit).length || (decide (1 < ((c :: r).takeWhile digit).length) && (c.toNat : Int) == 48) || ((c :: r).dropWhile digit).head?.any letter then none
      else some ((c :: r).dropWhile digit, addL 2 ((c :: r).takeWhile digit) x)
    else if (c.toNat : Int) == 59 then some (r, addL 6 [c] x)
    else match r with
      | d :: r' => if isIn ops ⟨#[c, d]⟩ then some (r', addL 4 [c, d] x) else if isIn ops ⟨#[c]⟩ then some (d :: r', addL 4 [c] x) else none
      | [] => if isIn ops ⟨#[c]⟩ then some ([], addL 4 [c] x) else none
inductive Ways : List UInt8 → SS → SS → Prop
  | done {x} : Ways [] x x
  | step {r x r' y z} : stepL r x = some (r', y) → Ways r' y z → Ways r x z
def runL : Nat → List UInt8 → SS → Option (List UInt8 × SS)
  | 0, r, x => some (r, x)
  | n + 1, r, x => match stepL r x with
    | some (r', y) => runL n r' y
    | none => none
theorem Ways.run {z} : ∀ {n r x r' y}, runL n r x = some (r', y) → Ways r' y z → Ways r x z
  | 0, r, x, r', y, h, w => by
    simp only [runL, Option.some.injEq, Prod.mk.injEq] at h
    rw [h.1, h.2]; exact w
  | n + 1, r, x, r', y, h, w => by
    simp only [runL] at h
    split at h
    · rename_i r1 y1 h1
      exact .step h1 (Ways.run h w)
    · cases h
theorem get_L (s : ByteArray) (i : Nat) : s[i]? = (s.data.toList.drop i).head? := by
  rw [List.head?_drop]
  by_cases h : i < s.size
  · rw [getElem?_pos s i h, List.getElem?_eq_getElem (by simpa using h)]; rfl
  · rw [getElem?_neg s i h, List.getElem?_eq_none (by simpa using h)]
theorem size_L {s : ByteArray} {i : Nat} {c r} (h : s.data.toList.drop i = c :: r) : i < s.size ∧ s.data.toList.drop (i + 1) = r ∧ i + (r.length + 1) = s.size := by
  have h1 := congrArg List.length h
  simp only [List.length_drop, List.length_cons] at h1
  have h2 : s.data.toList.length = s.size := by simp
  refine ⟨by omega, ?_, by omega⟩
  rw [← List.tail_drop, h, List.tail_cons]
theorem runTo_L (s : ByteArray) (p : UInt8 → Bool) : ∀ n i, s.size - i ≤ n → runTo s p n i = i + ((s.data.toList.drop i).takeWhile p).length
  | 0, i, h => by
    have : s.data.toList.drop i = [] := List.drop_eq_nil_of_le (by simp; omega)
    rw [this]; rfl
  | n + 1, i, h => by
    unfold runTo
    rw [get_L]
    cases hr : s.data.toList.drop i with
    | nil => rfl
    | cons c r =>
      obtain ⟨h1, h2, h3⟩ := size_L hr
      simp only [List.head?_cons, List.takeWhile_cons]
      cases hp : p c with
      | true =>
        simp only [if_true, List.length_cons]
        rw [runTo_L s p n (i + 1) (by omega), h2]; omega
      | false => simp
theorem stop_L (s : ByteArray) (p : UInt8 → Bool) (i : Nat) : Sc.stop s p i = i + ((s.data.toList.drop i).takeWhile p).length := runTo_L s p _ i (Nat.le_refl _)
theorem ext_L (s : ByteArray) (i k : Nat) : s.extract i (i + k) = ⟨((s.data.toList.drop i).take k).toArray⟩ := by
  apply ByteArray.ext
  apply Array.ext'
  simp [ByteArray.data_extract, List.extract_eq_take_drop, Nat.add_sub_cancel_left]
theorem take_while {α : Type} (p : α → Bool) : ∀ r : List α, r.take (r.takeWhile p).length = r.takeWhile p
  | [] => rfl
  | c :: r => by
    simp only [List.takeWhile_cons]
    split
    · simp only [List.length_cons, List.take_succ_cons, take_while p r]
    · rfl
theorem drop_while {α : Type} (p : α → Bool) : ∀ r : List α, r.drop (r.takeWhile p).length = r.dropWhile p
  | [] => rfl
  | c :: r => by
    simp only [List.takeWhile_cons, List.dropWhile_cons]
    split
    · simp only [List.length_cons, List.drop_succ_cons, drop_while p r]
    · rfl
theorem add_L {s : ByteArray} {x : SS} {r : List UInt8} (hr : s.data.toList.drop x.at_ = r) (k : Int) (n : Nat) (hn : n ≤ r.length) : add s k (x.at_ + n) x = addL k (r.take n) x := by
  subst hr
  unfold add addL
  rw [ext_L, List.length_take, Nat.min_eq_left hn]
theorem step_L {s : ByteArray} {x : SS} {r r' : List UInt8} {y : SS} (hr : s.data.toList.drop x.at_ = r) (h : stepL r x = some (r', y)) :
    Sc.step s x = some y ∧ s.data.toList.drop y.at_ = r' ∧ x.at_ < y.at_ ∧ x.at_ < s.size := by
  cases r with
  | nil => cases h
  | cons c r =>
  obtain ⟨h1, h2, h3⟩ := size_L hr
  have hg : s[x.at_]? = some c := by rw [get_L, hr]; rfl
  unfold Sc.step
  rw [hg]
  simp only [stepL] at h ⊢
  split at h
  · rename_i hc
    rw [if_pos hc]
    simp only [Option.some.injEq, Prod.mk.injEq] at h
    obtain ⟨rfl, rfl⟩ := h
    exact ⟨rfl, h2, by simp, h1⟩
  rename_i hc
  rw [if_neg hc]
  split at h
  · rename_i hd
    rw [if_pos (by simp [hd])]
    simp only [Option.some.injEq, Prod.mk.injEq] at h
    obtain ⟨rfl, rfl⟩ := h
    exact ⟨rfl, h2, by simp, h1⟩
  rename_i hd
  split at h
  · cases h
  rename_i he
  simp only [Bool.or_eq_true, not_or] at he
  have hs : slashes s x.at_ = false := by
    unfold slashes
    rw [ext_L, hr]
    cases r with
    | nil => simp
    | cons d r =>
      have hne : c ≠ 47 := by simpa using he.1.2
      simp only [List.take_succ_cons, List.take_zero]
      have e2 : (⟨[c, d].toArray⟩ : ByteArray).toList = [c, d] := by simp [ByteArray.toList, ByteArray.toList.loop, ByteArray.size, ByteArray.get!]
      rw [e2]
      simp [hne]
  rw [if_neg (by simp [hd, he.1.1]), hs, if_neg (by decide)]
  split at h
  · rename_i hl
    rw [if_pos hl, stop_L, hr]
    split at h
    · cases h
    · rename_i hw
      simp only [Option.some.injEq, Prod.mk.injEq] at h
      obtain ⟨rfl, rfl⟩ := h
      have hle : ((c :: r).takeWhile wordB).length ≤ (c :: r).length := (List.takeWhile_prefix _).length_le
      have hpos : 0 < ((c :: r).takeWhile wordB).length := by
        have : wordB c = true := by simp [wordB, hl]
        simp [List.takeWhile_cons, this]
      simp only [nameS, Nat.add_sub_cancel_left, hw, if_false]
      rw [add_L hr _ _ hle, take_while, ext_L, hr, take_while]
      refine ⟨rfl, ?_, by simp only [addL]; omega, h1⟩
      simp only [addL]
      rw [← List.drop_drop, hr, drop_while]
  rename_i hl
  rw [if_neg hl]
  split at h
  · rename_i hg2
    rw [if_pos hg2, stop_L, hr]
    split at h
    · cases h
    · rename_i hw
      simp only [Option.some.injEq, Prod.mk.injEq] at h
      obtain ⟨rfl, rfl⟩ := h
      have hle : ((c :: r).takeWhile digit).length ≤ (c :: r).length := (List.takeWhile_prefix _).length_le
      have hpos : 0 < ((c :: r).takeWhile digit).length := by simp [List.takeWhile_cons, hg2]
      have e1 : s[x.at_ + ((c :: r).takeWhile digit).length]? = ((c :: r).dropWhile digit).head? := by
        rw [get_L, ← List.drop_drop, hr, drop_while]
      simp only [numS, Nat.add_sub_cancel_left, hg, e1, Option.any_some]
      rw [if_neg hw, add_L hr _ _ hle, take_while]
      refine ⟨rfl, ?_, by simp only [addL]; omega, h1⟩
      simp only [addL]
      rw [← List.drop_drop, hr, drop_while]
  rename_i hg2
  rw [if_neg hg2, if_neg (by simpa using he.2)]
  split at h
  · rename_i hc2
    rw [if_pos hc2]
    simp only [Option.some.injEq, Prod.mk.injEq] at h
    obtain ⟨rfl, rfl⟩ := h
    rw [add_L hr 6 1 (by simp)]
    exact ⟨rfl, h2, by simp [addL], h1⟩
  rename_i hc2
  rw [if_neg hc2]
  have o1 : opR s x 1 = if isIn ops ⟨#[c]⟩ then some (addL 4 [c] x) else none := by
    have e1 : decide (x.at_ + 1 ≤ s.size) = true := by simp; omega
    have e2 : s.extract x.at_ (x.at_ + 1) = ⟨#[c]⟩ := by rw [ext_L, hr]; rfl
    simp only [opR, Nat.zero_add, e1, e2, Bool.true_and]
    rw [add_L hr 4 1 (by simp)]
    rfl
  have o2 : opR s x 2 = if decide (x.at_ + 2 ≤ s.size) && isIn ops (s.extract x.at_ (x.at_ + 2)) then some (add s 4 (x.at_ + 2) x) else opR s x 1 := rfl
  rw [o2, o1]
  cases r with
  | nil =>
    have e1 : decide (x.at_ + 2 ≤ s.size) = false := by simp at h3 ⊢; omega
    rw [e1]
    simp only [Bool.false_and] at h ⊢
    split at h
    · rename_i hi
      simp only [Option.some.injEq, Prod.mk.injEq] at h
      obtain ⟨rfl, rfl⟩ := h
      exact ⟨by simp [hi], h2, by simp [addL], h1⟩
    · cases h
  | cons d r =>
    have e1 : decide (x.at_ + 2 ≤ s.size) = true := by simp at h3 ⊢; omega
    have e2 : s.extract x.at_ (x.at_ + 2) = ⟨#[c, d]⟩ := by rw [ext_L, hr]; rfl
    rw [e1, e2]
    simp only [Bool.true_and] at h ⊢
    split at h
    · rename_i hi
      rw [if_pos hi, add_L hr 4 2 (by simp)]
      simp only [Option.some.injEq, Prod.mk.injEq] at h
      obtain ⟨rfl, rfl⟩ := h
      refine ⟨rfl, ?_, by simp [addL], h1⟩
      simp only [addL]
      rw [← List.drop_drop, hr]; rfl
    · rename_i hi
      rw [if_neg hi]
      split at h
      · rename_i hj
        simp only [Option.some.injEq, Prod.mk.injEq] at h
        obtain ⟨rfl, rfl⟩ := h
        exact ⟨by simp [hj], h2, by simp [addL], h1⟩
      · cases h
theorem ways_L {s : ByteArray} {r x z} (w : Ways r x z) : ∀ m, s.data.toList.drop x.at_ = r → x.at_ ≤ s.size → s.size + 1 ≤ m + x.at_ → loopS s m x = (z, -1) := by
  induction w with
  | @done x =>
    intro m hr hx hm
    have h1 := congrArg List.length hr
    simp only [List.length_drop, List.length_nil] at h1
    have h2 : s.data.toList.length = s.size := by simp
    cases m with
    | zero => rfl
    | succ m => simp only [loopS]; rw [if_neg (by omega)]
  | @step r x r' y z h w ih =>
    intro m hr hx hm
    obtain ⟨h1, h2, h3, h4⟩ := step_L hr h
    cases m with
    | zero => omega
    | succ m =>
      simp only [loopS]
      rw [if_pos h4, h1]
      have h5 : y.at_ ≤ s.size := (step_ok h4 h1).2.1
      exact ih m h2 h5 (by omega)
def plain (c : UInt8) : Bool := (c.toNat : Int) == 10 || (decide (32 ≤ c.toNat) && decide (c.toNat < 127))
theorem fault_L {s : ByteArray} (h : ∀ b ∈ s.data.toList, plain b = true) : ∀ n i, faultF s n i = -1
  | 0, i => rfl
  | n + 1, i => by
    unfold faultF
    split
    · rename_i hi
      have hb := h (s[i]'hi) (by
        have : s.data[i]'hi ∈ s.data := Array.getElem_mem _
        exact Array.mem_toList_iff.2 this)
      simp only [plain, Bool.or_eq_true, Bool.and_eq_true, decide_eq_true_eq, beq_iff_eq] at hb
      have hlt : (s[i]'hi).toNat < 128 := by omega
      have hd := decode_ascii s i hi hlt
      have hbad : badAt s i = false := by
        unfold badAt badN
        rw [hd]
        simp
        omega
      rw [hbad, if_neg (by decide)]
      exact fault_L h n _
    · rfl
theorem scan_L {s : ByteArray} {z : SS} (h0 : s.size ≤ 2000) (h1 : ∀ b ∈ s.data.toList, plain b = true) (w : Ways s.data.toList ⟨0, 1, [], []⟩ z) : scanP s = (ended z, z.c, -1) := by
  have e := ways_L w (s.size + 1) rfl (by simp) (by simp)
  unfold scanP
  have e2 : scanF s (-1) = -1 := by
    unfold scanF
    rw [if_neg (by omega), fault_L h1]
    rfl
  simp only [e, e2]
  rfl
end Gr
end Go.Proofs.Dm
