/- Part of the proof: contracts of the functions, walked by the D-machine. No condition. -/
import Derived.Test.YtmbnkgagicgcoaaDoorMS1
import Derived.LoopTactic
import Derived.Laws.RangeAny
import Derived.Laws.RangeString
import Derived.Lib.DecodeN
import Derived.Shelf.Unicode.DecodeAny
import Derived.Deep.DeepFit
import Derived.Lib.OthersKept
import Derived.WalkSmall
set_option linter.unusedSimpArgs false
set_option linter.unusedVariables false
namespace Go.Proofs
open Go Go.RowKit Go.Lib
namespace Dm.Sc
def badN (r d : Nat) : Bool := (decide ((r : Int) < 32) && ((r : Int) != 9) && ((r : Int) != 10)) || ((r : Int) == 127) || (((r : Int) == 65533) && ((d : Int) == 1))
/-- Where a string is no text. -/
def badAt (s : ByteArray) (i : Nat) : Bool :=
  badN (Utf8.decode s i).1 (Lib.decodeGo (s.extract i s.size)).2
theorem badN_false {r d : Nat} (h : ¬ (((r : Int) < 32 ∧ (r : Int) ≠ 9 ∧ (r : Int) ≠ 10) ∨ (r : Int) = 127 ∨ ((r : Int) = 65533 ∧ (d : Int) = 1))) : badN r d = false := by
  cases hb : badN r d
  · rfl
  · exfalso; apply h
    simp only [badN, Bool.or_eq_true, Bool.and_eq_true, decide_eq_true_eq, bne_iff_ne, beq_iff_eq] at hb
    omega
theorem badN_true {r d : Nat} (h : ((r : Int) < 32 ∧ (r : Int) ≠ 9 ∧ (r : Int) ≠ 10) ∨ (r : Int) = 127 ∨ ((r : Int) = 65533 ∧ (d : Int) = 1)) : badN r d = true := by
  simp only [badN, Bool.or_eq_true, Bool.and_eq_true, decide_eq_true_eq, bne_iff_ne, beq_iff_eq]
  omega
theorem decW (s : ByteArray) (i : Nat) : 1 ≤ (Utf8.decode s i).2 := by
  rw [Lib.decode_at]
  unfold Lib.decodeN
  repeat' split
  all_goals simp
def faultF (s : ByteArray) : Nat → Nat → Int
  | 0, _ => -1
  | n + 1, i => if i < s.size then (if badAt s i then (i : Int) else faultF s n (i + (Utf8.decode s i).2)) else -1
end Dm.Sc
open Dm.Sc
set_option maxHeartbeats 4000000 in
set_option maxRecDepth 1000000 in
theorem Tryd.fault_walk (s : ByteArray) (w : World) (hT : Lib.Utf8Tabs 0 1 w) (hs : s.size ≤ 4611686018427387904) :
    Calls Tryd.prog 40 #[.string s] w fun e w' => e = .returned (.int .i64 (faultF s s.size 0)) ∧ Below w.heap.size w w' := by
  go_enter Tryd.func40, Tryd.ntmps40
  go_wp2
  go_loopw [3] (fun _ w' => ∃ (pos b : Nat), Below w.heap.size w w' ∧ w'.heap[w.heap.size]? = some (.stringIter s pos) ∧ faultF s b pos = faultF s s.size 0 ∧ s.size ≤ pos + b) (fun _ w' => s.size - w'.iterPos w.heap.size)
  case atStart => exact ⟨0, s.size, (Below.refl _ _).alloc (Nat.le_refl _) _, World.iter_heap w s 0, rfl, by omega⟩
  case round =>
    obtain ⟨pos, b, hb, hk, hc, hle⟩ := hrel
    have hit := iterPos_of hk
    have hklt : w.heap.size < wr.heap.size := (Array.getElem?_eq_some_iff.1 hk).1
    by_cases hp : pos < s.size
    · have hnx : ∀ ty, (Instr.next (.pointer (some ⟨w.heap.size, 0, none⟩)) true ty).run Tryd.prog wr = _ := fun ty => run_next_any_at wr w.heap.size s pos ty hk hp
      have hwd := decW s pos
      have hk2 := iterAt_heap wr w.heap.size s pos (pos + (Utf8.decode s pos).2) hk
      have hb2 := below_iterAt hb (Nat.le_refl _) s (pos + (Utf8.decode s pos).2)
      have hsz := iterAt_size wr w.heap.size s (pos + (Utf8.decode s pos).2)
      have cD := Tryd.utf8_DecodeRuneInString (s.extract pos s.size) (wr.iterAt w.heap.size s (pos + (Utf8.decode s pos).2)) (Utf8Tabs_below hT hb2)
      have hbad : badAt s pos = badN (Utf8.decode s pos).1 (Lib.decodeGo (s.extract pos s.size)).2 := rfl
      cases b with
      | zero => omega
      | succ b =>
      simp only [faultF, if_pos hp] at hc
      rw [hbad] at hc
      obtain ⟨D, hD⟩ : ∃ D, Lib.decodeGo (s.extract pos s.size) = D := ⟨_, rfl⟩
      rw [hD] at cD hc
      obtain ⟨D1, D2⟩ := D
      obtain ⟨R, hR⟩ : ∃ R, Utf8.decode s pos = R := ⟨_, rfl⟩
      rw [hR] at cD hc hnx hwd hk2 hb2 hsz
      obtain ⟨R1, R2⟩ := R
      simp only at cD hc hnx hwd hk2 hb2 hsz
      generalize wr.iterAt w.heap.size s (pos + R2) = wi at *
      go_wp2_with (first
        | (go_at_call 60; go_fit cD; rintro e w2 ⟨rfl, hbw⟩)
        | go_in)
      all_goals (try simp only [beq_iff_eq, beq_eq_false_iff_ne] at *)
      all_goals first
        | (have hbd : badN R1 D2 = false := badN_false (by omega)
           rw [hbd] at hc
           simp only [Bool.false_eq_true, if_false] at hc
           exact ⟨⟨pos + R2, b, hb2, hk2, hc, by omega⟩, by rw [iterPos_of hk2, hit]; omega⟩)
        | (have hbd : badN R1 D2 = true := badN_true (by omega)
           rw [hbd, if_pos rfl] at hc
           go_ret
           (refine ⟨?_, hb2⟩; rw [← hc]; rfl))
        | (have hk3 : w2.heap[w.heap.size]? = some (.stringIter s (pos + R2)) := (hbw.block _ (by omega)).trans hk2
           have hb3 : Below w.heap.size w w2 := hb2.trans (hbw.mono (by omega))
           have hbd : badN R1 D2 = false := badN_false (by omega)
           rw [hbd] at hc
           simp only [Bool.false_eq_true, if_false] at hc
           exact ⟨⟨pos + R2, b, hb3, hk3, hc, by omega⟩, by rw [iterPos_of hk3, hit]; omega⟩)
        | (have hb3 : Below w.heap.size w w2 := hb2.trans (hbw.mono (by omega))
           have hbd : badN R1 D2 = true := badN_true (by omega)
           rw [hbd, if_pos rfl] at hc
           go_ret
           (refine ⟨?_, hb3⟩; rw [← hc]; rfl))
    · have hnx : ∀ ty, (Instr.next (.pointer (some ⟨w.heap.size, 0, none⟩)) true ty).run Tryd.prog wr = _ := fun ty => run_next_end_at wr w.heap.size s pos ty hk hp
      go_wp2
      go_ret
      refine ⟨?_, hb⟩
      rw [← hc]
      cases b <;> simp [faultF, hp]
end Go.Proofs
