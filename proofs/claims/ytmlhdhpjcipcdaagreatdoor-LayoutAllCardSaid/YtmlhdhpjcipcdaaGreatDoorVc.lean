/- Part of the proof: contracts of the functions, walked by the D-machine. No condition. -/
import Derived.Test.YtmlhdhpjcipcdaaGreatDoorVa
import Derived.Test.YtmlhdhpjcipcdaaGreatDoorHd
import Derived.Test.YtmlhdhpjcipcdaaGreatDoorVb
import Derived.KernelRfl
set_option linter.unusedSimpArgs false
set_option linter.unusedVariables false
set_option maxHeartbeats 8000000
set_option maxRecDepth 100000
namespace Go.Proofs.Dm
open Go Go.Proofs Go.Proofs.Tryz Go.Proofs.Dm.Sc
namespace Sh
open Gr
attribute [local simp] encT encN encNs takes handsOn isTmp Op.operands Call.operands
theorem len_cnts : ∀ ks : List Nd, ks.length ≤ cnts ks
  | [] => Nat.le_refl _
  | .mk k t x :: ks => by
    have := len_cnts ks
    simp only [List.length_cons, cnts, cnt]; omega
theorem text_ok {W0 nb} {l : List Tok} {T B : Nat} (hT : ∀ t ∈ l, t.text.size ≤ T) (hl : l.length < 1099511627776) {nd : Nd} (hS : Small B nd) (hc : cnt nd * (T + 12) < 1099511627776) :
    DCalls ⟨Tryz.prog, W0, nb⟩ 26 [.agg ((encN nd).map .p), .p (.sl 5 (l.map encT))] [] (.p (.str (shapeS l nd))) [] := by
  revert hc
  induction hS with
  | @mk k t ks h1 h2 ih =>
    intro hc
    have h3 := shape_size hT (.mk k t ks)
    have h4 := len_cnts ks
    have h5 : cnts ks * 1 ≤ cnts ks * (T + 12) := Nat.mul_le_mul_left _ (by omega)
    have h6 : cnt (.mk k t ks) * (T + 12) = (T + 12) + cnts ks * (T + 12) := by simp only [cnt, Nat.add_mul, Nat.one_mul]
    refine text_step hl (by omega) (by omega) fun x hx => ih x hx ?_
    have h7 : cnt x * (T + 12) ≤ cnts ks * (T + 12) := Nat.mul_le_mul_right _ (cnt_mem hx)
    omega
def ofP (s : ByteArray) : ByteArray × Bool := if decide (0 ≤ (textP s).2.2) then (⟨#[]⟩, false) else (shapeS (textP s).2.1 (textP s).1, true)
theorem textP_cnt (s : ByteArray) (hs : s.size < 10000000) : cnt (textP s).1 ≤ 2 * (s.size + 2) + 1 := by
  unfold textP
  split
  · simp [cnt, cnts]
  · rename_i hf
    have hf' : (scanP s).2.2 < 0 := by
      have : ¬ 0 ≤ (scanP s).2.2 := by simpa using hf
      omega
    obtain ⟨hg, hk, hl⟩ := scan_good hs hf'
    have hfin := answer_fin hg
    cases ha : answer (scanP s).1 with
    | ok nd a' =>
      rw [ha] at hfin
      have h1 := fileS_cnt ha
      have h2 : a' < (scanP s).1.length := hfin.2
      simp only
      omega
    | bad k => simp [cnt, cnts]
    | out => simp [cnt, cnts]
theorem textP_tb (s : ByteArray) : ∀ t ∈ (textP s).2.1, t.text.size ≤ s.size + 1 := by
  intro t ht
  unfold textP at ht
  split at ht
  · cases ht
  · split at ht
    · exact (scan_tb t ht).2.2
    · cases ht
    · cases ht
theorem textP_ok {W0 nb} {s : ByteArray} (hs : s.size < 100000) : DCalls ⟨Tryz.prog, W0, nb⟩ 26 [.agg ((encN (textP s).1).map .p), .p (.sl 5 ((textP s).2.1.map encT))] [] (.p (.str (shapeS (textP s).2.1 (textP s).1))) [] := by
  refine text_ok (textP_tb s) (by have := textP_len s (by omega); omega) (textP_small s (by omega)) ?_
  have h1 := textP_cnt s (by omega)
  have h2 : cnt (textP s).1 * (s.size + 1 + 12) ≤ 200005 * 100012 := Nat.mul_le_mul (by omega) (by omega)
  omega
theorem of_ok {W0 nb} {s : ByteArray} (h2 : 2 ≤ nb) (hT : Lib.Utf8Tabs 0 1 W0) (hs : s.size < 100000) : DCalls ⟨Tryz.prog, W0, nb⟩ 24 [.p (.str s)] [] (.tup [.p (.str (ofP s).1), .p (.bool (ofP s).2)]) [] := by
  have c1 := pText_ok (W0 := W0) (nb := nb) h2 hT (s := s) (by omega)
  have c2 := textP_ok (W0 := W0) (nb := nb) hs
  unfold ofP
  obtain ⟨R, hR⟩ : ∃ R, textP s = R := ⟨_, rfl⟩
  rw [hR] at c1 c2 ⊢
  obtain ⟨⟨k, t, ks⟩, l, f⟩ := R
  simp at c1 c2
  refine dcalls_end Tryz.func24 rfl (by kernel_rfl) 18 Tryz.ntmps24 #[.tmp 2, .tmp 3] rfl (Nat.le_of_ble_eq_true rfl) ?_
  simp
  refine CallGoal.same c1 ?_
  simp
  cases g : decide (0 ≤ f) with
  | true =>
    have g' : 0 ≤ f := by simpa using g
    simp [g']
    exact .kk
  | false =>
    have g' : ¬ 0 ≤ f := by simpa using g
    simp [g']
    refine CallGoal.same c2 ?_
    simp
    exact .kk
def sameP (a b : ByteArray) : Bool := (ofP a).2 && (ofP b).2 && ((ofP a).1.toList == (ofP b).1.toList)
theorem same_ok {W0 nb} {a b : ByteArray} (h2 : 2 ≤ nb) (hT : Lib.Utf8Tabs 0 1 W0) (ha : a.size < 100000) (hb : b.size < 100000) : DCalls ⟨Tryz.prog, W0, nb⟩ 27 [.p (.str a), .p (.str b)] [] (.p (.bool (sameP a b))) [] := by
  have c1 := of_ok (W0 := W0) (nb := nb) h2 hT ha
  have c2 := of_ok (W0 := W0) (nb := nb) h2 hT hb
  unfold sameP
  generalize ofP a = ra at *
  generalize ofP b = rb at *
  obtain ⟨x, o⟩ := ra
  obtain ⟨y, p⟩ := rb
  simp only at c1 c2 ⊢
  refine dcalls_end Tryz.func27 rfl (by kernel_rfl) 28 Tryz.ntmps27 #[.tmp 4] rfl (Nat.le_of_ble_eq_true rfl) ?_
  simp
  refine CallGoal.same c1 ?_
  simp
  refine CallGoal.same c2 ?_
  simp
  cases o with
  | false =>
    simp
    exact .kk
  | true =>
    cases p with
    | false =>
      simp
      exact .kk
    | true =>
      simp
      exact .kk
def b1 : ByteArray := ⟨#[112, 97, 99, 107, 97, 103, 101, 32, 112, 10, 118, 97, 114, 32, 120, 32, 113, 46, 84, 10]⟩
def b2 : ByteArray := ⟨#[120]⟩
def b3 : ByteArray := ⟨#[112, 97, 99, 107, 97, 103, 101, 32, 112]⟩
def b4 : ByteArray := ⟨#[112, 97, 99, 107, 97, 103, 101, 32, 32, 112, 32, 47, 47, 32, 99, 10]⟩
def b5 : ByteArray := ⟨#[112, 97, 99, 107, 97, 103, 101, 32, 113]⟩
theorem beg1 : ((ofP b1).2 && ((ofP b1).1.toList == [40, 102, 105, 108, 101, 32, 40, 112, 97, 99, 107, 97, 103, 101, 32, 112, 41, 32, 40, 118, 97, 114, 32, 120, 32, 40, 116, 121, 112, 101, 32, 84, 32, 40, 110, 97, 109, 101, 32, 113, 41, 41, 41, 41])) = true := by kernel_rfl
theorem beg2 : (ofP b2).2 = false := by kernel_rfl
theorem beg3 : sameP b3 b4 = true := by kernel_rfl
theorem beg4 : sameP b3 b5 = false := by kernel_rfl
theorem begun_ok {W0 nb} (h2 : 2 ≤ nb) (hT : Lib.Utf8Tabs 0 1 W0) : DCalls ⟨Tryz.prog, W0, nb⟩ 21 [] [] (.p (.bool true)) [] := by
  have c1 := of_ok (W0 := W0) (nb := nb) h2 hT (s := b1) (by decide)
  have c2 := of_ok (W0 := W0) (nb := nb) h2 hT (s := b2) (by decide)
  have c3 := same_ok (W0 := W0) (nb := nb) h2 hT (a := b3) (b := b4) (by decide) (by decide)
  have c4 := same_ok (W0 := W0) (nb := nb) h2 hT (a := b3) (b := b5) (by decide) (by decide)
  have c5 : DCalls ⟨Tryz.prog, W0, nb⟩ 44 [] [] (.p (.bool true)) [] := by
    refine dcalls_end Tryz.func44 rfl (by kernel_rfl) 2 Tryz.ntmps44 #[.tmp 0] rfl (Nat.le_of_ble_eq_true rfl) ?_
    simp
    refine CallGoal.same (Pq.begun_ok h2 hT) ?_
    simp
    exact .kk
  have e1 := beg1
  have e2 := beg2
  rw [beg3] at c3
  rw [beg4] at c4
  generalize ofP b1 = r1 at *
  generalize ofP b2 = r2 at *
  obtain ⟨x, o⟩ := r1
  obtain ⟨y, p⟩ := r2
  simp only [Bool.and_eq_true] at e1 e2
  obtain ⟨rfl, e1⟩ := e1
  subst e2
  simp only [b1, b2, b3, b4, b5] at c1 c2 c3 c4
  refine dcalls_end Tryz.func21 rfl (by kernel_rfl) 32 Tryz.ntmps21 #[.tmp 0] rfl (Nat.le_of_ble_eq_true rfl) ?_
  simp
  refine CallGoal.same c1 ?_
  simp
  refine CallGoal.same c2 ?_
  simp
  refine CallGoal.same c5 ?_
  simp [e1]
  refine CallGoal.same c3 ?_
  simp [e1]
  refine CallGoal.same c4 ?_
  simp
  exact .kk
end Sh
end Go.Proofs.Dm
