/- Part of the proof: contracts of the functions, walked by the D-machine. No condition. -/
import Derived.Test.YtbijhjleceeogaaDoorGc
import Derived.Test.YtbijhjleceeogaaDoorHc
import Derived.Test.YtbijhjleceeogaaDoorHd
set_option linter.unusedSimpArgs false
set_option linter.unusedVariables false
set_option maxHeartbeats 4000000
namespace Go.Proofs.Dm
open Go Go.Proofs Go.Proofs.Tryd Go.Proofs.Dm.Sc
namespace Gr
variable {l : List Tok}
/-! ### any text -/
/-- What both answer: the tree, or the token at fault. -/
def answer (l : List Tok) : Res Nd := fileS l (l.length + 2) (sf l (l.length + 2) (3 * l.length + 4)) 0 0
theorem answer_fin (hg : Good l) : Fin l.length 0 (answer l) := fileS_fin hg (by omega) (by omega)
/-- What both Text functions answer of a text. -/
def textP (s : ByteArray) : Nd × List Tok × Int :=
  if decide (0 ≤ (scanP s).2.2) then (.mk 0 0 [], [], (scanP s).2.2) else match answer (scanP s).1 with
    | .ok nd _ => (nd, (scanP s).1, -1)
    | .bad k => (.mk 0 0 [], [], (tokAt (scanP s).1 k).at_)
    | .out => (.mk 0 0 [], [], 0)
theorem textP_small (s : ByteArray) (hs : s.size < 10000000) : Small (2 * (s.size + 2) + 10) (textP s).1 := by
  unfold textP
  split
  · exact sm0
  · rename_i hf
    have hf' : (scanP s).2.2 < 0 := by
      have : ¬ 0 ≤ (scanP s).2.2 := by simpa using hf
      omega
    obtain ⟨hg, hk, hl⟩ := scan_good hs hf'
    cases ha : answer (scanP s).1 with
    | ok nd a' => exact fileS_po (B := 2 * (s.size + 2) + 10) (by omega) (N := (scanP s).1.length + 2) (by omega) (by omega) _ _ _ _ _ ha
    | bad k => exact sm0
    | out => exact sm0
theorem textP_len (s : ByteArray) (hs : s.size < 10000000) : (textP s).2.1.length ≤ s.size + 2 := by
  unfold textP
  split
  · simp
  · rename_i hf
    have hf' : (scanP s).2.2 < 0 := by
      have : ¬ 0 ≤ (scanP s).2.2 := by simpa using hf
      omega
    obtain ⟨hg, hk, hl⟩ := scan_good hs hf'
    cases ha : answer (scanP s).1 with
    | ok nd a' => exact hl
    | bad k => simp
    | out => simp
theorem scan_len (s : ByteArray) (hs : s.size < 10000000) : (scanP s).1.length < 100000000 := by
  by_cases h : 0 ≤ (scanP s).2.2
  · have : (scanP s).1 = [] := by
      unfold scanP at h ⊢
      dsimp only at h ⊢
      split at h
      · rename_i q; rw [if_pos q]
      · exact absurd h (by simp only; omega)
    rw [this]; simp
  · obtain ⟨hg, hk, hl⟩ := scan_good hs (by omega)
    omega
theorem text_of1 (s : ByteArray) (hs : s.size < 10000000) (hf : (scanP s).2.2 < 0) {r : Option (Nd × Int)} (h : tokensA (answer (scanP s).1) = r) : Pp.textOf (scanP s).1 (scanP s).2.2 r = some (textP s) := by
  obtain ⟨hg, hk, hl⟩ := scan_good hs hf
  have hfin := answer_fin hg
  have hd : decide (0 ≤ (scanP s).2.2) = false := by simp; omega
  subst h
  unfold Pp.textOf textP
  simp only [hd, Bool.false_eq_true, if_false]
  cases ha : answer (scanP s).1 with
  | ok nd a' =>
    simp only [tokensA, Option.bind_some]
    first | rfl | trivial
  | bad k =>
    rw [ha] at hfin
    have hk' : k < (scanP s).1.length := hfin
    have h0 : decide ((0 : Int) ≤ (k : Int)) = true := by simp
    have e1 : Pp.less (k : Int) (((scanP s).1.length : Int) - 1) = k := by unfold Pp.less; split <;> omega
    simp only [tokensA, Option.bind_some, h0, if_true, e1, Int.toNat_natCast, tok_lt k hk']
    first | rfl | (rw [if_pos (by omega)]) | simp
  | out => rw [ha] at hfin; exact absurd hfin (fun h => h)
theorem tokens_fin {l : List Tok} (hg : Good l) : ∃ r, tokensA (answer l) = some r := by
  have hfin := answer_fin hg
  cases ha : answer l with
  | ok nd a' => exact ⟨_, rfl⟩
  | bad k => exact ⟨_, rfl⟩
  | out => rw [ha] at hfin; exact absurd hfin (fun h => h)
theorem pText_ok {W0 nb} {s : ByteArray} (h2 : 2 ≤ nb) (hT : Lib.Utf8Tabs 0 1 W0) (hs : s.size < 10000000) :
    DCalls ⟨Tryd.prog, W0, nb⟩ 12 [.p (.str s)] [] (.tup [.agg ((encN (textP s).1).map .p), .p (.sl 5 ((textP s).2.1.map encT)), i64 (textP s).2.2]) [] := by
  rcases Int.lt_or_le (scanP s).2.2 0 with hf | hf
  · obtain ⟨hg, hk, hl⟩ := scan_good hs hf
    obtain ⟨r, hr⟩ := tokens_fin hg
    refine Pp.text_ok h2 hT hs (Pp.fileF_ok (N := (scanP s).1.length + 2 + 1) (n := 3 * (scanP s).1.length + 4 + 3)) (scan_len s hs) ?_
    rw [tokens_of hg (N := (scanP s).1.length + 2) (by omega) (3 * (scanP s).1.length + 4) hr, ← hr]
    exact text_of1 s hs hf rfl
  · have hd : decide (0 ≤ (scanP s).2.2) = true := by simpa using hf
    refine Pp.text_ok (F := fun _ => none) h2 hT hs (fun {_ _ _} h => by cases h) (scan_len s hs) ?_
    simp only [Pp.textOf, textP, hd, if_true]
end Gr
end Go.Proofs.Dm
