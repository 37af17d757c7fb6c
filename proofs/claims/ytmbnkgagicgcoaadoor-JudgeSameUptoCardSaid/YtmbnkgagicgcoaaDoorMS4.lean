/- Part of the proof: contracts of the functions, walked by the D-machine. No condition. -/
import Derived.Test.YtmbnkgagicgcoaaDoorMS3
set_option linter.unusedSimpArgs false
set_option linter.unusedVariables false
namespace Go.Proofs.Dm
open Go Go.Proofs Go.Proofs.Tryd
namespace Sc
/-! ### places of bytes -/
theorem ba_get (s : ByteArray) (i : Nat) : s[i]? = s.data.toList[i]? := by
  rcases Nat.lt_or_ge i s.size with h | h
  · rw [Lib.data_getElem? s i h]
    simp [h]
  · have h2 : s.data.toList.length ≤ i := by
      rw [← Lib.size_eq]; exact h
    rw [List.getElem?_eq_none h2]
    simp [h]
theorem ba_size (s : ByteArray) : s.size = s.data.toList.length := Lib.size_eq s
theorem runTo_tw (s : ByteArray) (p : UInt8 → Bool) : ∀ n i, n = s.size - i → runTo s p n i = i + ((s.data.toList.drop i).takeWhile p).length
  | 0, i, h => by
    have : s.data.toList.length ≤ i := by rw [← ba_size]; omega
    simp [runTo, List.drop_eq_nil_of_le this]
  | n + 1, i, h => by
    have hlt : i < s.data.toList.length := by rw [← ba_size]; omega
    rw [List.drop_eq_getElem_cons hlt, List.takeWhile_cons]
    simp only [runTo, ba_get, List.getElem?_eq_getElem hlt]
    by_cases hp : p s.data.toList[i] = true
    · rw [if_pos hp, if_pos hp, runTo_tw s p n (i + 1) (by omega)]
      simp only [List.length_cons]
      omega
    · rw [if_neg hp, if_neg hp]
      rfl
theorem stop_tw (s : ByteArray) (p : UInt8 → Bool) (i : Nat) : stop s p i = i + ((s.data.toList.drop i).takeWhile p).length := runTo_tw s p _ i rfl
theorem indexByte_tw (c : UInt8) : ∀ l : List UInt8, Lib.indexByte l c = if (l.takeWhile (fun b => b != c)).length < l.length then ((l.takeWhile (fun b => b != c)).length : Int) else -1
  | [] => rfl
  | b :: l => by
    simp only [Lib.indexByte, List.takeWhile_cons]
    by_cases h : b = c
    · subst h
      simp
    · have h1 : (b == c) = false := by simpa using h
      have h2 : (b != c) = true := by simpa using h
      rw [h1, h2, indexByte_tw c l]
      simp only [Bool.false_eq_true, if_false, if_true, List.length_cons]
      generalize (l.takeWhile (fun b => b != c)).length = k
      by_cases q : k < l.length
      · have q' : k + 1 < l.length + 1 := by omega
        have q2 : ((k : Int) == -1) = false := beq_eq_false_iff_ne.2 (by omega)
        simp only [if_pos q, if_pos q', q2, Bool.false_eq_true, if_false]
        omega
      · have q' : ¬ k + 1 < l.length + 1 := by omega
        simp only [if_neg q, if_neg q', beq_self_eq_true, if_true]
theorem ext_list (s : ByteArray) (a b : Nat) : (s.extract a b).data.toList = (s.data.toList.drop a).take (b - a) := by
  simp [List.extract]
theorem ba_ext {s t : ByteArray} (h : s.data.toList = t.data.toList) : s = t := by
  cases s; cases t
  simp only at h
  congr
  exact Array.toList_inj.1 h
theorem ext_ext (s : ByteArray) (a b c d : Nat) (h : a ≤ b) (h2 : a + d ≤ b) : (s.extract a b).extract c d = s.extract (a + c) (a + d) := by
  apply ba_ext
  rw [ext_list, ext_list, ext_list, List.drop_take, List.take_take, List.drop_drop]
  congr 1
  omega
/-- Where a line ends. -/
def eol (s : ByteArray) (i : Nat) : Nat := stop s (fun b => b != 10) i
theorem eol_index (s : ByteArray) (i : Nat) (h : i ≤ s.size) : Lib.indexByte (s.extract i s.size).data.toList 10 = if eol s i < s.size then ((eol s i - i : Nat) : Int) else -1 := by
  have hs := ba_size s
  have e : (s.extract i s.size).data.toList = s.data.toList.drop i := by
    rw [ext_list, List.take_of_length_le]
    simp only [List.length_drop]; omega
  rw [e, indexByte_tw, eol, stop_tw]
  simp only [List.length_drop]
  by_cases q : ((s.data.toList.drop i).takeWhile (fun b => b != 10)).length < s.data.toList.length - i
  · rw [if_pos q, if_pos (by omega)]
    omega
  · rw [if_neg q, if_neg (by omega)]
theorem quote_index : ∀ l : List UInt8, Lib.indexByte (l.takeWhile (fun b => b != 10)) 34 = if l[(l.takeWhile (fun b => b != 34 && b != 10)).length]? = some 34 then ((l.takeWhile (fun b => b != 34 && b != 10)).length : Int) else -1
  | [] => rfl
  | b :: l => by
    simp only [List.takeWhile_cons]
    by_cases h : b = 34
    · subst h
      simp [Lib.indexByte]
    · by_cases h' : b = 10
      · subst h'
        simp [Lib.indexByte]
      · have h1 : (b != 34) = true := by simpa using h
        have h2 : (b != 10) = true := by simpa using h'
        have h3 : (b == 34) = false := by simpa using h
        have ih := quote_index l
        simp only [h1, h2, Bool.and_self, if_true, Lib.indexByte, h3, Bool.false_eq_true, if_false, List.length_cons, List.getElem?_cons_succ, ih]
        generalize (l.takeWhile (fun b => b != 34 && b != 10)).length = k
        by_cases q : l[k]? = some 34
        · have q2 : ((k : Int) == -1) = false := beq_eq_false_iff_ne.2 (by omega)
          simp only [if_pos q, q2, Bool.false_eq_true, if_false]
          omega
        · simp only [if_neg q, beq_self_eq_true, if_true]

/-! ### the library's -/
theorem two_str {w : World} {h ρ O ws} {a b : ByteArray} (r : RepDs w h ρ [.p (.str a), .p (.str b)] O 0 ws) : ws = [.string a, .string b] := by
  simp only [RepDs, RepD, Rep] at r
  obtain ⟨v1, r1, rfl, h1, v2, r2, rfl, h2, h3⟩ := r
  rw [h1, h2, h3]
theorem str_u8 {w : World} {h ρ O ws} {a : ByteArray} {b : Int} (r : RepDs w h ρ [.p (.str a), .p (.int .u8 b)] O 0 ws) : ws = [.string a, .int .u8 b] := by
  simp only [RepDs, RepD, Rep] at r
  obtain ⟨v1, r1, rfl, h1, v2, r2, rfl, h2, h3⟩ := r
  rw [h1, h2, h3]
theorem index_nl {W0 nb s} : DCalls ⟨Tryd.prog, W0, nb⟩ 82 [.p (.str s), .p (.str ⟨#[10]⟩)] [] (i64 (Lib.indexByte s.data.toList 10)) [] :=
  dcalls_foreign (vs := [.string s, .string ⟨#[10]⟩]) (v := .int .i64 (Lib.indexByte s.data.toList 10)) ⟨_, Tryd.func82, by kernel_rfl, rfl⟩ (fun w h ρ O ws r => two_str r) (fun w h ρ O => by simp only [RepD, Rep])
    (fun w _ _ => (Tryd.stringslite_Index_one s 10 w).mono (by rintro e w' ⟨rfl, rfl⟩; exact ⟨rfl, Go.RowKit.Below.refl _ _⟩))
theorem indexByte_ok {W0 nb s} {b : UInt8} : DCalls ⟨Tryd.prog, W0, nb⟩ 70 [.p (.str s), .p (.int .u8 34)] [] (i64 (Lib.indexByte s.data.toList 34)) [] :=
  dcalls_foreign (vs := [.string s, .int .u8 34]) (v := .int .i64 (Lib.indexByte s.data.toList 34)) ⟨_, Tryd.func70, by kernel_rfl, rfl⟩ (fun w h ρ O ws r => str_u8 r) (fun w h ρ O => by simp only [RepD, Rep])
    (fun w _ _ => (Tryd.strings_IndexByte s 34 w).mono (by rintro e w' ⟨rfl, rfl⟩; exact ⟨rfl, Go.RowKit.Below.refl _ _⟩))
theorem cutL_ok {W0 nb} {s : ByteArray} {i : Nat} (h1 : i ≤ s.size) (h3 : s.size < 1099511627776) : ∃ y z, DCalls ⟨Tryd.prog, W0, nb⟩ 77 [.p (.str (s.extract i s.size)), .p (.str ⟨#[10]⟩)] [] (.tup [.p (.str (s.extract i (eol s i))), .p (.str y), .p (.bool z)]) [] := by
  have hi := eol_index s i h1
  have hle := stop_le s (fun b => b != 10) i h1
  rw [show stop s (fun b => b != 10) i = eol s i from rfl] at hle
  have hz : (s.extract i s.size).size = s.size - i := by simp
  by_cases q : eol s i < s.size
  · rw [if_pos q] at hi
    refine ⟨(s.extract i s.size).extract (((eol s i - i : Nat) : Int) + 1).toNat (s.size - i), true, ?_⟩
    refine dcalls_end Tryd.func77 rfl (by kernel_rfl) 23 Tryd.ntmps77 #[.tmp 4, .tmp 5, .tmp 6] rfl (Nat.le_of_ble_eq_true rfl) ?_
    simp
    refine CallGoal.same index_nl ?_
    rw [hi]
    have hw := w64_id (n := ((eol s i - i : Nat) : Int) + 1) (by omega) (by omega)
    simp only [w64] at hw
    have hge : (0 : Int) ≤ ((eol s i - i : Nat) : Int) := by omega
    simp [hge]
    refine drawWp.intro [] [] mixed (by kernel_rfl) (by kernel_rfl) (by kernel_rfl) ?_
    have hz1 : (⟨#[10]⟩ : ByteArray).size = 1 := rfl
    simp [hz1, hw, hz, hge, show ((eol s i - i : Nat) : Int) ≤ ((s.size - i : Nat) : Int) by omega, show (0 : Int) ≤ ((eol s i - i : Nat) : Int) + 1 by omega, show ((eol s i - i : Nat) : Int) + 1 ≤ ((s.size - i : Nat) : Int) by omega]
    have e : (s.extract i s.size).extract 0 (eol s i - i) = s.extract i (eol s i) := by
      rw [ext_ext s i s.size 0 (eol s i - i) h1 (by omega)]
      congr 1; omega
    rw [e]
    exact .keep (by simp) (.refl _) (by simp) (by simp) (by simp) (by simp)
  · rw [if_neg q] at hi
    refine ⟨⟨#[]⟩, false, ?_⟩
    have e : s.extract i (eol s i) = s.extract i s.size := by rw [show eol s i = s.size by omega]
    rw [e]
    refine dcalls_end Tryd.func77 rfl (by kernel_rfl) 23 Tryd.ntmps77 #[.tmp 4, .tmp 5, .tmp 6] rfl (Nat.le_of_ble_eq_true rfl) ?_
    simp
    refine CallGoal.same index_nl ?_
    rw [hi]
    simp
    exact .keep (by simp) (.refl _) (by simp) (by simp) (by simp) (by simp)
theorem cut_ok {W0 nb} {s : ByteArray} {i : Nat} (h1 : i ≤ s.size) (h3 : s.size < 1099511627776) : ∃ y z, DCalls ⟨Tryd.prog, W0, nb⟩ 68 [.p (.str (s.extract i s.size)), .p (.str ⟨#[10]⟩)] [] (.tup [.p (.str (s.extract i (eol s i))), .p (.str y), .p (.bool z)]) [] := by
  obtain ⟨y, z, h⟩ := cutL_ok (W0 := W0) (nb := nb) h1 h3
  refine ⟨y, z, ?_⟩
  refine dcalls_end Tryd.func68 rfl (by kernel_rfl) 13 Tryd.ntmps68 #[.tmp 4, .tmp 5, .tmp 6] rfl (Nat.le_of_ble_eq_true rfl) ?_
  simp
  refine CallGoal.same h ?_
  simp
  exact .keep (by simp) (.refl _) (by simp) (by simp) (by simp) (by simp)
end Sc
end Go.Proofs.Dm
