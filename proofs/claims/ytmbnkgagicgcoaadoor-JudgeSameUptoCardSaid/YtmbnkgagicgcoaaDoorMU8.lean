/- Part of the proof: contracts of the functions, walked by the D-machine. No condition. -/
import Derived.Test.YtmbnkgagicgcoaaDoorMU7
set_option linter.unusedSimpArgs false
set_option linter.unusedVariables false
set_option maxHeartbeats 4000000
set_option maxRecDepth 100000
namespace Go.Proofs
open Go Go.RowKit
namespace Dm.Ju
open Dm Dm.Sc Go.Proofs.Tryd
attribute [local simp] takes handsOn isTmp Op.operands Call.operands
def cutS (s : ByteArray) (n : Nat) : ByteArray := if n < s.size then s.extract 0 n else s
theorem cutS_size (s : ByteArray) (n : Nat) : (cutS s n).size ≤ n := by
  unfold cutS
  split
  · simp; omega
  · omega
theorem cut_ok {W0 nb s} {n : Nat} (hn : n < 1000000) : DCalls ⟨Tryd.prog, W0, nb⟩ 7 [.p (.str s), i64 (n : Nat)] [] (.p (.str (cutS s n))) [] := by
  refine dcalls_end Tryd.func7 rfl (by kernel_rfl) 13 Tryd.ntmps7 #[.tmp 4] rfl (Nat.le_of_ble_eq_true rfl) ?_
  simp
  by_cases h : n < s.size
  · simp [h, cutS, Nat.le_of_lt h]
    exact .keep (by simp) (.refl _) (by simp) (by simp) (by simp) (by simp)
  · simp [h, cutS]
    exact .keep (by simp) (.refl _) (by simp) (by simp) (by simp) (by simp)
theorem trimRight_snoc (l cs : List UInt8) (b : UInt8) : Lib.trimRightS (l ++ [b]) cs = if cs.contains b then Lib.trimRightS l cs else l ++ [b] := by
  simp only [Lib.trimRightS, List.reverse_append, List.reverse_cons, List.reverse_nil, List.nil_append, List.singleton_append, List.dropWhile_cons]
  split <;> simp
theorem trim_ok2 {W0 nb s} (hs : s.size < 1099511627776) : DCalls ⟨Tryd.prog, W0, nb⟩ 12 [.p (.str s)] [] (.p (.str (trimB s))) [] := by
  obtain ⟨R, hR⟩ : ∃ R, trimB s = R := ⟨_, rfl⟩
  rw [hR]
  refine dcalls_end Tryd.func12 rfl (by kernel_rfl) 28 Tryd.ntmps12 #[.tmp 2] rfl (Nat.le_of_ble_eq_true rfl) ?_
  simp
  refine ⟨fun m st => ∃ t, trimB t = R ∧ m = t.size ∧ t.size < 1099511627776 ∧ st.hp = [] ∧ st.tm 0 = .p (.str t), s.size, .here ⟨s, hR, rfl, hs, by simp, by simp⟩, ?_⟩
  rintro m ⟨tm, hp⟩ ⟨t, h, rfl, ht, h0, g0⟩
  simp only at h0 g0
  subst h0
  rcases Nat.eq_zero_or_pos t.size with hz | hz
  · have ht0 : t = ⟨#[]⟩ := by
      apply ba_ext
      have : t.data.toList.length = 0 := by rw [← ba_size]; exact hz
      exact List.eq_nil_of_length_eq_zero this
    have hR0 : R = t := by rw [← h, ht0]; rfl
    simp [g0, hz]
    rw [hR0]
    exact .keep (by simp [g0]) (.refl _) (by simp) (by simp [g0]) (by simp [g0]) (by simp [g0])
  · have hb : t[t.size - 1]? = some t[t.size - 1] := by simp
    have hw := w64_id (n := (t.size : Int) - 1) (by omega) (by omega)
    simp only [w64] at hw
    have hk : ((t.size : Int) - 1).toNat = t.size - 1 := by omega
    have hsp : t.data.toList = (t.extract 0 (t.size - 1)).data.toList ++ [t[t.size - 1]] := by
      have hd := drop_next t hb
      rw [ext_list, List.drop_zero, Nat.sub_zero]
      have := List.take_append_drop (t.size - 1) t.data.toList
      rw [hd.2, List.drop_eq_nil_of_le (by rw [← ba_size]; omega)] at this
      exact this.symm
    have h1 : (1 : Int) ≤ t.size := by omega
    have h2 : (t.size : Int) - 1 < t.size := by omega
    have hlt : t.size - 1 < t.size := by omega
    have h4 : (t.size : Int) - 1 ≤ t.size := by omega
    simp [g0, hz, hw, hk, h1, h2, hlt]
    generalize hb' : t[t.size - 1] = b at *
    have e32 : ((b.toNat : Int) == 32) = (b == 32) := by
      rw [Bool.eq_iff_iff]; simp only [beq_iff_eq]
      constructor
      · intro e; exact UInt8.toNat_inj.1 (by simp; omega)
      · rintro rfl; rfl
    have e9 : ((b.toNat : Int) == 9) = (b == 9) := by
      rw [Bool.eq_iff_iff]; simp only [beq_iff_eq]
      constructor
      · intro e; exact UInt8.toNat_inj.1 (by simp; omega)
      · rintro rfl; rfl
    have hstep : ([32, 9] : List UInt8).contains b = true → trimB (t.extract 0 (t.size - 1)) = R := by
      intro hc
      rw [← h]
      simp only [trimB]
      rw [hsp, trimRight_snoc, if_pos hc]
    have hstop : ([32, 9] : List UInt8).contains b = false → t = R := by
      intro hc
      rw [← h]
      apply ba_ext
      simp only [trimB]
      rw [hsp, trimRight_snoc, hc]
      simp
    rw [e32]
    cases q : b == 32 with
    | true =>
      simp [g0, hw, hk, h1, h4]
      exact .same (t.size - 1) (by omega) ⟨t.extract 0 (t.size - 1), hstep (by simp at q; subst q; rfl), by simp, by simp; omega, by simp, by simp⟩
    | false =>
      simp [g0, hw, hk, h1, h2, hlt, hb']
      rw [e9]
      cases q9 : b == 9 with
      | true =>
        simp [g0, hw, hk, h1, h4]
        exact .same (t.size - 1) (by omega) ⟨t.extract 0 (t.size - 1), hstep (by simp at q9; subst q9; rfl), by simp, by simp; omega, by simp, by simp⟩
      | false =>
        have hR2 := hstop (by simp at q q9 ⊢; exact ⟨q, q9⟩)
        subst hR2
        simp [g0]
        exact .keep (by simp) (.refl _) (by simp) (by simp) (by simp) (by simp)
theorem lwords_ok {W0 nb l} {n : Nat} (hn : n ≤ l.length) (hl : l.length < 100000000) : DCalls ⟨Tryd.prog, W0, nb⟩ 11 [tk l, i64 (n : Nat)] [] (tk (wordsL (l.take n))) [] := by
  refine dcalls_end Tryd.func11 rfl (by kernel_rfl) 26 Tryd.ntmps11 #[.tmp 4] rfl (Nat.le_of_ble_eq_true rfl) ?_
  simp
  refine ⟨fun m st => ∃ i : Nat, m = n - i ∧ i ≤ n ∧ st.hp = [] ∧ st.tm 0 = tk l ∧ st.tm 1 = i64 (n : Nat) ∧ st.tm 5 = .own 31 5 ((wordsL (l.take i)).map encT) ∧ st.tm 6 = i64 (i : Nat), n, .here ⟨0, by simp, by simp, by simp, by simp, by simp, by simp [wordsL], by simp⟩, ?_⟩
  rintro m ⟨tm, hp⟩ ⟨i, rfl, hi, h0, g0, g1, g5, g6⟩
  simp only at h0 g0 g1 g5 g6
  subst h0
  simp [g1, g6]
  rcases Nat.lt_or_ge i n with hlt | hge
  · have hil : i < l.length := by omega
    have hw := w64_id (n := (i : Int) + 1) (by omega) (by omega)
    simp only [w64] at hw
    have hwl := wordsL_len (l.take i)
    have hwl2 : (wordsL (l.take i)).length ≤ i := by simp at hwl; omega
    have ha1 : ((wordsL (l.take i)).length + 1) * 48 ≤ 140737488355328 := by omega
    have ha2 : (wordsL (l.take i)).length ≤ 9223372036854775806 := by omega
    have htk : wordsL (l.take (i + 1)) = wordsL (l.take i) ++ (if l[i].kind == 6 then [] else [l[i]]) := by
      rw [List.take_succ_eq_append_getElem hil, wordsL, List.filter_append]
      congr 1
      cases hq : l[i].kind == 6 <;> simp [hq]
    simp [hlt, hil, g0, g6, encT]
    have hq2 : (l[i].kind != 6) = !(l[i].kind == 6) := rfl
    rw [hq2]
    cases hq : l[i].kind == 6 with
    | true =>
      rw [hq, if_pos rfl, List.append_nil] at htk
      simp [g6, hw]
      exact .same (n - (i + 1)) (by omega) ⟨i + 1, rfl, by omega, by simp, by simp [g0], by simp [g1], by simp [g5, htk], by simp [hw]⟩
    | false =>
      rw [hq] at htk
      simp only [Bool.false_eq_true, if_false] at htk
      simp [hil, g0, g5, g6, hw, encT, ha1, ha2]
      exact .same (n - (i + 1)) (by omega) ⟨i + 1, rfl, by omega, by simp, by simp [g0], by simp [g1], by simp [htk, encT], by simp [hw]⟩
  · have : i = n := by omega
    subst this
    simp [g5]
    exact .keep (by simp; rfl) (.fr _ _ _) (by simp) (by simp) (by simp [tk]) (by simp)
end Dm.Ju
end Go.Proofs
