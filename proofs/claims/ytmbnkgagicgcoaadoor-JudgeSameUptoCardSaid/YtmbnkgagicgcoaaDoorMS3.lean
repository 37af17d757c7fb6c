/- Part of the proof: contracts of the functions, walked by the D-machine. No condition. -/
import Derived.Test.YtmbnkgagicgcoaaDoorMS2
set_option linter.unusedSimpArgs false
set_option linter.unusedVariables false
set_option maxHeartbeats 4000000
namespace Go.Proofs.Dm
open Go Go.Proofs Go.Proofs.Tryd
namespace Sc
structure SS where
  at_ : Nat
  line : Nat
  l : List Tok
  c : List Com
def runTo (s : ByteArray) (p : UInt8 → Bool) : Nat → Nat → Nat
  | 0, i => i
  | n + 1, i => match s[i]? with
    | some b => if p b then runTo s p n (i + 1) else i
    | none => i
def stop (s : ByteArray) (p : UInt8 → Bool) (i : Nat) : Nat := runTo s p (s.size - i) i
theorem stop_eq (s : ByteArray) (p : UInt8 → Bool) (i : Nat) : stop s p i = match s[i]? with
    | some b => if p b then stop s p (i + 1) else i
    | none => i := by
  unfold stop
  rcases Nat.lt_or_ge i s.size with h | h
  · obtain ⟨n, hn⟩ : ∃ n, s.size - i = n + 1 := ⟨s.size - i - 1, by omega⟩
    have e : s.size - (i + 1) = n := by omega
    rw [hn, e]
    rfl
  · have e : s.size - i = 0 := by omega
    have : s[i]? = none := by simp [h]
    rw [e, this]
    rfl
theorem runTo_le (s : ByteArray) (p : UInt8 → Bool) : ∀ n i, i ≤ s.size → i ≤ runTo s p n i ∧ runTo s p n i ≤ s.size
  | 0, i, h => ⟨Nat.le_refl _, h⟩
  | n + 1, i, h => by
    simp only [runTo]
    split
    · rename_i b hb
      have hlt : i < s.size := by
        rcases Nat.lt_or_ge i s.size with q | q
        · exact q
        · simp [q] at hb
      split
      · have := runTo_le s p n (i + 1) hlt
        omega
      · omega
    · omega
theorem stop_le (s : ByteArray) (p : UInt8 → Bool) (i : Nat) (h : i ≤ s.size) : i ≤ stop s p i ∧ stop s p i ≤ s.size := runTo_le s p _ i h

def add (s : ByteArray) (k : Int) (e : Nat) (x : SS) : SS := { x with l := x.l ++ [⟨k, s.extract x.at_ e, x.at_, x.line, false⟩], at_ := e }
def semi (x : SS) : SS := if x.l.getLast?.any ends then { x with l := x.l ++ [⟨6, ⟨#[59]⟩, x.at_, x.line, true⟩] } else x
def xbox (s : ByteArray) (x : SS) (f : Int) : List DV := [.p (.str s), i64 x.at_, i64 x.line, .own 31 5 (x.l.map encT), .own 34 4 (x.c.map encC), i64 f]
attribute [local simp] xbox takes handsOn isTmp Op.operands Call.operands

theorem least_ok {W0 nb s x f a} : DCalls ⟨Tryd.prog, W0, nb⟩ 39 [.ref 0 0, i64 a] [xbox s x f] (.tup []) [xbox s x (if 0 ≤ a ∧ (f < 0 ∨ a < f) then a else f)] := by
  refine dcalls_end Tryd.func39 rfl (by kernel_rfl) 25 Tryd.ntmps39 #[] rfl (Nat.le_of_ble_eq_true rfl) ?_
  simp
  cases h1 : decide (0 ≤ a) <;> cases h2 : decide (f < 0) <;> cases h3 : decide (a < f) <;> simp only [decide_eq_true_eq, decide_eq_false_iff_not] at h1 h2 h3 <;> simp [h1, h2, h3]
  all_goals exact .keep (by simp [h1, h2, h3]) (.refl _) (by simp) (by simp [h1, h2, h3]) (by simp) (by simp)
theorem put_ok {W0 nb s x f k t} (hl : x.l.length < 1000000000) : DCalls ⟨Tryd.prog, W0, nb⟩ 42 [.ref 0 0, i64 k, .p (.str t)] [xbox s x f] (.tup [])
    [[.p (.str s), i64 (w64 (x.at_ + t.size)), i64 x.line, .own 31 5 ((x.l ++ [(⟨k, t, x.at_, x.line, false⟩ : Tok)]).map encT), .own 34 4 (x.c.map encC), i64 f]] := by
  have ha1 : (x.l.length + 1) * 48 ≤ 140737488355328 := by omega
  have ha2 : x.l.length ≤ 9223372036854775806 := by omega
  refine dcalls_end Tryd.func42 rfl (by kernel_rfl) 35 Tryd.ntmps42 #[] rfl (Nat.le_of_ble_eq_true rfl) ?_
  simp
  refine drawWp.intro [(5, 6), (4, 10), (4, 14), (10, 14)] [4, 10, 14, 17] mixed (by kernel_rfl) (by kernel_rfl) (by kernel_rfl) ?_
  simp [ha1, ha2]
  refine ⟨by simp [pairsOK, compatDyn, lowOK, allLt, labD, skips, guardD, looksG, guardSlot, looksD, goneD, eatsT, eats, goneL, rdD, wrD, simpleD, anyOwn, disj, ldD, ldOK, mvD], by simp [pairsOK, compatDyn, lowOK, allLt, labD, skips, guardD, looksG, guardSlot, looksD, goneD, eatsT, eats, goneL, rdD, wrD, simpleD, anyOwn, disj, ldD, ldOK, mvD], ?_⟩
  simp
  exact .keep (by simp [encT]) (.refl _) (by simp) (by simp [encT]) (by simp [encT]) (by simp [encT])
theorem putA_ok {W0 nb s x f k e} (h1 : x.at_ ≤ e) (h2 : e ≤ s.size) (h3 : s.size < 1099511627776) (hl : x.l.length < 1000000000) : DCalls ⟨Tryd.prog, W0, nb⟩ 42 [.ref 0 0, i64 k, .p (.str (s.extract x.at_ e))] [xbox s x f] (.tup []) [xbox s (add s k e x) f] := by
  have h := put_ok (W0 := W0) (nb := nb) (s := s) (x := x) (f := f) (k := k) (t := s.extract x.at_ e) hl
  have hz : (s.extract x.at_ e).size = e - x.at_ := by simp; omega
  rw [hz, w64_id (by omega) (by omega), show (x.at_ : Int) + ((e - x.at_ : Nat) : Int) = (e : Int) by omega] at h
  exact h
theorem semi_ok {W0 nb s x f} (hl : x.l.length < 1000000000) : DCalls ⟨Tryd.prog, W0, nb⟩ 41 [.ref 0 0] [xbox s x f] (.tup []) [xbox s (semi x) f] := by
  refine dcalls_end Tryd.func41 rfl (by kernel_rfl) 39 Tryd.ntmps41 #[] rfl (Nat.le_of_ble_eq_true rfl) ?_
  rcases List.eq_nil_or_concat x.l with h | ⟨l', t, h⟩
  · have hs : semi x = x := by simp [semi, h]
    rw [hs]
    simp [h]
    exact .keep (by simp [h]) (.refl _) (by simp) (by simp [h]) (by simp [h]) (by simp [h])
  · rw [List.concat_eq_append] at h
    obtain ⟨a, li, l, c⟩ := x
    simp only at h hl
    subst h
    have hw := w64_id (n := (l'.length : Int)) (by omega) (by simp at hl; omega)
    simp only [w64] at hw
    simp [hw, encT]
    refine CallGoal.same (ends_ok (t := t)) ?_
    cases he : ends t with
    | true =>
      have hs : semi ⟨a, li, l' ++ [t], c⟩ = ⟨a, li, (l' ++ [t]) ++ [⟨6, ⟨#[59]⟩, a, li, true⟩], c⟩ := by simp [semi, he]
      rw [hs]
      have ha1 : (l'.length + 1 + 1) * 48 ≤ 140737488355328 := by simp at hl; omega
      have ha2 : l'.length + 1 ≤ 9223372036854775806 := by simp at hl; omega
      have ha3 : l'.length ≤ 9223372036854775805 := by omega
      simp
      refine drawWp.intro [(4, 8), (4, 12), (8, 12)] [4, 8, 12, 15] mixed (by kernel_rfl) (by kernel_rfl) (by kernel_rfl) ?_
      simp [ha1, ha2, ha3]
      refine ⟨by simp [pairsOK, compatDyn, lowOK, allLt, labD, skips, guardD, looksG, guardSlot, looksD, goneD, eatsT, eats, goneL, rdD, wrD, simpleD, anyOwn, disj, ldD, ldOK, mvD], by simp [pairsOK, compatDyn, lowOK, allLt, labD, skips, guardD, looksG, guardSlot, looksD, goneD, eatsT, eats, goneL, rdD, wrD, simpleD, anyOwn, disj, ldD, ldOK, mvD], ?_⟩
      simp
      exact .keep (by simp [encT]) (.refl _) (by simp) (by simp [encT]) (by simp [encT]) (by simp [encT])
    | false =>
      have hs : semi ⟨a, li, l' ++ [t], c⟩ = ⟨a, li, l' ++ [t], c⟩ := by simp [semi, he]
      rw [hs]
      simp
      exact .keep (by simp [encT]) (.refl _) (by simp) (by simp [encT]) (by simp [encT]) (by simp [encT])
theorem run_ok {W0 nb s x f F} {p : UInt8 → Bool} (hF : ∀ b, DCalls ⟨Tryd.prog, W0, nb⟩ F [u8 b] [] (.p (.bool (p b))) []) (h1 : x.at_ ≤ s.size) (h3 : s.size < 1099511627776) :
    DCalls ⟨Tryd.prog, W0, nb⟩ 54 [.ref 0 0, .fn F []] [xbox s x f] (.p (.str (s.extract x.at_ (stop s p x.at_)))) [xbox s x f] := by
  refine dcalls_end Tryd.func54 rfl (by kernel_rfl) 39 Tryd.ntmps54 #[.tmp 4] rfl (Nat.le_of_ble_eq_true rfl) ?_
  simp
  refine ⟨fun m st => ∃ i : Nat, stop s p i = stop s p x.at_ ∧ m = s.size - i ∧ x.at_ ≤ i ∧ i ≤ s.size ∧ st.hp = [xbox s x f] ∧ st.tm 0 = .ref 0 0 ∧ st.tm 1 = .fn F [] ∧ st.tm 5 = i64 (i : Nat), s.size - x.at_, .here ⟨x.at_, rfl, rfl, Nat.le_refl _, h1, by simp, by simp, by simp, by simp⟩, ?_⟩
  rintro m ⟨tm, hp⟩ ⟨i, h, rfl, hle, hi, h0, g1, g2, g5⟩
  simp only at h0 g1 g2 g5
  subst h0
  rw [stop_eq] at h
  simp [g1, g2, g5]
  rcases Nat.lt_or_ge i s.size with hlt | hge
  · have hw := w64_id (n := (i : Int) + 1) (by omega) (by omega)
    simp only [w64] at hw
    have hb : s[i]? = some s[i] := by simp [hlt]
    rw [hb] at h
    simp only at h
    simp [hlt, g1, g2, g5]
    refine CallGoal.same (hF _) ?_
    cases hq : p s[i] with
    | true =>
      rw [hq, if_pos rfl] at h
      simp [g1, g2, g5]
      exact .same (s.size - (i + 1)) (by omega) ⟨i + 1, h, rfl, by omega, by omega, by simp, by simp [g1], by simp [g2], by simp [hw]⟩
    | false =>
      rw [hq] at h
      simp only [Bool.false_eq_true, if_false] at h
      simp [g1, g2, g5]
      refine drawWp.intro [] [7] mixed (by kernel_rfl) (by kernel_rfl) (by kernel_rfl) ?_
      simp [g1, g2, g5, hle, hi]
      refine ⟨by simp [pairsOK, compatDyn, lowOK, allLt, labD, skips, guardD, looksG, guardSlot, looksD, goneD, eatsT, eats, goneL, rdD, wrD, simpleD, anyOwn, disj, ldD, ldOK, mvD], by simp [pairsOK, compatDyn, lowOK, allLt, labD, skips, guardD, looksG, guardSlot, looksD, goneD, eatsT, eats, goneL, rdD, wrD, simpleD, anyOwn, disj, ldD, ldOK, mvD], ?_⟩
      simp [h]
      exact .keep (by simp [h]) (.refl _) (by simp) (by simp [h]) (by simp [h]) (by simp [h])
  · have hb : s[i]? = none := by simp [hge]
    rw [hb] at h
    simp only at h
    simp [show ¬ i < s.size by omega, g1, g2, g5]
    refine drawWp.intro [] [7] mixed (by kernel_rfl) (by kernel_rfl) (by kernel_rfl) ?_
    simp [g1, g2, g5, hle, hi]
    refine ⟨by simp [pairsOK, compatDyn, lowOK, allLt, labD, skips, guardD, looksG, guardSlot, looksD, goneD, eatsT, eats, goneL, rdD, wrD, simpleD, anyOwn, disj, ldD, ldOK, mvD], by simp [pairsOK, compatDyn, lowOK, allLt, labD, skips, guardD, looksG, guardSlot, looksD, goneD, eatsT, eats, goneL, rdD, wrD, simpleD, anyOwn, disj, ldD, ldOK, mvD], ?_⟩
    simp [h]
    exact .keep (by simp [h]) (.refl _) (by simp) (by simp [h]) (by simp [h]) (by simp [h])
end Sc
end Go.Proofs.Dm
