/- Part of the proof: contracts of the functions, walked by the D-machine. No condition. -/
import Derived.Test.YtinhgekebidigaaGreatDoorTb
set_option linter.unusedSimpArgs false
set_option linter.unusedVariables false
set_option maxHeartbeats 4000000
namespace Go.Proofs.Dm
open Go Go.Proofs Go.Proofs.Tryz
namespace Rs
open Sc
theorem slashes_get {s : ByteArray} {i : Nat} : slashes s i = (decide (s[i]? = some 47) && decide (s[i + 1]? = some 47)) := by
  rw [ba_get, ba_get]
  have hs := ba_size s
  have e : (s.extract i (i + 2)).toList = (s.data.toList.drop i).take 2 := by
    rw [Lib.toList_data, ext_list, Nat.add_sub_cancel_left]
  simp only [slashes, e]
  by_cases h : i + 2 ≤ s.size
  · have h1 : i < s.data.toList.length := by omega
    have h2 : i + 1 < s.data.toList.length := by omega
    rw [List.drop_eq_getElem_cons h1, List.drop_eq_getElem_cons h2, List.getElem?_eq_getElem h1, List.getElem?_eq_getElem h2]
    simp only [h, decide_true, Bool.true_and, List.take_succ_cons, List.take_zero, Option.some.injEq]
    generalize s.data.toList[i] = a
    generalize s.data.toList[i + 1] = b
    rw [Bool.eq_iff_iff]
    simp
  · have : s.data.toList[i + 1]? = none := by simp; omega
    simp [h, this]
theorem opR_slash {s x} (h : s[x.at_]? = some 47) : ∀ n, n ≤ 2 → opR s x n = none
  | 0, _ => rfl
  | n + 1, hn => by
    obtain ⟨hlt, hd⟩ := drop_next s h
    have e : (s.extract x.at_ (x.at_ + (n + 1))).toList = 47 :: (s.data.toList.drop (x.at_ + 1)).take n := by
      rw [Lib.toList_data, ext_list, hd, Nat.add_sub_cancel_left]
      rfl
    have hf : isIn ops (s.extract x.at_ (x.at_ + (n + 1))) = false := by
      simp [isIn, ops, eqB, e]
    simp only [opR, hf, Bool.and_false, Bool.false_eq_true, if_false]
    exact opR_slash h n (by omega)
attribute [local simp] rbox takes handsOn isTmp Op.operands Call.operands
theorem comment_ok {W0 nb s x} (hg : s[x.at_]? = some 47) (h3 : s.size < 1099511627776) (hl : x.l.length < 100000000) (hc : x.c.length < 100000000) : DCalls ⟨Tryz.prog, W0, nb⟩ 24 [.ref 0 0] [rbox s x] (.p (.bool (slashes s x.at_))) [rbox s (if slashes s x.at_ then note s x else x)] := by
  obtain ⟨h1, hd⟩ := drop_next s hg
  have hw1 := w64_id (n := (x.at_ : Int) + 1) (by omega) (by omega)
  simp only [w64] at hw1
  rw [slashes_get, decide_eq_true hg, Bool.true_and]
  have hlen := semi_len x
  refine dcalls_end Tryz.func24 rfl (by kernel_rfl) 89 Tryz.ntmps24 #[.tmp 2] rfl (Nat.le_of_ble_eq_true rfl) ?_
  simp
  refine drawWp.intro [] [8, 19] mixed (by kernel_rfl) (by kernel_rfl) (by kernel_rfl) ?_
  have tn : ((x.at_ : Int) + 1).toNat = x.at_ + 1 := by omega
  rcases Nat.lt_or_ge (x.at_ + 1) s.size with q | q
  · have q1 : ¬ (s.size : Int) ≤ (x.at_ : Int) + 1 := by omega
    have q2 : (0 : Int) ≤ (x.at_ : Int) + 1 := by omega
    have hb : s[x.at_ + 1]? = some s[x.at_ + 1] := by simp
    rw [hb]
    simp [hw1, q1, q2, tn, q]
    generalize s[x.at_ + 1] = d at *
    refine ⟨by simp [pairsOK, pairsOK2, compatAdd, compatCA, compatSt, Dm.stoB, Dm.callB, Dm.adB, compatDyn, lowOK, allLt, labD, skips, guardD, looksG, guardSlot, looksD, goneD, eatsT, eats, goneL, rdD, wrD, simpleD, anyOwn, disj, ldD, ldOK, mvD, hw1, q1, q2], by simp [pairsOK, pairsOK2, compatAdd, compatCA, compatSt, Dm.stoB, Dm.callB, Dm.adB, compatDyn, lowOK, allLt, labD, skips, guardD, looksG, guardSlot, looksD, goneD, eatsT, eats, goneL, rdD, wrD, simpleD, anyOwn, disj, ldD, ldOK, mvD, hw1, q1, q2], ?_⟩
    simp
    by_cases hd47 : d = 47
    · subst hd47
      simp
      refine CallGoal.same (semi_ok (by omega)) ?_
      simp
      refine LoopGoal.cut (fun st => st.hp = [rbox s (semi x)] ∧ st.tm 0 = .ref 0 0 ∧ st.tm 3 = i64 (eol s x.at_ : Nat)) ?_ ?_
      · refine ⟨fun m st => ∃ j : Nat, eol s j = eol s x.at_ ∧ m = s.size - j ∧ j ≤ s.size ∧ st.hp = [rbox s (semi x)] ∧ st.tm 0 = .ref 0 0 ∧ st.tm 3 = i64 (j : Nat), s.size - x.at_, .here ⟨x.at_, rfl, rfl, by omega, by simp, by simp, by simp⟩, ?_⟩
        rintro m ⟨tm, hp⟩ ⟨i, h, rfl, hi, h0, g0, g3⟩
        simp only at h0 g0 g3
        subst h0
        rw [eol, stop_eq] at h
        rcases Nat.lt_or_ge i s.size with hlt | hge
        · have hw := w64_id (n := (i : Int) + 1) (by omega) (by omega)
          simp only [w64] at hw
          have hb : s[i]? = some s[i] := by simp [hlt]
          rw [hb] at h
          simp only at h
          simp [hlt, g0, g3]
          by_cases hq : s[i] = 10
          · simp [hq] at h
            simp [hq, g0, g3, ← h]
          · rw [if_pos (by simpa using hq)] at h
            have hq' : ¬ s[i].toNat = 10 := by
              intro e; apply hq; exact UInt8.toNat_inj.1 e
            have hq2 : ((s[i].toNat : Int) != 10) = true := by simp; omega
            simp [hq2, g0, g3]
            exact .same (s.size - (i + 1)) (by omega) ⟨i + 1, h, rfl, by omega, by simp, by simp [g0], by simp [hw]⟩
        · have hb : s[i]? = none := by simp [hge]
          rw [hb] at h
          simp only at h
          simp [show ¬ i < s.size by omega, g0, g3, ← h]
      · rintro ⟨tm, hp⟩ ⟨h0, g0, g3⟩
        simp only at h0 g0 g3
        subst h0
        have hle := stop_le s (fun b => b != 10) x.at_ (Nat.le_of_lt h1)
        rw [show stop s (fun b => b != 10) x.at_ = eol s x.at_ from rfl] at hle
        have hw4 := w64_id (n := ((semi x).l.length : Int)) (by omega) (by omega)
        simp only [w64] at hw4
        have ha1 : (x.c.length + 1) * 40 ≤ 140737488355328 := by omega
        have ha2 : x.c.length ≤ 9223372036854775806 := by omega
        simp [g0, g3]
        refine drawWp.intro [(4, 8), (4, 12), (4, 18), (8, 18), (12, 18), (4, 22), (8, 22), (12, 22), (18, 22), (4, 26), (18, 26), (22, 26)] [4, 8, 12, 18, 22, 26, 30] mixed (by kernel_rfl) (by kernel_rfl) (by kernel_rfl) ?_
        simp [g0, g3, ha1, ha2, hw4, hle.1, hle.2]
        refine ⟨by simp [pairsOK, pairsOK2, compatAdd, compatCA, compatSt, Dm.stoB, Dm.callB, Dm.adB, compatDyn, lowOK, allLt, labD, skips, guardD, looksG, guardSlot, looksD, goneD, eatsT, eats, goneL, rdD, wrD, simpleD, anyOwn, disj, ldD, ldOK, mvD], by simp [pairsOK, pairsOK2, compatAdd, compatCA, compatSt, Dm.stoB, Dm.callB, Dm.adB, compatDyn, lowOK, allLt, labD, skips, guardD, looksG, guardSlot, looksD, goneD, eatsT, eats, goneL, rdD, wrD, simpleD, anyOwn, disj, ldD, ldOK, mvD], ?_⟩
        simp [note, g0, g3]
        exact .keep (by simp [encC]) (.refl _) (by simp) (by simp [encC]) (by simp [encC]) (by simp [encC])
    · have hq' : ¬ d.toNat = 47 := by
        intro e; apply hd47; exact UInt8.toNat_inj.1 e
      have hq2 : ((d.toNat : Int) != 47) = true := by simp; omega
      simp [hq2, hd47]
      exact .keep (by simp) (.refl _) (by simp) (by simp) (by simp) (by simp)
  · have q1 : (s.size : Int) ≤ (x.at_ : Int) + 1 := by omega
    have hb : s[x.at_ + 1]? = none := by simp; omega
    rw [hb]
    simp [hw1, q1]
    refine ⟨by simp [pairsOK, pairsOK2, compatAdd, compatCA, compatSt, Dm.stoB, Dm.callB, Dm.adB, compatDyn, lowOK, allLt, labD, skips, guardD, looksG, guardSlot, looksD, goneD, eatsT, eats, goneL, rdD, wrD, simpleD, anyOwn, disj, ldD, ldOK, mvD, hw1, q1], by simp [pairsOK, pairsOK2, compatAdd, compatCA, compatSt, Dm.stoB, Dm.callB, Dm.adB, compatDyn, lowOK, allLt, labD, skips, guardD, looksG, guardSlot, looksD, goneD, eatsT, eats, goneL, rdD, wrD, simpleD, anyOwn, disj, ldD, ldOK, mvD, hw1, q1], ?_⟩
    simp
    exact .keep (by simp) (.refl _) (by simp) (by simp) (by simp) (by simp)
end Rs
end Go.Proofs.Dm
