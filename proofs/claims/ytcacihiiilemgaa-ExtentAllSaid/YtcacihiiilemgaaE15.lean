/- Part of the proof: contracts of the functions, walked by the D-machine. No condition. -/
import Derived.Test.YtcacihiiilemgaaE8
import Derived.Test.YtcacihiiilemgaaE9
import Derived.Test.YtcacihiiilemgaaEP3
set_option linter.unusedSimpArgs false
set_option linter.unusedVariables false
set_option maxHeartbeats 40000000
set_option maxRecDepth 100000
namespace Go.Proofs.Dm
open Go Go.Proofs Go.Proofs.Try
attribute [local simp] takes handsOn isTmp Op.operands Call.operands
abbrev Oo := Int × Int × Int
def encO (o : Oo) : List PD := [.int .i64 o.1, .int .i64 o.2.1, .int .i64 o.2.2]
def rowsO (os : List Oo) : DV := .p (.sl 3 (os.map encO))
theorem getO {os : List Oo} {i : Nat} (h : i < os.length) : (os.map encO)[i]? = some (encO os[i]) := by
  rw [List.getElem?_map, List.getElem?_eq_getElem h]; rfl
def z130 : List Bool := List.replicate 130 false
theorem z130_len : z130.length = 130 := by unfold z130; exact List.length_replicate
theorem z130_getD (q : Nat) : z130.getD q false = false := by
  unfold z130
  rw [List.getD_eq_getElem?_getD, List.getElem?_replicate]
  split <;> rfl
/-- What stands at a round's beginning. -/
def allI (A n : Nat) (os : List Oo) (i : Nat) (s : St) : Prop :=
  ∃ fr : List Bool, fr.length = n ∧ s.hp = [fbox fr, [i64 A, .arr 0 0 1 fr.length], fbox (lawF A fr)] ∧ s.tm 0 = i64 A ∧ s.tm 1 = i64 n ∧ s.tm 2 = rowsO os ∧ s.tm 8 = .ref 1 0 ∧ s.tm 9 = .arr 2 0 1 130 ∧ s.tm 11 = i64 i
theorem drawWp_cut {C n ops} {k : St → Prop} {s : St} (J : St → Prop) (h1 : drawWp C n ops J s) (h2 : ∀ s, J s → k s) : drawWp C n ops k s :=
  ⟨h1.1, h1.2.1, opsLab_mono (fun a s h => ⟨h.1, h.2.1, h2 _ h.2.2⟩) h1.2.2⟩
/-- Within a round: the slots that count. -/
def allB (A n : Nat) (os : List Oo) (i : Nat) (fr : List Bool) (ok oa on : Int) (s : St) : Prop :=
  s.hp = [fbox fr, [i64 A, .arr 0 0 1 fr.length], fbox (lawF A fr), [i64 ok, i64 oa, i64 on]] ∧ s.tm 0 = i64 A ∧ s.tm 1 = i64 n ∧ s.tm 2 = rowsO os ∧ s.tm 8 = .ref 1 0 ∧ s.tm 9 = .arr 2 0 1 130 ∧ s.tm 11 = i64 i ∧ s.tm 12 = .ref 3 0
def inb (A n : Nat) (oa on : Int) : Bool := decide (1 ≤ on) && (decide ((A : Int) ≤ oa) && decide (on ≤ A + n - oa))
def allJ (A n : Nat) (os : List Oo) (i : Nat) (s : St) : Prop :=
  ∃ (fr : List Bool) (ex : List (List DV)), fr.length = n ∧ s.hp = fbox fr :: [i64 A, .arr 0 0 1 fr.length] :: fbox (lawF A fr) :: ex ∧ s.tm 0 = i64 A ∧ s.tm 1 = i64 n ∧ s.tm 2 = rowsO os ∧ s.tm 8 = .ref 1 0 ∧ s.tm 9 = .arr 2 0 1 130 ∧ s.tm 11 = i64 i
def lp3 (A n : Nat) (os : List Oo) (i : Nat) (fr : List Bool) (ok oa on : Int) (m : Nat) (s : St) : Prop :=
  ∃ (j : Nat) (c : Bool), m = on.toNat + 1 - j ∧ allB A n os i fr ok oa on s ∧ s.tm 13 = bl c ∧ s.tm 14 = bl (inb A n oa on) ∧ s.tm 15 = i64 (oa + j) ∧ ((c = true ∧ inb A n oa on = true ∧ (j : Int) ≤ on ∧ ∀ k, k < j → (lawF A fr).getD (oa.toNat + k) false = true) ∨ (c = false ∧ allP A fr oa on true = false))
def lp4 (A n : Nat) (os : List Oo) (i : Nat) (fr : List Bool) (ok oa on : Int) (m : Nat) (s : St) : Prop :=
  ∃ (j : Nat) (c : Bool), m = on.toNat + 1 - j ∧ allB A n os i fr ok oa on s ∧ s.tm 13 = bl (allP A fr oa on true) ∧ s.tm 14 = bl c ∧ s.tm 16 = i64 (oa + j) ∧ ((c = true ∧ inb A n oa on = true ∧ (j : Int) ≤ on ∧ ∀ k, k < j → (lawF A fr).getD (oa.toNat + k) false = false) ∨ (c = false ∧ allP A fr oa on false = false))
/-- The law's own row is turned. -/
def lpS (flag cnt : Nat) (A n : Nat) (os : List Oo) (i : Nat) (fr fr' : List Bool) (ok oa on : Int) (b c : Bool) (m : Nat) (s : St) : Prop :=
  ∃ j : Nat, m = on.toNat + 1 - j ∧ (c = false → j = 0) ∧ (c = true → (j : Int) ≤ on) ∧ s.hp = [fbox fr', [i64 A, .arr 0 0 1 fr'.length], fbox (fillN (lawF A fr) oa.toNat j b), [i64 ok, i64 oa, i64 on]] ∧
    s.tm 0 = i64 A ∧ s.tm 1 = i64 n ∧ s.tm 2 = rowsO os ∧ s.tm 8 = .ref 1 0 ∧ s.tm 9 = .arr 2 0 1 130 ∧ s.tm 11 = i64 i ∧ s.tm 12 = .ref 3 0 ∧ s.tm flag = bl c ∧ s.tm cnt = i64 j
def lp5 (A n : Nat) (os : List Oo) (i : Nat) (fr : List Bool) (ok oa on : Int) (m : Nat) (s : St) : Prop :=
  ∃ p : Nat, m = n + 2 - p ∧ p ≤ n + 1 ∧ allB A n os i fr ok oa on s ∧ s.tm 18 = i64 ((A : Int) + p) ∧ ((s.tm 17 = i64 (-1) ∧ ∀ q, q < p → ¬ allT fr q on.toNat) ∨ (∃ q0 : Nat, s.tm 17 = i64 ((A : Int) + q0) ∧ 1 ≤ on ∧ leastAt fr on.toNat q0))
def j5 (A n : Nat) (os : List Oo) (i : Nat) (fr : List Bool) (ok oa on : Int) (s : St) : Prop :=
  allB A n os i fr ok oa on s ∧ ((s.tm 17 = i64 (-1) ∧ (on < 1 ∨ ∀ q, q + on.toNat ≤ fr.length → ¬ allT fr q on.toNat)) ∨ (∃ q0 : Nat, s.tm 17 = i64 ((A : Int) + q0) ∧ 1 ≤ on ∧ leastAt fr on.toNat q0))
def j6 (A n : Nat) (os : List Oo) (i : Nat) (fr : List Bool) (ok oa on : Int) (p : Nat) (s : St) : Prop :=
  allB A n os i fr ok oa on s ∧ s.tm 17 = i64 (-1) ∧ s.tm 18 = i64 ((A : Int) + p) ∧ ∃ c, s.tm 19 = bl c ∧ (c = true ↔ allT fr p on.toNat)
def lp6 (A n : Nat) (os : List Oo) (i : Nat) (fr : List Bool) (ok oa on : Int) (p : Nat) (m : Nat) (s : St) : Prop :=
  ∃ (j : Nat) (c : Bool), m = on.toNat + 1 - j ∧ (j : Int) ≤ on ∧ allB A n os i fr ok oa on s ∧ s.tm 17 = i64 (-1) ∧ s.tm 18 = i64 ((A : Int) + p) ∧ s.tm 19 = bl c ∧ s.tm 20 = i64 ((A : Int) + p + j) ∧ (c = true ↔ ∀ k, k < j → fr.getD (p + k) false = true)
theorem alll_ok {W0 nb} {at_ n_ : Int} {os : List Oo} (hO : ∀ o ∈ os, o.2.1 ≤ 9223372036854775807) : DCalls ⟨Try.prog, W0, nb⟩ 3 [i64 at_, i64 n_, rowsO os] [] (bl true) [] := by
  refine dcalls_end Try.func3 rfl (by kernel_rfl) 306 Try.ntmps3 #[.tmp 6] rfl (Nat.le_of_ble_eq_true rfl) ?_
  by_cases c1 : at_ < 0
  · simp [rowsO]
    refine CallGoal.same begun_ok ?_
    simp [c1]
    exact .keep (by simp) (.refl _) (by simp) (by simp) (by simp) (by simp)
  by_cases c2 : 50 < at_
  · simp [rowsO]
    refine CallGoal.same begun_ok ?_
    simp [c1, c2]
    exact .keep (by simp) (.refl _) (by simp) (by simp) (by simp) (by simp)
  by_cases c3 : n_ < 0
  · simp [rowsO]
    refine CallGoal.same begun_ok ?_
    simp [c1, c2, c3]
    exact .keep (by simp) (.refl _) (by simp) (by simp) (by simp) (by simp)
  by_cases c4 : 60 < n_
  · simp [rowsO]
    refine CallGoal.same begun_ok ?_
    simp [c1, c2, c3, c4]
    exact .keep (by simp) (.refl _) (by simp) (by simp) (by simp) (by simp)
  obtain ⟨A, rfl⟩ : ∃ k : Nat, at_ = k := ⟨at_.toNat, by omega⟩
  obtain ⟨n, rfl⟩ : ∃ k : Nat, n_ = k := ⟨n_.toNat, by omega⟩
  have hA : A ≤ 50 := by omega
  have hn : n ≤ 60 := by omega
  clear c1 c2 c3 c4
  have c1 : ¬ ((A : Int) < 0) := by omega
  have c2 : ¬ (50 < (A : Int)) := by omega
  have c3 : ¬ ((n : Int) < 0) := by omega
  have c4 : ¬ (60 < (n : Int)) := by omega
  simp [rowsO]
  refine CallGoal.same begun_ok ?_
  simp [c1, c2, c3, c4]
  refine CallGoal.same (new_ok (by omega) (by omega)) ?_
  simp [-List.reduceReplicate]
  rw [show List.replicate 130 false = z130 from rfl]
  refine LoopGoal.cut (fun s => s.hp = [fbox (List.replicate n true), [i64 A, .arr 0 0 1 n], fbox (lawF A (List.replicate n true))] ∧ s.tm 0 = i64 A ∧ s.tm 1 = i64 n ∧ s.tm 2 = rowsO os ∧ s.tm 8 = .ref 1 0 ∧ s.tm 9 = .arr 2 0 1 130) ?_ ?_
  · refine ⟨fun m s => ∃ i : Nat, m = n - i ∧ i ≤ n ∧ s.hp = [fbox (List.replicate n true), [i64 A, .arr 0 0 1 n], fbox (fillN z130 A i true)] ∧ s.tm 0 = i64 A ∧ s.tm 1 = i64 n ∧ s.tm 2 = rowsO os ∧ s.tm 8 = .ref 1 0 ∧ s.tm 9 = .arr 2 0 1 130 ∧ s.tm 10 = i64 ((A + i : Nat)), n,
      .here ⟨0, rfl, by omega, by simp [fillN_zero], by simp, by simp, by simp [rowsO], by simp, by simp, by simp⟩, ?_⟩
    rintro m ⟨tm, hp⟩ ⟨i, rfl, hi, q1, q2, q3, q4, q5, q6, q7⟩
    simp only at q1 q2 q3 q4 q5 q6 q7
    subst q1
    have w1 : IntKind.i64.wrap ((A : Int) + n) = (A : Int) + n := wI (by omega) (by omega)
    have w2 : IntKind.i64.wrap ((A : Int) + i + 1) = (A : Int) + i + 1 := wI (by omega) (by omega)
    by_cases h1 : i < n
    · have h1' : (i : Int) < n := by omega
      have e1 : A + i < 130 := by omega
      have e2 : A + i + 1 ≤ 130 := by omega
      have e3 : (fillN z130 A i true).length = 130 := by rw [fillN_len (by rw [z130_len]; omega), z130_len]
      have e4 : ¬ (fillN z130 A i true = []) := by intro e; rw [e] at e3; simp at e3
      have e5 : (0 : Int) ≤ (A : Int) + i := by omega
      have e6 : ((A : Int) + (i : Int)).toNat = A + i := by omega
      have e7 := fillN_succ (fr := z130) (off := A) (i := i) (b := true) (by rw [z130_len]; omega)
      simp [q2, q3, q4, q5, q6, q7, w1, w2, h1, h1', e1, e2, e3, e4, e5, e6, e7]
      exact .same (n - (i + 1)) (by omega) ⟨i + 1, rfl, by omega, by simp, by simp [q2], by simp [q3], by simp [q4], by simp [q5], by simp [q6], by simp; omega⟩
    · have h1' : ¬ ((i : Int) < n) := by omega
      have : i = n := by omega
      subst this
      have e0 : lawF A (List.replicate i true) = fillN z130 A i true := by
        have h0 : lawF A (List.replicate i false) = z130 := by
          refine ext_getD (by rw [lawF_len (by simp; omega), z130_len]) fun q hq => ?_
          rw [lawF_getD]
          have z : ∀ k q, (List.replicate k false).getD q false = false := fun k q => by
            rw [List.getD_eq_getElem?_getD, List.getElem?_replicate]; split <;> rfl
          rw [z, z130_getD]; simp
        rw [← h0]
        have := lawF_fill (A := A) (p := 0) (n := i) (fr := List.replicate i false) (b := true) (by simp; omega) (by simp)
        rw [Nat.add_zero] at this
        rw [this]
        congr 1
        simp [fillN]
      rw [e0]
      simp [q2, q3, q4, q5, q6, q7, w1, h1, h1']
  · rintro ⟨tm, hp⟩ ⟨q1, q2, q3, q4, q5, q6⟩
    simp only at q1 q2 q3 q4 q5 q6
    subst q1
    simp
    refine ⟨fun m s => ∃ i : Nat, m = 60 - i ∧ i ≤ 60 ∧ allI A n os i s, 60, .here ⟨0, rfl, by omega, List.replicate n true, by simp, by simp, by simp [q2], by simp [q3], by simp [q4], by simp [q5], by simp [q6], by simp⟩, ?_⟩
    rintro m ⟨tm, hp⟩ ⟨i, rfl, hi, fr, hfl, p1, p2, p3, p4, p5, p6, p7⟩
    simp only at p1 p2 p3 p4 p5 p6 p7
    subst p1
    clear q2 q3 q4 q5 q6
    by_cases h1 : i < os.length
    · have h1' : (i : Int) < os.length := by omega
      by_cases h2 : i < 60
      · have h2' : (i : Int) < 60 := by omega
        have g1 := getO h1
        have ho := hO os[i] (List.getElem_mem h1)
        generalize hx : os[i] = o at *
        obtain ⟨ok, oa, on⟩ := o
        simp only at ho
        have w1 : IntKind.i64.wrap ((A : Int) + n) = (A : Int) + n := wI (by omega) (by omega)
        simp [rowsO, p2, p3, p4, p5, p6, p7, h1, h2, h1', h2', g1, hx, encO]
        refine drawWp_cut (fun s => allB A n os i fr ok oa on s ∧ s.tm 13 = bl (inb A n oa on) ∧ s.tm 14 = bl (inb A n oa on)) ?_ ?_
        · by_cases b1 : 1 ≤ on
          · by_cases b2 : (A : Int) ≤ oa
            · have w2 : IntKind.i64.wrap ((A : Int) + n - oa) = (A : Int) + n - oa := wI (by omega) (by omega)
              refine drawWp.intro [] [16, 21, 25, 31, 36] mixed (by kernel_rfl) (by kernel_rfl) (by kernel_rfl) ?_
              simp [p2, p3, w1, w2, b1, b2]
              refine ⟨by simp [pairsOK, compatDyn, lowOK, allLt, labD, skips, guardD, looksG, guardSlot, looksD, goneD, eatsT, eats, goneL, rdD, wrD, simpleD, anyOwn, disj, p2, p3, w1, w2, b1, b2], by simp [pairsOK, compatDyn, lowOK, allLt, labD, skips, guardD, looksG, guardSlot, looksD, goneD, eatsT, eats, goneL, rdD, wrD, simpleD, anyOwn, disj, p2, p3, w1, w2, b1, b2], ?_⟩
              simp [p2, p3, w1, w2, b1, b2]
              exact ⟨⟨by simp, by simp [p2], by simp [p3], by simp [p4], by simp [p5], by simp [p6], by simp [p7], by simp⟩, by simp [inb, b1, b2]⟩
            · refine drawWp.intro [] [16, 21, 25, 31, 36] mixed (by kernel_rfl) (by kernel_rfl) (by kernel_rfl) ?_
              simp [p2, p3, w1, b1, b2]
              refine ⟨by simp [pairsOK, compatDyn, lowOK, allLt, labD, skips, guardD, looksG, guardSlot, looksD, goneD, eatsT, eats, goneL, rdD, wrD, simpleD, anyOwn, disj, p2, p3, w1, b1, b2], by simp [pairsOK, compatDyn, lowOK, allLt, labD, skips, guardD, looksG, guardSlot, looksD, goneD, eatsT, eats, goneL, rdD, wrD, simpleD, anyOwn, disj, p2, p3, w1, b1, b2], ?_⟩
              simp [p2, p3, w1, b1, b2]
              exact ⟨⟨by simp, by simp [p2], by simp [p3], by simp [p4], by simp [p5], by simp [p6], by simp [p7], by simp⟩, by simp [inb, b1, b2]⟩
          · refine drawWp.intro [] [16, 21, 25, 31, 36] mixed (by kernel_rfl) (by kernel_rfl) (by kernel_rfl) ?_
            simp [p2, p3, w1, b1]
            refine ⟨by simp [pairsOK, compatDyn, lowOK, allLt, labD, skips, guardD, looksG, guardSlot, looksD, goneD, eatsT, eats, goneL, rdD, wrD, simpleD, anyOwn, disj, p2, p3, w1, b1], by simp [pairsOK, compatDyn, lowOK, allLt, labD, skips, guardD, looksG, guardSlot, looksD, goneD, eatsT, eats, goneL, rdD, wrD, simpleD, anyOwn, disj, p2, p3, w1, b1], ?_⟩
            simp [p2, p3, w1, b1]
            exact ⟨⟨by simp, by simp [p2], by simp [p3], by simp [p4], by simp [p5], by simp [p6], by simp [p7], by simp⟩, by simp [inb, b1]⟩
        clear p2 p3 p4 p5 p6 p7
        rintro ⟨tm, hp⟩ ⟨⟨z1, p2, p3, p4, p5, p6, p7, p8⟩, p9, p10⟩
        simp only at z1 p2 p3 p4 p5 p6 p7 p8 p9 p10
        subst z1
        simp [p8]
        -- both range tests
        have hoaN : ∀ j : Nat, inb A n oa on = true → (j : Int) ≤ on → (0 : Int) ≤ oa + j ∧ (oa + (j : Int)).toNat = oa.toNat + j ∧ oa + (j : Int) ≤ 110 := fun j h1 h2 => by
          simp [inb] at h1; omega
        have tst : ∀ (b : Bool), (∀ j : Nat, True) → True := fun _ _ => trivial
        refine LoopGoal.cut (fun s => allB A n os i fr ok oa on s ∧ s.tm 13 = bl (allP A fr oa on true) ∧ s.tm 14 = bl (inb A n oa on)) ?_ ?_
        · refine ⟨lp3 A n os i fr ok oa on, on.toNat + 1,
            .here ⟨0, inb A n oa on, rfl, ⟨by simp, by simp [p2], by simp [p3], by simp [p4], by simp [p5], by simp [p6], by simp [p7], by simp [p8]⟩, by simp [p9], by simp [p10], by simp, ?_⟩, ?_⟩
          · cases hb : inb A n oa on with
            | true =>
              have hb' := hb
              simp [inb] at hb'
              exact .inl ⟨rfl, rfl, by omega, by simp⟩
            | false =>
              exact .inr ⟨rfl, allP_out (by rw [hfl]; simp [inb] at hb; omega)⟩
          rintro m ⟨tm, hp⟩ ⟨j, c, rfl, ⟨z1, r2, r3, r4, r5, r6, r7, r8⟩, r9, r10, r11, hcase⟩
          simp only at z1 r2 r3 r4 r5 r6 r7 r8 r9 r10 r11
          subst z1
          rcases hcase with ⟨rfl, hb, hj, hpre⟩ | ⟨rfl, hf⟩
          · have hb' := hb
            simp [inb] at hb'
            obtain ⟨x1, x2, x3⟩ := hoaN j hb hj
            have w1 : IntKind.i64.wrap (oa + on) = oa + on := wI (by omega) (by omega)
            have w2 : IntKind.i64.wrap (oa + (j : Int) + 1) = oa + (j : Int) + 1 := wI (by omega) (by omega)
            by_cases hlt : (j : Int) < on
            · have hlen := lawF_len (A := A) (fr := fr) (by omega)
              have hq : oa.toNat + j < (lawF A fr).length := by omega
              have hget : (lawF A fr)[oa.toNat + j]? = some (lawF A fr)[oa.toNat + j] := List.getElem?_eq_getElem hq
              have hgd : (lawF A fr).getD (oa.toNat + j) false = (lawF A fr)[oa.toNat + j] := by rw [List.getD_eq_getElem?_getD, hget]; rfl
              have ht1 := take1 hget
              have y1 : oa.toNat + j < 130 := by omega
              have y2 : oa.toNat + j + 1 ≤ 130 := by omega
              have y3 : ¬ (lawF A fr = []) := by intro e; rw [e] at hlen; simp at hlen
              cases hv : (lawF A fr)[oa.toNat + j] with
              | true =>
                simp [r2, r3, r6, r8, r9, r10, r11, w1, w2, hlt, x1, x2, hlen, ht1, y1, y2, y3, hv]
                exact .same (on.toNat + 1 - (j + 1)) (by omega) ⟨j + 1, true, rfl, ⟨by simp, by simp [r2], by simp [r3], by simp [r4], by simp [r5], by simp [r6], by simp [r7], by simp [r8]⟩, by simp, by simp [r10], by simp; omega, .inl ⟨rfl, hb, by omega, fun k hk => by
                  by_cases hkj : k = j
                  · subst hkj; rw [hgd, hv]
                  · exact hpre k (by omega)⟩⟩
              | false =>
                simp [r2, r3, r6, r8, r9, r10, r11, w1, w2, hlt, x1, x2, hlen, ht1, y1, y2, y3, hv]
                exact .same (on.toNat + 1 - (j + 1)) (by omega) ⟨j + 1, false, rfl, ⟨by simp, by simp [r2], by simp [r3], by simp [r4], by simp [r5], by simp [r6], by simp [r7], by simp [r8]⟩, by simp, by simp [r10], by simp; omega, .inr ⟨rfl, by
                  cases hc : allP A fr oa on true with
                  | false => rfl
                  | true =>
                    have := (allP_law (by omega) (by omega) (by omega)).1 hc j hlt
                    rw [hgd, hv] at this; cases this⟩⟩
            · have hall : allP A fr oa on true = true := (allP_law (by omega) (by omega) (by omega)).2 fun k hk => hpre k (by omega)
              simp [r2, r3, r6, r8, r9, r10, r11, w1, hlt]
              exact ⟨⟨rfl, by simp [r2], by simp [r3], by simp [r4], by simp [r5], by simp [r6], by simp [r7], by simp [r8]⟩, by simp [hall, r9, r10]⟩
          · simp [r2, r3, r6, r8, r9, r10, r11]
            exact ⟨⟨rfl, by simp [r2], by simp [r3], by simp [r4], by simp [r5], by simp [r6], by simp [r7], by simp [r8]⟩, by simp [hf, r9, r10]⟩
        clear p2 p3 p4 p5 p6 p7 p8 p9 p10
        rintro ⟨tm, hp⟩ ⟨⟨z1, p2, p3, p4, p5, p6, p7, p8⟩, p9, p10⟩
        simp only at z1 p2 p3 p4 p5 p6 p7 p8 p9 p10
        subst z1
        -- loop four
        simp [p8]
        refine LoopGoal.cut (fun s => allB A n os i fr ok oa on s ∧ s.tm 13 = bl (allP A fr oa on true) ∧ s.tm 14 = bl (allP A fr oa on false)) ?_ ?_
        · refine ⟨lp4 A n os i fr ok oa on, on.toNat + 1,
            .here ⟨0, inb A n oa on, rfl, ⟨by simp, by simp [p2], by simp [p3], by simp [p4], by simp [p5], by simp [p6], by simp [p7], by simp [p8]⟩, by simp [p9], by simp [p10], by simp, ?_⟩, ?_⟩
          · cases hb : inb A n oa on with
            | true =>
              have hb' := hb
              simp [inb] at hb'
              exact .inl ⟨rfl, rfl, by omega, by simp⟩
            | false =>
              exact .inr ⟨rfl, allP_out (by rw [hfl]; simp [inb] at hb; omega)⟩
          rintro m ⟨tm, hp⟩ ⟨j, c, rfl, ⟨z1, r2, r3, r4, r5, r6, r7, r8⟩, r9, r10, r11, hcase⟩
          simp only at z1 r2 r3 r4 r5 r6 r7 r8 r9 r10 r11
          subst z1
          rcases hcase with ⟨rfl, hb, hj, hpre⟩ | ⟨rfl, hf⟩
          · have hb' := hb
            simp [inb] at hb'
            obtain ⟨x1, x2, x3⟩ := hoaN j hb hj
            have w1 : IntKind.i64.wrap (oa + on) = oa + on := wI (by omega) (by omega)
            have w2 : IntKind.i64.wrap (oa + (j : Int) + 1) = oa + (j : Int) + 1 := wI (by omega) (by omega)
            by_cases hlt : (j : Int) < on
            · have hlen := lawF_len (A := A) (fr := fr) (by omega)
              have hq : oa.toNat + j < (lawF A fr).length := by omega
              have hget : (lawF A fr)[oa.toNat + j]? = some (lawF A fr)[oa.toNat + j] := List.getElem?_eq_getElem hq
              have hgd : (lawF A fr).getD (oa.toNat + j) false = (lawF A fr)[oa.toNat + j] := by rw [List.getD_eq_getElem?_getD, hget]; rfl
              have ht1 := take1 hget
              have y1 : oa.toNat + j < 130 := by omega
              have y2 : oa.toNat + j + 1 ≤ 130 := by omega
              have y3 : ¬ (lawF A fr = []) := by intro e; rw [e] at hlen; simp at hlen
              cases hv : (lawF A fr)[oa.toNat + j] with
              | false =>
                simp [r2, r3, r6, r8, r9, r10, r11, w1, w2, hlt, x1, x2, hlen, ht1, y1, y2, y3, hv]
                exact .same (on.toNat + 1 - (j + 1)) (by omega) ⟨j + 1, true, rfl, ⟨by simp, by simp [r2], by simp [r3], by simp [r4], by simp [r5], by simp [r6], by simp [r7], by simp [r8]⟩, by simp [r9], by simp, by simp; omega, .inl ⟨rfl, hb, by omega, fun k hk => by
                  by_cases hkj : k = j
                  · subst hkj; rw [hgd, hv]
                  · exact hpre k (by omega)⟩⟩
              | true =>
                simp [r2, r3, r6, r8, r9, r10, r11, w1, w2, hlt, x1, x2, hlen, ht1, y1, y2, y3, hv]
                exact .same (on.toNat + 1 - (j + 1)) (by omega) ⟨j + 1, false, rfl, ⟨by simp, by simp [r2], by simp [r3], by simp [r4], by simp [r5], by simp [r6], by simp [r7], by simp [r8]⟩, by simp [r9], by simp, by simp; omega, .inr ⟨rfl, by
                  cases hc : allP A fr oa on false with
                  | false => rfl
                  | true =>
                    have := (allP_law (by omega) (by omega) (by omega)).1 hc j hlt
                    rw [hgd, hv] at this; cases this⟩⟩
            · have hall : allP A fr oa on false = true := (allP_law (by omega) (by omega) (by omega)).2 fun k hk => hpre k (by omega)
              simp [r2, r3, r6, r8, r9, r10, r11, w1, hlt]
              exact ⟨⟨rfl, by simp [r2], by simp [r3], by simp [r4], by simp [r5], by simp [r6], by simp [r7], by simp [r8]⟩, by simp [hall, r9, r10]⟩
          · simp [r2, r3, r6, r8, r9, r10, r11]
            exact ⟨⟨rfl, by simp [r2], by simp [r3], by simp [r4], by simp [r5], by simp [r6], by simp [r7], by simp [r8]⟩, by simp [hf, r9, r10]⟩
        clear p2 p3 p4 p5 p6 p7 p8 p9 p10
        rintro ⟨tm, hp⟩ ⟨⟨z1, p2, p3, p4, p5, p6, p7, p8⟩, p9, p10⟩
        simp only at z1 p2 p3 p4 p5 p6 p7 p8 p9 p10
        subst z1
        refine cwp_cut (allJ A n os i) ?_ ?_
        · by_cases k0 : ok = 0
          · -- case zero
            have k0' : (ok == 0) = true := by simpa using k0
            simp [p2, p3, p5, p6, p8, p9, p10, k0']
            refine LoopGoal.cut (j5 A n os i fr ok oa on) ?_ ?_
            · refine ⟨lp5 A n os i fr ok oa on, n + 2, .here ⟨0, rfl, by omega, ⟨by simp, by simp [p2], by simp [p3], by simp [p4], by simp [p5], by simp [p6], by simp [p7], by simp [p8]⟩, by simp, .inl ⟨by simp, by simp⟩⟩, ?_⟩
              clear p2 p3 p4 p5 p6 p7 p8 p9 p10
              rintro m ⟨tm, hp⟩ ⟨p, rfl, hpn, ⟨z1, r2, r3, r4, r5, r6, r7, r8⟩, r9, hcase⟩
              simp only at z1 r2 r3 r4 r5 r6 r7 r8 r9 hcase
              subst z1
              rcases hcase with ⟨r10, hno⟩ | ⟨q0, r10, d1, d2⟩
              · by_cases d1 : 1 ≤ on
                · by_cases d2 : on ≤ n
                  · have w2 : IntKind.i64.wrap ((A : Int) + n - on) = (A : Int) + n - on := wI (by omega) (by omega)
                    by_cases d3 : (A : Int) + p ≤ (A : Int) + n - on
                    · have w3 : IntKind.i64.wrap ((A : Int) + p + 1) = (A : Int) + p + 1 := wI (by omega) (by omega)
                      have w4 : IntKind.i64.wrap ((A : Int) + p + on) = (A : Int) + p + on := wI (by omega) (by omega)
                      simp [r2, r3, r6, r8, r9, r10, w1, w2, d1, d2, d3]
                      refine LoopGoal.cut (j6 A n os i fr ok oa on p) ?_ ?_
                      · refine ⟨lp6 A n os i fr ok oa on p, on.toNat + 1, .here ⟨0, true, rfl, by omega, ⟨by simp, by simp [r2], by simp [r3], by simp [r4], by simp [r5], by simp [r6], by simp [r7], by simp [r8]⟩, by simp [r10], by simp [r9], by simp, by simp, by simp⟩, ?_⟩
                        clear r2 r3 r4 r5 r6 r7 r8 r9 r10
                        rintro m ⟨tm, hp⟩ ⟨j, c, rfl, hj, ⟨z1, r2, r3, r4, r5, r6, r7, r8⟩, r9, r10, r11, r12, hiff⟩
                        simp only at z1 r2 r3 r4 r5 r6 r7 r8 r9 r10 r11 r12
                        subst z1
                        have w5 : IntKind.i64.wrap ((A : Int) + p + j + 1) = (A : Int) + p + j + 1 := wI (by omega) (by omega)
                        by_cases hlt : (j : Int) < on
                        · have hlt' : (A : Int) + p + j < (A : Int) + p + on := by omega
                          have hlen := lawF_len (A := A) (fr := fr) (by omega)
                          have hq : A + p + j < (lawF A fr).length := by omega
                          have hget : (lawF A fr)[A + p + j]? = some (lawF A fr)[A + p + j] := List.getElem?_eq_getElem hq
                          have hgd : fr.getD (p + j) false = (lawF A fr)[A + p + j] := by
                            have := lawF_getD (A := A) (fr := fr) (A + p + j)
                            rw [if_pos (by omega)] at this
                            have e : A + p + j - A = p + j := by omega
                            rw [e] at this
                            rw [← this, List.getD_eq_getElem?_getD, hget]; rfl
                          have ht1 := take1 hget
                          have y1 : A + p + j < 130 := by omega
                          have y2 : A + p + j + 1 ≤ 130 := by omega
                          have y3 : ¬ (lawF A fr = []) := by intro e; rw [e] at hlen; simp at hlen
                          have y4 : (0 : Int) ≤ (A : Int) + p + j := by omega
                          have y5 : ((A : Int) + p + (j : Int)).toNat = A + p + j := by omega
                          have next : (if c then (lawF A fr)[A + p + j] else false) = true ↔ ∀ k, k < j + 1 → fr.getD (p + k) false = true := by
                            constructor
                            · intro h k hk
                              cases c with
                              | false => cases h
                              | true =>
                                by_cases hkj : k = j
                                · subst hkj; rw [hgd]; exact h
                                · exact hiff.1 rfl k (by omega)
                            · intro h
                              have hc : c = true := hiff.2 fun k hk => h k (by omega)
                              rw [if_pos hc, ← hgd]
                              exact h j (by omega)
                          cases c with
                          | false =>
                            simp [r2, r3, r6, r8, r9, r10, r11, r12, w4, hlt', hlt]
                            exact .same (on.toNat + 1 - (j + 1)) (by omega) ⟨j + 1, false, rfl, by omega, ⟨by simp, by simp [r2], by simp [r3], by simp [r4], by simp [r5], by simp [r6], by simp [r7], by simp [r8]⟩, by simp [r9], by simp [r10], by simp, by simp [w5]; omega, by simpa using next⟩
                          | true =>
                            generalize hv : (lawF A fr)[A + p + j] = v at *
                            simp [r2, r3, r6, r8, r9, r10, r11, r12, w4, hlt', hlt, hlen, ht1, y1, y2, y3, y4, y5]
                            exact .same (on.toNat + 1 - (j + 1)) (by omega) ⟨j + 1, v, rfl, by omega, ⟨by simp, by simp [r2], by simp [r3], by simp [r4], by simp [r5], by simp [r6], by simp [r7], by simp [r8]⟩, by simp [r9], by simp [r10], by simp, by simp [w5]; omega, by simpa using next⟩
                        · have hlt' : ¬ ((A : Int) + p + j < (A : Int) + p + on) := by omega
                          have hjn : j = on.toNat := by omega
                          simp [r2, r3, r6, r8, r9, r10, r11, r12, w4, hlt', hlt]
                          exact ⟨⟨rfl, by simp [r2], by simp [r3], by simp [r4], by simp [r5], by simp [r6], by simp [r7], by simp [r8]⟩, by simp [r9], by simp [r10], c, by simp [r11], by rw [hiff, hjn]; rfl⟩
                      · clear r2 r3 r4 r5 r6 r7 r8 r9 r10
                        rintro ⟨tm, hp⟩ ⟨⟨z1, r2, r3, r4, r5, r6, r7, r8⟩, r9, r10, c, r11, hiff⟩
                        simp only at z1 r2 r3 r4 r5 r6 r7 r8 r9 r10 r11
                        subst z1
                        cases c with
                        | true =>
                          have hall := hiff.1 rfl
                          simp [r9, r10, r11, w3]
                          exact .same (n + 2 - (p + 1)) (by omega) ⟨p + 1, rfl, by omega, ⟨by simp, by simp [r2], by simp [r3], by simp [r4], by simp [r5], by simp [r6], by simp [r7], by simp [r8]⟩, by simp; omega, .inr ⟨p, by simp, d1, by omega, hall, fun q hq ht => by
                            rcases Nat.lt_or_ge q p with h | h
                            · exact absurd ht (hno q h)
                            · exact h⟩⟩
                        | false =>
                          have hall : ¬ allT fr p on.toNat := fun h => by have := hiff.2 h; cases this
                          simp [r9, r10, r11, w3]
                          exact .same (n + 2 - (p + 1)) (by omega) ⟨p + 1, rfl, by omega, ⟨by simp, by simp [r2], by simp [r3], by simp [r4], by simp [r5], by simp [r6], by simp [r7], by simp [r8]⟩, by simp; omega, .inl ⟨by simp [r9], fun q hq => by
                            by_cases hqp : q = p
                            · subst hqp; exact hall
                            · exact hno q (by omega)⟩⟩
                    · simp [r2, r3, r6, r8, r9, r10, w1, w2, d1, d2, d3]
                      exact ⟨⟨rfl, by simp [r2], by simp [r3], by simp [r4], by simp [r5], by simp [r6], by simp [r7], by simp [r8]⟩, .inl ⟨by simp [r10], .inr fun q hq => hno q (by omega)⟩⟩
                  · simp [r2, r3, r6, r8, r9, r10, w1, d1, d2]
                    exact ⟨⟨rfl, by simp [r2], by simp [r3], by simp [r4], by simp [r5], by simp [r6], by simp [r7], by simp [r8]⟩, .inl ⟨by simp [r10], .inr fun q hq => by omega⟩⟩
                · simp [r2, r3, r6, r8, r9, r10, w1, d1]
                  exact ⟨⟨rfl, by simp [r2], by simp [r3], by simp [r4], by simp [r5], by simp [r6], by simp [r7], by simp [r8]⟩, .inl ⟨by simp [r10], .inl (by omega)⟩⟩
              · have d3 : ¬ ((A : Int) + q0 < 0) := by omega
                simp [r2, r3, r6, r8, r9, r10, w1, d1, d3]
                exact ⟨⟨rfl, by simp [r2], by simp [r3], by simp [r4], by simp [r5], by simp [r6], by simp [r7], by simp [r8]⟩, .inr ⟨q0, by simp [r10], d1, d2⟩⟩
            · clear p2 p3 p4 p5 p6 p7 p8 p9 p10
              rintro ⟨tm, hp⟩ ⟨⟨z1, p2, p3, p4, p5, p6, p7, p8⟩, hcase⟩
              simp only at z1 p2 p3 p4 p5 p6 p7 p8 hcase
              subst z1
              simp [p5, p8]
              refine CallGoal.same (take_ok (at_ := A) (n := on) (fr := fr) (by omega) (by omega) (by omega)) ?_
              rcases hcase with ⟨p9, hno⟩ | ⟨q0, p9, d1, d2⟩
              · have ht := take_none (at_ := (A : Int)) (fr := fr) (n := on) hno
                rw [ht.1, ht.2]
                simp [room, p2, p3, p5, p6, p8, p9]
                refine ⟨fun m s => s.hp = [fbox fr, [i64 A, .arr 0 0 1 fr.length], fbox (lawF A fr), [i64 ok, i64 oa, i64 on], [i64 0, i64 0]] ∧ s.tm 0 = i64 A ∧ s.tm 1 = i64 n ∧ s.tm 2 = rowsO os ∧ s.tm 8 = .ref 1 0 ∧ s.tm 9 = .arr 2 0 1 130 ∧ s.tm 11 = i64 i ∧ s.tm 12 = .ref 3 0 ∧ s.tm 22 = bl false ∧ s.tm 23 = i64 0, 1,
                  .here ⟨by simp, by simp [p2], by simp [p3], by simp [p4], by simp [p5], by simp [p6], by simp [p7], by simp [p8], by simp, by simp⟩, ?_⟩
                rintro m ⟨tm, hp⟩ ⟨z1, r2, r3, r4, r5, r6, r7, r8, r9, r10⟩
                simp only at z1 r2 r3 r4 r5 r6 r7 r8 r9 r10
                subst z1
                simp [r2, r3, r6, r8, r9, r10]
                exact ⟨fr, [[i64 ok, i64 oa, i64 on], [i64 0, i64 0]], hfl, by simp, by simp [r2], by simp [r3], by simp [r4], by simp [r5], by simp [r6], by simp [r7]⟩
              · obtain ⟨N, rfl⟩ : ∃ N : Nat, on = N := ⟨on.toNat, by omega⟩
                rw [Int.toNat_natCast] at d2
                have ht := take_some (at_ := (A : Int)) (by omega) d2
                have d4 := d2.1
                obtain ⟨s1, s2, s3, s4⟩ := setP_law (A := A) (a := (A : Int) + q0) (l := (N : Int)) (fr := fr) (b := false) (by omega) ht.2.2
                rw [ht.1, ht.2.1]
                have hsl : (setP A fr ((A : Int) + q0) (N : Int) false).length = n := by rw [setP_len, hfl]
                generalize hfr' : setP A fr ((A : Int) + q0) (N : Int) false = fr' at *
                have d3 : ¬ ((A : Int) + q0 < 0) := by omega
                have d5 : (0 : Int) ≤ (A : Int) + q0 := by omega
                have e0 : ((A : Int) + (q0 : Int)).toNat = A + q0 := by omega
                rw [e0, Int.toNat_natCast] at s1
                simp [room, p2, p3, p5, p6, p8, p9, d3, d5]
                refine ⟨fun m s => ∃ j : Nat, m = N + 1 - j ∧ j ≤ N ∧ s.hp = [fbox fr', [i64 A, .arr 0 0 1 fr'.length], fbox (fillN (lawF A fr) (A + q0) j false), [i64 ok, i64 oa, i64 N], [i64 ((A : Int) + q0), i64 N]] ∧ s.tm 0 = i64 A ∧ s.tm 1 = i64 n ∧ s.tm 2 = rowsO os ∧ s.tm 8 = .ref 1 0 ∧ s.tm 9 = .arr 2 0 1 130 ∧ s.tm 11 = i64 i ∧ s.tm 12 = .ref 3 0 ∧ s.tm 17 = i64 ((A : Int) + q0) ∧ s.tm 22 = bl true ∧ s.tm 23 = i64 j, N + 1,
                  .here ⟨0, rfl, by omega, by simp [fillN_zero], by simp [p2], by simp [p3], by simp [p4], by simp [p5], by simp [p6], by simp [p7], by simp [p8], by simp [p9], by simp, by simp⟩, ?_⟩
                rintro m ⟨tm, hp⟩ ⟨j, rfl, hj, z1, r2, r3, r4, r5, r6, r7, r8, r9, r10, r11⟩
                simp only at z1 r2 r3 r4 r5 r6 r7 r8 r9 r10 r11
                subst z1
                by_cases hlt : j < N
                · have hlt' : (j : Int) < N := by omega
                  have hlen := lawF_len (A := A) (fr := fr) (by omega)
                  have e1 : A + q0 + j < 130 := by omega
                  have e2 : A + q0 + j + 1 ≤ 130 := by omega
                  have e3 : (fillN (lawF A fr) (A + q0) j false).length = 130 := by rw [fillN_len (by omega), hlen]
                  have e4 : ¬ (fillN (lawF A fr) (A + q0) j false = []) := by intro e; rw [e] at e3; simp at e3
                  have e5 : (0 : Int) ≤ (A : Int) + q0 + j := by omega
                  have e6 : ((A : Int) + (q0 : Int) + (j : Int)).toNat = A + q0 + j := by omega
                  have e7 := fillN_succ (fr := lawF A fr) (off := A + q0) (i := j) (b := false) (by omega)
                  have w2 : IntKind.i64.wrap ((A : Int) + q0 + j) = (A : Int) + q0 + j := wI (by omega) (by omega)
                  have w3 : IntKind.i64.wrap ((j : Int) + 1) = ((j + 1 : Nat) : Int) := by rw [wI (by omega) (by omega)]; omega
                  simp [r2, r3, r6, r8, r9, r10, r11, hlt, hlt', e1, e2, e3, e4, e5, e6, e7, w2]
                  exact .same (N + 1 - (j + 1)) (by omega) ⟨j + 1, rfl, by omega, by simp, by simp [r2], by simp [r3], by simp [r4], by simp [r5], by simp [r6], by simp [r7], by simp [r8], by simp [r9], by simp [r10], by simp [w3]⟩
                · have hlt' : ¬ ((j : Int) < N) := by omega
                  have hjn : j = N := by omega
                  rw [← hjn] at s1
                  simp [r2, r3, r6, r8, r9, r10, r11, hlt, hlt']
                  exact ⟨fr', [[i64 ok, i64 oa, i64 N], [i64 ((A : Int) + q0), i64 N]], hsl, by simp [s1], by simp [r2], by simp [r3], by simp [r4], by simp [r5], by simp [r6], by simp [r7]⟩
          · by_cases k1 : ok = 1
            · have k0' : (ok == 0) = false := by simpa using k0
              have k1' : (ok == 1) = true := by simpa using k1
              simp [p2, p3, p5, p6, p8, p9, p10, k0', k1']
              refine CallGoal.same (use_ok (at_ := A) (a := oa) (l := on) (fr := fr) (by omega) (by omega) (by omega) ho) ?_
              simp [room, p9]
              have hs : allP A fr oa on true = true → lawF A (setP A fr oa on false) = fillN (lawF A fr) oa.toNat on.toNat false ∧ oa.toNat + on.toNat ≤ A + fr.length ∧ 1 ≤ on ∧ (A : Int) ≤ oa := fun h => setP_law (b := false) (by omega) h
              have hz : allP A fr oa on true = false → setP A fr oa on false = fr := fun h => setP_no (b := false) h
              have hsl : (setP A fr oa on false).length = n := by rw [setP_len, hfl]
              generalize hc : allP A fr oa on true = c at *
              generalize hfr' : setP A fr oa on false = fr' at *
              try simp [p9]
              refine ⟨lpS 13 24 A n os i fr fr' ok oa on false c, on.toNat + 1, .here ⟨0, rfl, fun _ => rfl, fun h => by have := hs h; omega, by simp [fillN_zero], by simp [p2], by simp [p3], by simp [p4], by simp [p5], by simp [p6], by simp [p7], by simp [p8], by simp [p9], by simp⟩, ?_⟩
              rintro m ⟨tm, hp⟩ ⟨j, rfl, k1, k2, z1, r2, r3, r4, r5, r6, r7, r8, r9, r10⟩
              simp only at z1 r2 r3 r4 r5 r6 r7 r8 r9 r10
              subst z1
              cases c with
              | false =>
                have hj := k1 rfl
                subst hj
                have hz' := hz rfl
                simp [r2, r3, r6, r8, r9, r10]
                exact ⟨fr', [[i64 ok, i64 oa, i64 on]], hsl, by simp [fillN_zero, hz'], by simp [r2], by simp [r3], by simp [r4], by simp [r5], by simp [r6], by simp [r7]⟩
              | true =>
                have hj := k2 rfl
                obtain ⟨g1, g2, g3, g4⟩ := hs rfl
                by_cases hlt : (j : Int) < on
                · have hlen := lawF_len (A := A) (fr := fr) (by omega)
                  have e1 : oa.toNat + j < 130 := by omega
                  have e2 : oa.toNat + j + 1 ≤ 130 := by omega
                  have e3 : (fillN (lawF A fr) oa.toNat j false).length = 130 := by rw [fillN_len (by omega), hlen]
                  have e4 : ¬ (fillN (lawF A fr) oa.toNat j false = []) := by intro e; rw [e] at e3; simp at e3
                  have e5 : (0 : Int) ≤ oa + j := by omega
                  have e6 : (oa + (j : Int)).toNat = oa.toNat + j := by omega
                  have e7 := fillN_succ (fr := lawF A fr) (off := oa.toNat) (i := j) (b := false) (by omega)
                  have w2 : IntKind.i64.wrap (oa + (j : Int)) = oa + (j : Int) := wI (by omega) (by omega)
                  have w3 : IntKind.i64.wrap ((j : Int) + 1) = ((j + 1 : Nat) : Int) := by rw [wI (by omega) (by omega)]; omega
                  simp [r2, r3, r6, r8, r9, r10, hlt, e1, e2, e3, e4, e5, e6, e7, w2]
                  exact .same (on.toNat + 1 - (j + 1)) (by omega) ⟨j + 1, rfl, (fun h => by cases h), (fun _ => by omega), by simp, by simp [r2], by simp [r3], by simp [r4], by simp [r5], by simp [r6], by simp [r7], by simp [r8], by simp [r9], by simp [w3]⟩
                · have hjn : j = on.toNat := by omega
                  rw [← hjn] at g1
                  simp [r2, r3, r6, r8, r9, r10, hlt]
                  exact ⟨fr', [[i64 ok, i64 oa, i64 on]], hsl, by simp [g1], by simp [r2], by simp [r3], by simp [r4], by simp [r5], by simp [r6], by simp [r7]⟩
            · have k0' : (ok == 0) = false := by simpa using k0
              have k1' : (ok == 1) = false := by simpa using k1
              simp [p2, p3, p5, p6, p8, p9, p10, k0', k1']
              refine CallGoal.same (give_ok (at_ := A) (a := oa) (l := on) (fr := fr) (by omega) (by omega) (by omega) ho) ?_
              simp [room, p10]
              have hs : allP A fr oa on false = true → lawF A (setP A fr oa on true) = fillN (lawF A fr) oa.toNat on.toNat true ∧ oa.toNat + on.toNat ≤ A + fr.length ∧ 1 ≤ on ∧ (A : Int) ≤ oa := fun h => setP_law (b := true) (by omega) h
              have hz : allP A fr oa on false = false → setP A fr oa on true = fr := fun h => setP_no (b := true) h
              have hsl : (setP A fr oa on true).length = n := by rw [setP_len, hfl]
              generalize hc : allP A fr oa on false = c at *
              generalize hfr' : setP A fr oa on true = fr' at *
              try simp [p10]
              refine ⟨lpS 14 25 A n os i fr fr' ok oa on true c, on.toNat + 1, .here ⟨0, rfl, fun _ => rfl, fun h => by have := hs h; omega, by simp [fillN_zero], by simp [p2], by simp [p3], by simp [p4], by simp [p5], by simp [p6], by simp [p7], by simp [p8], by simp [p10], by simp⟩, ?_⟩
              rintro m ⟨tm, hp⟩ ⟨j, rfl, k1, k2, z1, r2, r3, r4, r5, r6, r7, r8, r9, r10⟩
              simp only at z1 r2 r3 r4 r5 r6 r7 r8 r9 r10
              subst z1
              cases c with
              | false =>
                have hj := k1 rfl
                subst hj
                have hz' := hz rfl
                simp [r2, r3, r6, r8, r9, r10]
                exact ⟨fr', [[i64 ok, i64 oa, i64 on]], hsl, by simp [fillN_zero, hz'], by simp [r2], by simp [r3], by simp [r4], by simp [r5], by simp [r6], by simp [r7]⟩
              | true =>
                have hj := k2 rfl
                obtain ⟨g1, g2, g3, g4⟩ := hs rfl
                by_cases hlt : (j : Int) < on
                · have hlen := lawF_len (A := A) (fr := fr) (by omega)
                  have e1 : oa.toNat + j < 130 := by omega
                  have e2 : oa.toNat + j + 1 ≤ 130 := by omega
                  have e3 : (fillN (lawF A fr) oa.toNat j true).length = 130 := by rw [fillN_len (by omega), hlen]
                  have e4 : ¬ (fillN (lawF A fr) oa.toNat j true = []) := by intro e; rw [e] at e3; simp at e3
                  have e5 : (0 : Int) ≤ oa + j := by omega
                  have e6 : (oa + (j : Int)).toNat = oa.toNat + j := by omega
                  have e7 := fillN_succ (fr := lawF A fr) (off := oa.toNat) (i := j) (b := true) (by omega)
                  have w2 : IntKind.i64.wrap (oa + (j : Int)) = oa + (j : Int) := wI (by omega) (by omega)
                  have w3 : IntKind.i64.wrap ((j : Int) + 1) = ((j + 1 : Nat) : Int) := by rw [wI (by omega) (by omega)]; omega
                  simp [r2, r3, r6, r8, r9, r10, hlt, e1, e2, e3, e4, e5, e6, e7, w2]
                  exact .same (on.toNat + 1 - (j + 1)) (by omega) ⟨j + 1, rfl, (fun h => by cases h), (fun _ => by omega), by simp, by simp [r2], by simp [r3], by simp [r4], by simp [r5], by simp [r6], by simp [r7], by simp [r8], by simp [r9], by simp [w3]⟩
                · have hjn : j = on.toNat := by omega
                  rw [← hjn] at g1
                  simp [r2, r3, r6, r8, r9, r10, hlt]
                  exact ⟨fr', [[i64 ok, i64 oa, i64 on]], hsl, by simp [g1], by simp [r2], by simp [r3], by simp [r4], by simp [r5], by simp [r6], by simp [r7]⟩
        · clear p2 p3 p4 p5 p6 p7 p8 p9 p10
          rintro ⟨tm, hp⟩ ⟨fr', ex, hfl', z1, p2, p3, p4, p5, p6, p7⟩
          simp only at z1 p2 p3 p4 p5 p6 p7
          subst z1
          have hlen := lawF_len (A := A) (fr := fr') (by omega)
          have hcs := same_ok (W0 := W0) (nb := nb) (at_ := (A : Int)) (fr := fr') (free := lawF A fr') (by omega) (by omega) (by omega) (by omega) (lawF_spans (by omega)) lawF_count
          rw [hlen] at hcs
          have w6 : IntKind.i64.wrap ((i : Int) + 1) = ((i + 1 : Nat) : Int) := by rw [wI (by omega) (by omega)]; omega
          simp [p5, p6]
          refine CallGoal.same hcs ?_
          simp [sameB, p7]
          exact .drop (60 - (i + 1)) (by omega) 3 (by omega) (by simp) (by simp) ⟨i + 1, rfl, by omega, fr', hfl', by simp [dropSt], by simp [dropSt, dropD, p2], by simp [dropSt, dropD, p3], by simp [dropSt, dropD, p4, rowsO], by simp [dropSt, dropD, p5], by simp [dropSt, dropD, p6], by simp [dropSt, dropD, w6]⟩
      · have h2' : ¬ ((i : Int) < 60) := by omega
        simp [rowsO, p2, p3, p4, p5, p6, p7, h1, h2, h1', h2']
        exact .keep (by simp) (.refl _) (by simp) (by simp) (by simp) (by simp)
    · have h1' : ¬ ((i : Int) < os.length) := by omega
      simp [rowsO, p2, p3, p4, p5, p6, p7, h1, h1']
      exact .keep (by simp) (.refl _) (by simp) (by simp) (by simp) (by simp)
