/- Part of the proof: contracts of the functions, walked by the D-machine. No condition. -/
import Derived.Test.YtmbnkgagicgcoaaDoorMU4
import Derived.Test.YtmbnkgagicgcoaaDoorMS9
import Derived.Shelf.Strings.SlTrimAscii
set_option linter.unusedSimpArgs false
set_option linter.unusedVariables false
set_option maxHeartbeats 4000000
set_option maxRecDepth 100000
namespace Go.Proofs
open Go Go.RowKit
theorem Tryd.info116 : (Tryd.prog.info? (Tryd.lays162_ren.t 116)).map (fun i => (i.zero, i.size)) = some (some (.agg (Array.replicate 256 (.bool false))), 256) := by kernel_rfl
namespace Dm.Ju
open Dm Dm.Sc Go.Proofs.Tryd
attribute [local simp] takes handsOn isTmp Op.operands Call.operands
def judgeTokens (a b : ByteArray) : Bool := decide ((scanP a).2.2 < 0) && decide ((scanP b).2.2 < 0) && eqTs (wordsL (scanP a).1) (wordsL (scanP b).1)
theorem scanP_len (s : ByteArray) : (scanP s).1.length ≤ s.size + 2 ∧ (scanP s).2.1.length ≤ s.size := by
  have h := loopS_ok (s := s) (s.size + 1) ⟨0, 1, [], []⟩ (Nat.zero_le _)
  simp only [scanP]
  split
  · simp
  · have := semi_len (loopS s (s.size + 1) ⟨0, 1, [], []⟩).1
    simp only [ended, List.length_append, List.length_singleton, List.length_nil] at *
    omega
theorem tokens_ok {W0 nb a b} (h2 : 2 ≤ nb) (hT : Lib.Utf8Tabs 0 1 W0) (ha : a.size < 10000000) (hb : b.size < 10000000) : DCalls ⟨Tryd.prog, W0, nb⟩ 9 [.p (.str a), .p (.str b)] [] (.p (.bool (judgeTokens a b))) [] := by
  have la := scanP_len a
  have lb := scanP_len b
  have wa := wordsL_len (scanP a).1
  obtain ⟨A, hA⟩ : ∃ A, scanP a = A := ⟨_, rfl⟩
  obtain ⟨B, hB⟩ : ∃ B, scanP b = B := ⟨_, rfl⟩
  have ca := scan_ok (W0 := W0) (nb := nb) (s := a) h2 hT ha
  have cb := scan_ok (W0 := W0) (nb := nb) (s := b) h2 hT hb
  simp only [judgeTokens]
  rw [hA] at la ca wa ⊢
  rw [hB] at lb cb ⊢
  obtain ⟨x, xc, f⟩ := A
  obtain ⟨y, yc, g⟩ := B
  simp only [toks, coms] at la lb ca cb wa ⊢
  refine dcalls_end Tryd.func9 rfl (by kernel_rfl) 36 Tryd.ntmps9 #[.tmp 4] rfl (Nat.le_of_ble_eq_true rfl) ?_
  simp
  refine CallGoal.same ca ?_
  simp
  refine CallGoal.same cb ?_
  simp
  by_cases hf : f < 0
  · by_cases hg : g < 0
    · simp [hf, hg]
      refine CallGoal.same (words_ok (l := x) (by omega)) ?_
      simp
      refine CallGoal.same (words_ok (l := y) (by omega)) ?_
      simp
      refine CallGoal.same (equal_ok (a := wordsL x) (b := wordsL y) (by omega)) ?_
      simp
      exact .keep (by simp) (.refl _) (by simp) (by simp) (by simp) (by simp)
    · simp [hf, hg]
      exact .keep (by simp) (.refl _) (by simp) (by simp) (by simp) (by simp)
  · simp [hf]
    exact .keep (by simp) (.refl _) (by simp) (by simp) (by simp) (by simp)
structure Rem where
  text : ByteArray
  ahead : Int
def encR (r : Rem) : List PD := [.str r.text, .int .i64 r.ahead]
def trimB (s : ByteArray) : ByteArray := ⟨(Lib.trimRightS s.data.toList [32, 9]).toArray⟩
theorem trim_ok {W0 nb s} (hs : s.size ≤ 9223372036854775807) : DCalls ⟨Tryd.prog, W0, nb⟩ 46 [.p (.str s), .p (.str ⟨#[32, 9]⟩)] [] (.p (.str (trimB s))) [] :=
  dcalls_foreign (vs := [.string s, .string ⟨#[32, 9]⟩]) (v := .string (trimB s)) ⟨_, Tryd.func46, by kernel_rfl, rfl⟩ (fun w h ρ O ws r => by
      simp only [RepDs, RepD, Rep] at r
      obtain ⟨v1, r1, rfl, h1, v2, r2, rfl, h2, h3⟩ := r
      rw [h1, h2, h3]) (fun w h ρ O => by simp only [RepD, Rep])
    (fun w _ _ => (Any.strings_TrimRight_laid Tryd.lays162 Tryd.info116 s ⟨#[32, 9]⟩ w hs (by decide) (by
      intro j b hj
      match j, hj with
      | 0, hj => simp at hj; subst hj; decide
      | 1, hj => simp at hj; subst hj; decide
      | j + 2, hj => simp at hj)).mono (by rintro e w' ⟨rfl, hb⟩; exact ⟨rfl, hb⟩))
def rem1 (l : List Tok) (c : Com) : Rem := ⟨trimB c.text, ((wordsL (l.take c.next.toNat)).length : Nat)⟩
def remsP (s : ByteArray) : List Rem := (scanP s).2.1.map (rem1 (scanP s).1)
/-! ### what stands ahead of a remark -/
def nextOK (s : ByteArray) (x : SS) : Prop := ∀ c ∈ x.c, 0 ≤ c.next ∧ c.next ≤ x.l.length ∧ c.text.size ≤ s.size
theorem step_next {s x y} (hx : nextOK s x) (h1 : x.at_ < s.size) (h : Sc.step s x = some y) : nextOK s y := by
  have hg : s[x.at_]? = some s[x.at_] := by simp
  simp only [Sc.step, hg] at h
  generalize s[x.at_] = c at *
  have mono : ∀ y : SS, y.c = x.c → x.l.length ≤ y.l.length → nextOK s y := by
    intro y h1 h2 c hc
    rw [h1] at hc
    have := hx c hc
    omega
  have hse : x.l.length ≤ (semi x).l.length := by unfold semi; split <;> simp
  have hadd : ∀ k e, nextOK s (add s k e x) := fun k e => mono _ rfl (by simp [add])
  split at h
  · cases h; exact mono _ (by simp) hse
  split at h
  · cases h; exact mono _ rfl (Nat.le_refl _)
  split at h
  · cases h
    intro c hc
    simp only [note, List.mem_append, List.mem_singleton] at hc
    rcases hc with hc | rfl
    · have := hx c hc
      simp only [note]; omega
    · simp [note]; omega
  split at h
  · simp only [nameS] at h
    split at h
    · cases h
    · cases h; exact hadd _ _
  split at h
  · simp only [numS] at h
    split at h
    · cases h
    · cases h; exact hadd _ _
  split at h
  · simp only [textS] at h
    split at h
    · cases h; exact hadd _ _
    · cases h
  split at h
  · cases h; exact hadd _ _
  · have : ∀ n, opR s x n = some y → ∃ e, y = add s 4 e x := by
      intro n
      induction n with
      | zero => intro h; cases h
      | succ n ih =>
        intro h
        simp only [opR] at h
        split at h
        · cases h; exact ⟨_, rfl⟩
        · exact ih h
    obtain ⟨e, rfl⟩ := this 2 h
    exact hadd _ _
theorem loop_next {s} : ∀ n x, nextOK s x → nextOK s (loopS s n x).1
  | 0, x, hx => hx
  | n + 1, x, hx => by
    simp only [loopS]
    split
    · rename_i hlt
      cases hs : Sc.step s x with
      | none => exact hx
      | some y => exact loop_next n y (step_next hx hlt hs)
    · exact hx
theorem scan_next (s : ByteArray) : ∀ c ∈ (scanP s).2.1, 0 ≤ c.next ∧ c.next ≤ (scanP s).1.length ∧ c.text.size ≤ s.size := by
  have h := loop_next (s := s) (s.size + 1) ⟨0, 1, [], []⟩ (by intro c hc; cases hc)
  intro c hc
  simp only [scanP] at hc ⊢
  split at hc
  · cases hc
  · rename_i hn
    rw [if_neg hn]
    have := h c hc
    have hse : ∀ x : SS, x.l.length ≤ (semi x).l.length := fun x => by unfold semi; split <;> simp
    have := hse (loopS s (s.size + 1) ⟨0, 1, [], []⟩).1
    simp only [ended, List.length_append, List.length_singleton]
    omega
def remI (l : List Tok) (cs : List Com) (m : Nat) (st : St) : Prop := ∃ i : Nat, m = cs.length - i ∧ i ≤ cs.length ∧ st.hp = [] ∧ st.tm 4 = tk l ∧ st.tm 7 = .own 57 2 (((cs.take i).map (rem1 l)).map encR) ∧ st.tm 16 = .p (.sl 4 (cs.map encC)) ∧ st.tm 17 = i64 cs.length ∧ st.tm 18 = i64 (i : Nat)
theorem remarks_ok {W0 nb s} (h2 : 2 ≤ nb) (hT : Lib.Utf8Tabs 0 1 W0) (hs : s.size < 10000000) : DCalls ⟨Tryd.prog, W0, nb⟩ 24 [.p (.str s)] [] (.tup [.p (.sl 2 ((remsP s).map encR)), .p (.bool (decide ((scanP s).2.2 < 0)))]) [] := by
  have la := scanP_len s
  have hn := scan_next s
  have ca := scan_ok (W0 := W0) (nb := nb) (s := s) h2 hT hs
  simp only [remsP]
  obtain ⟨A, hA⟩ : ∃ A, scanP s = A := ⟨_, rfl⟩
  rw [hA] at la ca hn ⊢
  obtain ⟨l, cs, f⟩ := A
  simp only [toks, coms] at la ca hn ⊢
  refine dcalls_end Tryd.func24 rfl (by kernel_rfl) 39 Tryd.ntmps24 #[.tmp 2, .tmp 3] rfl (Nat.le_of_ble_eq_true rfl) ?_
  simp
  refine CallGoal.same ca ?_
  simp
  refine LoopGoal.cut (fun st => st.hp = [] ∧ st.tm 6 = i64 f ∧ st.tm 7 = .own 57 2 ((cs.map (rem1 l)).map encR)) ?_ ?_
  · refine ⟨fun m st => remI l cs m st ∧ st.tm 6 = i64 f, cs.length, .here ⟨⟨0, by simp, by simp, by simp, by simp, by simp, by simp, by simp, by simp⟩, by simp⟩, ?_⟩
    rintro m ⟨tm, hp⟩ ⟨⟨i, rfl, hi, h0, g4, g7, g16, g17, g18⟩, g6⟩
    simp only at h0 g4 g7 g16 g17 g18 g6
    subst h0
    simp [g17, g18]
    rcases Nat.lt_or_ge i cs.length with hlt | hge
    · have hc := hn cs[i] (List.getElem_mem hlt)
      have hw := w64_id (n := (i : Int) + 1) (by omega) (by omega)
      simp only [w64] at hw
      have htk : cs.take (i + 1) = cs.take i ++ [cs[i]] := List.take_succ_eq_append_getElem hlt
      have hfin : (((cs.take (i + 1)).map (rem1 l)).map encR) = List.take i (List.map (encR ∘ rem1 l) cs) ++ [[PD.str (trimB cs[i].text), PD.int .i64 ((wordsL (List.take cs[i].next.toNat l)).length : Nat)]] := by
        rw [htk]
        simp only [List.map_append, List.map_take, List.map_map]
        rfl
      have hnx : ((cs[i].next.toNat : Nat) : Int) = cs[i].next := by omega
      have hwl := wordsL_len (l.take cs[i].next.toNat)
      have hww := w64_id (n := ((wordsL (l.take cs[i].next.toNat)).length : Int)) (by omega) (by simp at hwl; omega)
      simp only [w64] at hww
      have ha1 : (i + 1) * 24 ≤ 140737488355328 := by omega
      have ha2 : i ≤ 9223372036854775806 := by omega
      have hmin : min i cs.length = i := by omega
      simp [hlt, g4, g7, g16, g17, g18, encC]
      refine drawWp.intro [(0, 3), (3, 6), (0, 8), (0, 10)] [2, 3, 6, 8] mixed (by kernel_rfl) (by kernel_rfl) (by kernel_rfl) ?_
      simp [g4, g7, hc.1, hc.2.1]
      refine CallGoal.same (trim_ok (by omega)) ?_
      have hwk := words_ok (W0 := W0) (nb := nb) (l := l.take cs[i].next.toNat) (by simp; omega)
      simp only [tk, List.map_take] at hwk
      simp [g4, hc.1, hc.2.1]
      refine CallGoal.same hwk ?_
      simp [hww, ha1, ha2, hmin]
      refine ⟨by simp [pairsOK, compatDyn, lowOK, allLt, labD, skips, guardD, looksG, guardSlot, looksD, goneD, eatsT, eats, goneL, rdD, wrD, simpleD, anyOwn, disj, ldD, ldOK, mvD, g7, hww, ha1, ha2, hmin], by simp [pairsOK, compatDyn, lowOK, allLt, labD, skips, guardD, looksG, guardSlot, looksD, goneD, eatsT, eats, goneL, rdD, wrD, simpleD, anyOwn, disj, ldD, ldOK, mvD, g7, hww, ha1, ha2, hmin], ?_⟩
      simp [g4, g6, g16, g17, g18, hw]
      exact .drop (cs.length - (i + 1)) (by omega) 0 (by simp) (by simp) (by simp) ⟨⟨i + 1, rfl, by omega, by simp [dropSt], by simp [dropSt, dropD, g4], by rw [hfin]; simp [dropSt, dropD], by simp [dropSt, dropD, g16], by simp [dropSt, dropD, g17], by simp [dropSt, dropD, hw]⟩, by simp [dropSt, dropD, g6]⟩
    · have : i = cs.length := by omega
      subst this
      simp [g6, g7]
  · rintro ⟨tm, hp⟩ ⟨h0, g6, g7⟩
    simp only at h0 g6 g7
    subst h0
    simp [g6, g7]
    exact .keep (by simp) (.refl _) (by simp) (by simp) (by simp) (by simp)
end Dm.Ju
end Go.Proofs
