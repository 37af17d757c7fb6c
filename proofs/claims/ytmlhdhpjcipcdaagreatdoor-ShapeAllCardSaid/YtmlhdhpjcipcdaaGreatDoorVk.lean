/- Part of the proof: contracts of the functions, walked by the D-machine. No condition. -/
import Derived.Test.YtmlhdhpjcipcdaaGreatDoorHa
import Derived.Test.YtmlhdhpjcipcdaaGreatDoorHb
import Derived.Test.YtmlhdhpjcipcdaaGreatDoorHd
import Derived.Test.YtmlhdhpjcipcdaaGreatDoorRi
import Derived.Test.YtmlhdhpjcipcdaaGreatDoorVa
import Derived.Test.YtmlhdhpjcipcdaaGreatDoorVc
set_option linter.unusedSimpArgs false
set_option linter.unusedVariables false
set_option maxHeartbeats 4000000
namespace Go.Proofs.Dm
open Go Go.Proofs Go.Proofs.Tryz Go.Proofs.Dm.Sc
namespace Gr
variable {l : List Tok}
theorem exprE_one (U : M Rp.RS Nd) (N : Nat) : Rp.exprE l U N 1 = Rp.exprT l U N 5 := by
  funext rs
  simp [Rp.exprE]
theorem exprE_tame {U : M Rp.RS Nd} (tU : Tame (Yr l) T U) (N : Nat) : Tame (Yr l) T (Rp.exprE l U (N + 1) 1) := by
  rw [exprE_one]; exact exprT_tame tU N 5
theorem exprE_agr (hg : Good l) {Ug : GN} {U : M Rp.RS Nd} (aU : AgR l Ug U) (tU : Tame (Yr l) T U) (N : Nat) : AgR l (exprE2 l N Ug) (Rp.exprE l U (N + 1) 1) := by
  rw [exprE_one]; exact exprT_agr hg aU tU N 5
structure TameR (F : Rp.RF) (l : List Tok) : Prop where
  unary : Tame (Yr l) T F.unary
  block : Tame (Yr l) T F.block
  ifs : Tame (Yr l) T F.ifs
  stmt : Tame (Yr l) T F.stmt
theorem r1u (N k : Nat) : Tame (Yr l) T (Rp.rf l (N + 1) (k + 1)).unary := unary2_tame (primR_tame _)
theorem r1b (N k : Nat) : Tame (Yr l) T (Rp.rf l (N + 1) (k + 1)).block := blockB_tame N
theorem r2i (N k : Nat) : Tame (Yr l) T (Rp.rf l (N + 1) (k + 2)).ifs := ifs2_tame (exprE_tame (r1u N k) N) (r1b N k)
theorem rf_tame (hg : Good l) (N k : Nat) : TameR (Rp.rf l (N + 1) (k + 3)) l where
  unary := r1u N (k + 2)
  block := r1b N (k + 2)
  ifs := r2i N (k + 1)
  stmt := by
    have e := exprE_tame (r1u (l := l) N (k + 1)) N
    have f := fors2_tame e (r1b N (k + 1))
    exact stmt2_tame (vars2_tame e) (consts2_tame e) (r1b N (k + 1)) (r2i N k) f (simple2_tame hg e f) e
structure AgRF (l : List Tok) (G : SF2) (F : Rp.RF) : Prop where
  unary : AgR l G.unary F.unary
  block : AgR l G.block F.block
  ifs : AgR l G.ifs F.ifs
  stmt : AgR l G.stmt F.stmt
theorem AgRF.step (hg : Good l) {N : Nat} (hN : N < 1000000000) {G : SF2} {F : Rp.RF} (h : AgRF l G F) (t : TameR F l) : AgRF l (step2 l N G) (Rp.stepR l (N + 1) F) := by
  have te := exprE_tame t.unary N
  have ae := exprE_agr hg h.unary t.unary N
  have tf := fors2_tame te t.block
  have af := fors2_agr hg ae h.block te t.block
  exact ⟨unary2_agr hg h.unary (primR_agr hg ae te (fun x => callR_agr hg ae te N (by omega) x) (fun x => callR_tame N x) N) t.unary (primR_tame _),
    blockB_agr hg h.stmt t.stmt N (by omega),
    ifs2_agr hg ae h.block h.ifs te t.block t.ifs,
    stmt2_agr hg (vars2_agr hg ae te) (consts2_agr hg ae te) h.block h.ifs af (simple2_agr hg ae af te tf) ae (vars2_tame te) (consts2_tame te) t.block t.ifs tf (simple2_tame hg te tf) te⟩
theorem knotR (hg : Good l) {N : Nat} (hN : N < 1000000000) : ∀ n, AgRF l (sf2 l N n) (Rp.rf l (N + 1) (n + 3))
  | 0 => ⟨fun d hd => Agr.out, fun d hd => Agr.out, fun d hd => Agr.out, fun d hd => Agr.out⟩
  | n + 1 => (knotR hg hN n).step hg hN (rf_tame hg N n)
theorem parse_of (hg : Good l) {N : Nat} (hN : N < 1000000000) (n : Nat) {r : Nd × Int} (h : tokensA (fileS2 l N (sf2 l N n) 0 0) = some r) : Rp.parseR (Rp.fileRF l (N + 1) (Rp.rf l (N + 1) (n + 3))) = some r := by
  have a := knotR hg hN n
  have t := rf_tame hg N n
  have te := exprE_tame t.unary N
  have ae := exprE_agr hg a.unary t.unary N
  have ad := decl2_agr hg (vars2_agr hg ae te) (consts2_agr hg ae te) (structsB_agr hg N (by omega)) (funcs_agr hg a.block t.block N (by omega)) (vars2_tame te) (consts2_tame te) (structsB_tame N) (funcs_tame t.block N (by omega))
  have td : Tame (Yr l) T _ := decl2_tame (vars2_tame te) (consts2_tame te) (structsB_tame N) (funcs_tame t.block N (by omega))
  have hf := fileR_agr hg ad td N hN 0 hg.pos
  have e0 : (Yr l).emb 0 0 = (⟨0, -1, 0⟩ : Rp.RS) := rfl
  rw [e0] at hf
  unfold Rp.parseR Rp.fileRF
  unfold fileS2 at h
  cases hs : file2 l (decl2 l (vars2 l (exprE2 l N (sf2 l N n).unary)) (consts2 l (exprE2 l N (sf2 l N n).unary)) (structs2 l N) (funcs2 l (sf2 l N n).block N)) N 0 0 with
  | ok nd a' =>
    rw [hs] at h hf
    simp only [tokensA, Option.some.injEq] at h
    obtain ⟨h1, h2, _⟩ := hf
    rw [h2]
    subst h
    rfl
  | bad k =>
    rw [hs] at h hf
    simp only [tokensA, Option.some.injEq] at h
    obtain ⟨x, p, h2, h3, _⟩ := hf
    obtain ⟨q1, q2, q3, q4⟩ := flt_at (l := l) (p := p) (by rw [h3]; omega)
    rw [h2]
    subst h
    have : p.bad = k := by rw [← q4, h3]
    simp only [Option.bind_some, this]
    rfl
  | out => rw [hs] at h; cases h
theorem answer_two (hg : Good l) (hk : Keys l) : fileS2 l (2 * l.length + 4) (sf2 l (2 * l.length + 4) (3 * l.length + 5)) 0 0 = answer l := by
  have h := fileS_le hk (N := l.length + 2) (M := 2 * l.length + 4) (n := 3 * l.length + 4) (m := 3 * l.length + 5) (by omega) (by omega) (by omega) 0 0 True.intro
  have hf := answer_fin hg
  rcases h with q | q
  · rw [answer, q] at hf; exact absurd hf (fun h => h)
  · exact q
end Gr
end Go.Proofs.Dm

set_option linter.unusedSimpArgs false
set_option linter.unusedVariables false
set_option maxHeartbeats 4000000
namespace Go.Proofs.Dm
open Go Go.Proofs Go.Proofs.Tryz Go.Proofs.Dm.Sc
namespace Gr
theorem text_of (s : ByteArray) (hs : s.size < 10000000) (hf : (scanP s).2.2 < 0) {r : Option (Nd × Int)} (h : tokensA (answer (scanP s).1) = r) : Pp.textOf (scanP s).1 (scanP s).2.2 r = some (textP s) ∧ Rp.textOf (scanP s).1 (scanP s).2.2 r = some (textP s) := by
  obtain ⟨hg, hk, hl⟩ := scan_good hs hf
  have hfin := answer_fin hg
  have hd : decide (0 ≤ (scanP s).2.2) = false := by simp; omega
  subst h
  unfold Pp.textOf Rp.textOf textP
  simp only [hd, Bool.false_eq_true, if_false]
  cases ha : answer (scanP s).1 with
  | ok nd a' =>
    simp only [tokensA, Option.bind_some]
    constructor <;> first | rfl | trivial
  | bad k =>
    rw [ha] at hfin
    have hk' : k < (scanP s).1.length := hfin
    have h0 : decide ((0 : Int) ≤ (k : Int)) = true := by simp
    have e1 : Pp.less (k : Int) (((scanP s).1.length : Int) - 1) = k := by unfold Pp.less; split <;> omega
    simp only [tokensA, Option.bind_some, h0, if_true, e1, Int.toNat_natCast, tok_lt k hk']
    constructor
    · first | rfl | (rw [if_pos (by omega)]) | simp
    · first | rfl | trivial
  | out => rw [ha] at hfin; exact absurd hfin (fun h => h)
theorem rText_ok {W0 nb} {s : ByteArray} (hs : s.size < 10000000) :
    DCalls ⟨Tryz.prog, W0, nb⟩ 23 [.p (.str s)] [] (.tup [.agg ((encN (textP s).1).map .p), .p (.sl 5 ((textP s).2.1.map encT)), i64 (textP s).2.2]) [] := by
  rcases Int.lt_or_le (scanP s).2.2 0 with hf | hf
  · obtain ⟨hg, hk, hl⟩ := scan_good hs hf
    obtain ⟨r, hr⟩ := tokens_fin hg
    have hne : (scanP s).1 ≠ [] := by
      intro h
      have := hg.pos
      rw [h] at this
      simp at this
    refine Rp.text_ok hs (.inl hne) (Rp.fileRF_ok (N := 2 * (scanP s).1.length + 4 + 1) (n := 3 * (scanP s).1.length + 5 + 3)) ?_
    rw [parse_of hg (N := 2 * (scanP s).1.length + 4) (by have := hg.len; omega) (3 * (scanP s).1.length + 5) (r := r) (by rw [answer_two hg hk]; exact hr), ← hr]
    exact (text_of s hs hf rfl).2
  · have hd : decide (0 ≤ (scanP s).2.2) = true := by simpa using hf
    refine Rp.text_ok (F := fun _ => none) hs (.inr hf) (fun {_ _ _} h => by cases h) ?_
    simp only [Rp.textOf, textP, hd, if_true]
end Gr
end Go.Proofs.Dm

set_option linter.unusedSimpArgs false
set_option linter.unusedVariables false
set_option maxHeartbeats 8000000
set_option maxRecDepth 100000
namespace Go.Proofs.Dm
open Go Go.Proofs Go.Proofs.Tryz Go.Proofs.Dm.Sc
namespace Sh
attribute [local simp] encT encN encNs takes handsOn isTmp Op.operands Call.operands
def names28 : List ByteArray := names.drop 1
theorem rows28_len : (rowsS names28).length = 28 := rfl
theorem names28_get (i : Nat) : names28[i]? = names[i + 1]? := by
  simp only [names28, List.getElem?_drop]
  rw [Nat.add_comm]
theorem rows28_get {i : Nat} {x : ByteArray} (h : names28[i]? = some x) : (rowsS names28)[i]? = some [.str x] := by
  simp only [rowsS, List.getElem?_map, h]; rfl
theorem refName_ok {W0 nb k} : DCalls ⟨Tryz.prog, W0, nb⟩ 47 [i64 k] [] (.p (.str (nameOf k))) [] := by
  refine dcalls_end Tryz.func47 rfl (by kernel_rfl) 18 Tryz.ntmps47 #[.tmp 2] rfl (Nat.le_of_ble_eq_true rfl) ?_
  refine cwp_cut (fun s => s.hp = [] ∧ s.tm 0 = i64 k) ?_ ?_
  · simp
  rintro ⟨tm, hp⟩ ⟨e0, e1⟩
  simp only at e0 e1
  subst e0
  refine cwp_cut (fun s => s.hp = [] ∧ s.tm 0 = i64 k ∧ s.tm 3 = .own 9 1 (rowsS names28)) ?_ ?_
  · simp [e1, names28, names, rowsS]
  rintro ⟨tm, hp⟩ ⟨e0, e1, e3⟩
  simp only at e0 e1 e3
  subst e0
  have hL := rows28_len
  generalize hRN : rowsS names28 = RN at *
  rcases Int.lt_or_le k 1 with h | h
  · have e : nameOf k = ⟨#[]⟩ := by
      unfold nameOf
      split
      · have : k.toNat = 0 := by omega
        rw [this]; rfl
      · rfl
    rw [e]
    simp [e1, e3, hL, h]
    exact .kk
  have h' : ¬ k < 1 := by omega
  rcases Int.lt_or_le 28 k with g | g
  · have e : nameOf k = ⟨#[]⟩ := by
      unfold nameOf
      rw [if_pos (by omega), List.getElem?_eq_none (by rw [names_len]; omega)]; rfl
    rw [e]
    simp [e1, e3, hL, h', g]
    exact .kk
  · obtain ⟨j, rfl⟩ := Int.eq_ofNat_of_zero_le (show 0 ≤ k by omega)
    obtain ⟨i, rfl⟩ : ∃ i, j = i + 1 := ⟨j - 1, by omega⟩
    have hi : i < 28 := by omega
    obtain ⟨x, hx⟩ : ∃ x, names[i + 1]? = some x := ⟨_, List.getElem?_eq_getElem (by rw [names_len]; omega)⟩
    have e : nameOf ((i + 1 : Nat) : Int) = x := by unfold nameOf; rw [if_pos (by omega), Int.toNat_natCast, hx]; rfl
    rw [e]
    have g1 := rows28_get (by rw [names28_get]; exact hx)
    rw [hRN] at g1
    have hi' : i < RN.length := by omega
    have g2 : RN[i] = [.str x] := by
      have := List.getElem?_eq_getElem hi'
      rw [g1] at this
      injection this with this
      exact this.symm
    have g' : ¬ (28 : Int) < ((i + 1 : Nat) : Int) := by omega
    have hw : IntKind.i64.wrap (((i + 1 : Nat) : Int) - 1) = (i : Int) := by
      have := w64_id (n := ((i + 1 : Nat) : Int) - 1) (by omega) (by omega)
      simp only [w64] at this
      rw [this]; omega
    generalize hz : ((i + 1 : Nat) : Int) = z at *
    simp [e1, e3, hL, h', g', hw, hi, hi', g1, g2]
    exact .kk
theorem refBare_ok {W0 nb k} : DCalls ⟨Tryz.prog, W0, nb⟩ 48 [i64 k] [] (.p (.bool (bare k))) [] := by
  refine dcalls_end Tryz.func48 rfl (by kernel_rfl) 15 Tryz.ntmps48 #[.tmp 2] rfl (Nat.le_of_ble_eq_true rfl) ?_
  simp
  cases h0 : k == 1 with
  | true =>
    simp [bare, h0]
    exact .kk
  | false =>
    cases h1 : k == 10 with
    | true =>
      simp [bare, h0, h1]
      exact .kk
    | false =>
      cases h2 : k == 12 with
      | true =>
        simp [bare, h0, h1, h2]
        exact .kk
      | false =>
        cases h3 : k == 25 with
        | true =>
          simp [bare, h0, h1, h2, h3]
          exact .kk
        | false =>
          cases h4 : k == 26 with
          | true =>
            simp [bare, h0, h1, h2, h3, h4]
            exact .kk
          | false =>
            cases h5 : k == 14 with
            | true =>
              simp [bare, h0, h1, h2, h3, h4, h5]
              exact .kk
            | false =>
              cases h6 : k == 15 with
              | true =>
                simp [bare, h0, h1, h2, h3, h4, h5, h6]
                exact .kk
              | false =>
                cases h7 : k == 16 with
                | true =>
                  simp [bare, h0, h1, h2, h3, h4, h5, h6, h7]
                  exact .kk
                | false =>
                  cases h8 : k == 17 with
                  | true =>
                    simp [bare, h0, h1, h2, h3, h4, h5, h6, h7, h8]
                    exact .kk
                  | false =>
                    cases h9 : k == 18 with
                    | true =>
                      simp [bare, h0, h1, h2, h3, h4, h5, h6, h7, h8, h9]
                      exact .kk
                    | false =>
                      simp [bare, h0, h1, h2, h3, h4, h5, h6, h7, h8, h9]
                      exact .kk
def shH (l : List Tok) (k t : Int) (ks : List Nd) (st : St) : Prop := st.hp = [[i64 k, i64 t, .p (.sl 3 (encNs ks))]] ∧ st.tm 1 = .p (.sl 5 (l.map encT)) ∧ st.tm 2 = .ref 0 0 ∧ st.tm 5 = .p (.str (headS l k t)) ∧ st.tm 6 = i64 0
def shI (l : List Tok) (k t : Int) (ks : List Nd) (R : ByteArray) (m : Nat) (st : St) : Prop := ∃ (i : Nat) (s : ByteArray), i ≤ ks.length ∧ m = ks.length - i ∧ kidsS l s (ks.drop i) = R ∧ st.hp = [[i64 k, i64 t, .p (.sl 3 (encNs ks))]] ∧ st.tm 1 = .p (.sl 5 (l.map encT)) ∧ st.tm 2 = .ref 0 0 ∧ st.tm 5 = .p (.str s) ∧ st.tm 6 = i64 (i : Nat)
theorem refShape_step {W0 nb} {l : List Tok} {k t : Int} {ks : List Nd} (hl : l.length < 1099511627776) (hk : ks.length < 1099511627776) (hs : (shapeS l (.mk k t ks)).size < 1099511627776)
    (ih : ∀ x ∈ ks, DCalls ⟨Tryz.prog, W0, nb⟩ 25 [.agg ((encN x).map .p), .p (.sl 5 (l.map encT))] [] (.p (.str (shapeS l x))) []) :
    DCalls ⟨Tryz.prog, W0, nb⟩ 25 [.agg ((encN (.mk k t ks)).map .p), .p (.sl 5 (l.map encT))] [] (.p (.str (shapeS l (.mk k t ks)))) [] := by
  have hL := encNs_len ks
  obtain ⟨R, hR⟩ : ∃ R, kidsS l (headS l k t) ks = R := ⟨_, rfl⟩
  have hsz : R.size + 1 < 1099511627776 := by
    rw [← hR]
    simpa only [shapeS, ByteArray.size_append, s3] using hs
  have hh : (headS l k t).size ≤ R.size := by rw [← hR]; exact kids_grow l _ ks
  have e : shapeS l (.mk k t ks) = R ++ ⟨#[41]⟩ := by rw [← hR]; rfl
  rw [e]
  have hn := nameOf_size k
  have z1 : ¬ (9223372036854775807 : Int) < (((⟨#[40]⟩ : ByteArray).size : Nat) : Int) + ((nameOf k).size : Int) := by rw [s1]; omega
  have z2 : ¬ (9223372036854775807 : Int) < (((⟨#[40]⟩ : ByteArray).size : Nat) : Int) + ((nameOf k).size : Int) + (((⟨#[32]⟩ : ByteArray).size : Nat) : Int) := by rw [s1, s2]; omega
  refine dcalls_end Tryz.func25 rfl (by kernel_rfl) 54 Tryz.ntmps25 #[.tmp 4] rfl (Nat.le_of_ble_eq_true rfl) ?_
  simp
  refine CallGoal.same refName_ok ?_
  simp [z1]
  refine CallGoal.same refBare_ok ?_
  apply join (J := shH l k t ks)
  case main =>
    intro key
    cases hb : bare k with
    | true =>
      have eh : headS l k t = ⟨#[40]⟩ ++ nameOf k := by unfold headS; rw [hb]; rfl
      simp
      exact key _ ⟨by simp, by simp, by simp, by simp [eh], by simp⟩
    | false =>
      simp [z1, z2]
      rcases Int.lt_or_le t 0 with h0 | h0
      · have eh : headS l k t = ⟨#[40]⟩ ++ nameOf k ++ ⟨#[32]⟩ := by
          unfold headS tokT
          rw [if_neg (by rw [hb]; decide), if_neg (by omega)]
          apply ba_ext; simp
        have h0' : ¬ 0 ≤ t := by omega
        simp [h0']
        exact key _ ⟨by simp, by simp, by simp, by simp [eh], by simp⟩
      · obtain ⟨p, rfl⟩ := Int.eq_ofNat_of_zero_le h0
        rcases Nat.lt_or_ge p l.length with h1 | h1
        · have hg : l[p]? = some l[p] := List.getElem?_eq_getElem h1
          have eh : headS l k (p : Int) = ⟨#[40]⟩ ++ nameOf k ++ ⟨#[32]⟩ ++ l[p].text := by
            unfold headS tokT; rw [hb, if_pos h0, Int.toNat_natCast, hg]; rfl
          have h2 : (headS l k (p : Int)).size = 1 + (nameOf k).size + 1 + l[p].text.size := by rw [eh]; simp only [ByteArray.size_append, s1, s2]
          have z3 : ¬ (9223372036854775807 : Int) < (((⟨#[40]⟩ : ByteArray).size : Nat) : Int) + ((nameOf k).size : Int) + (((⟨#[32]⟩ : ByteArray).size : Nat) : Int) + (l[p].text.size : Int) := by rw [s1, s2]; omega
          simp [h1, hg, z3]
          exact key _ ⟨by simp, by simp, by simp, by simp [eh], by simp⟩
        · have h1' : ¬ p < l.length := by omega
          have eh : headS l k (p : Int) = ⟨#[40]⟩ ++ nameOf k ++ ⟨#[32]⟩ := by
            unfold headS tokT; rw [hb, if_pos h0, Int.toNat_natCast, List.getElem?_eq_none h1]
            apply ba_ext; simp
          simp [h1']
          exact key _ ⟨by simp, by simp, by simp, by simp [eh], by simp⟩
  case key =>
    rintro ⟨tm, hp⟩ ⟨e0, e1, e2, e5, e6⟩
    simp only at e0 e1 e2 e5 e6
    subst e0
    refine ⟨shI l k t ks R, ks.length, .here ⟨0, headS l k t, by omega, by omega, by simpa using hR, by simp, by simp [e1], by simp [e2], by simp [e5], by simp [e6]⟩, ?_⟩
    clear e1 e2 e5 e6
    rintro m ⟨tm, hp⟩ ⟨i, s, hi, rfl, hS, e0, e1, e2, e5, e6⟩
    simp only at e0 e1 e2 e5 e6
    subst e0
    rcases Nat.lt_or_ge i ks.length with hlt | hge
    · have hg := encNs_get ks i hlt
      have hlt' : i < (encNs ks).length := by omega
      have hg' : (encNs ks)[i] = encN ks[i] := by
        have := List.getElem?_eq_getElem hlt'
        rw [hg] at this
        injection this with this
        exact this.symm
      have hw := w64_id (n := (i : Int) + 1) (by omega) (by omega)
      simp only [w64] at hw
      have hd : ks.drop i = ks[i] :: ks.drop (i + 1) := List.drop_eq_getElem_cons hlt
      rw [hd, kidsS] at hS
      have hgr := kids_grow l (s ++ (⟨#[32]⟩ ++ shapeS l ks[i])) (ks.drop (i + 1))
      rw [hS] at hgr
      have c := ih ks[i] (List.getElem_mem hlt)
      obtain ⟨q, hq⟩ : ∃ q, ks[i] = q := ⟨_, rfl⟩
      rw [hq] at c hg hg' hS hgr
      obtain ⟨X, hX⟩ : ∃ X, shapeS l q = X := ⟨_, rfl⟩
      rw [hX] at c hS hgr
      obtain ⟨k1, t1, ks1⟩ := q
      simp only [encN] at c hg hg'
      simp only [ByteArray.size_append] at hgr
      have z4 : ¬ (9223372036854775807 : Int) < (((⟨#[32]⟩ : ByteArray).size : Nat) : Int) + (X.size : Int) := by omega
      have z5 : ¬ (9223372036854775807 : Int) < (s.size : Int) + ((((⟨#[32]⟩ : ByteArray).size : Nat) : Int) + (X.size : Int)) := by omega
      simp [hlt, hlt', hg, hg', hL, e1, e2, e5, e6]
      refine CallGoal.same (c) ?_
      try simp [e1, e2, e5, e6, z4, z5]
      try simp [z4, z5, hw, e1, e2, e5, e6]
      refine .same (ks.length - (i + 1)) (by omega) ⟨i + 1, s ++ (⟨#[32]⟩ ++ X), by omega, rfl, hS, ?_⟩
      simp [ e1, e2, e5, e6, hw]
    · have hn2 : ¬ i < ks.length := by omega
      have hd : ks.drop i = [] := List.drop_eq_nil_of_le (by omega)
      rw [hd, kidsS] at hS
      subst hS
      have z6 : ¬ (9223372036854775807 : Int) < (s.size : Int) + (((⟨#[41]⟩ : ByteArray).size : Nat) : Int) := by rw [s3]; omega
      simp [hn2, hL, e2, e5, e6, z6]
      exact .kk
end Sh
end Go.Proofs.Dm

set_option linter.unusedSimpArgs false
set_option linter.unusedVariables false
set_option maxHeartbeats 8000000
set_option maxRecDepth 100000
namespace Go.Proofs.Dm
open Go Go.Proofs Go.Proofs.Tryz Go.Proofs.Dm.Sc
namespace Sh
open Gr
attribute [local simp] encT encN encNs takes handsOn isTmp Op.operands Call.operands
theorem refShape_ok {W0 nb} {l : List Tok} {T B : Nat} (hT : ∀ t ∈ l, t.text.size ≤ T) (hl : l.length < 1099511627776) {nd : Nd} (hS : Small B nd) (hc : cnt nd * (T + 12) < 1099511627776) :
    DCalls ⟨Tryz.prog, W0, nb⟩ 25 [.agg ((encN nd).map .p), .p (.sl 5 (l.map encT))] [] (.p (.str (shapeS l nd))) [] := by
  revert hc
  induction hS with
  | @mk k t ks h1 h2 ih =>
    intro hc
    have h3 := shape_size hT (.mk k t ks)
    have h4 := len_cnts ks
    have h5 : cnts ks * 1 ≤ cnts ks * (T + 12) := Nat.mul_le_mul_left _ (by omega)
    have h6 : cnt (.mk k t ks) * (T + 12) = (T + 12) + cnts ks * (T + 12) := by simp only [cnt, Nat.add_mul, Nat.one_mul]
    refine refShape_step hl (by omega) (by omega) fun x hx => ih x hx ?_
    have h7 : cnt x * (T + 12) ≤ cnts ks * (T + 12) := Nat.mul_le_mul_right _ (cnt_mem hx)
    omega
end Sh
end Go.Proofs.Dm

set_option linter.unusedSimpArgs false
set_option linter.unusedVariables false
set_option maxHeartbeats 8000000
set_option maxRecDepth 100000
namespace Go.Proofs.Dm
open Go Go.Proofs Go.Proofs.Tryz Go.Proofs.Dm.Sc
namespace Sh
open Gr
attribute [local simp] encT encN encNs takes handsOn isTmp Op.operands Call.operands
def cutS (s : ByteArray) (n : Nat) : ByteArray := if n < s.size then s.extract 0 n else s
theorem cutS_size (s : ByteArray) (n : Nat) : (cutS s n).size ≤ n := by
  unfold cutS
  split
  · simp; omega
  · omega
theorem cut_ok {W0 nb s} {n : Nat} (hn : n < 1000000) : DCalls ⟨Tryz.prog, W0, nb⟩ 22 [.p (.str s), i64 (n : Nat)] [] (.p (.str (cutS s n))) [] := by
  refine dcalls_end Tryz.func22 rfl (by kernel_rfl) 13 Tryz.ntmps22 #[.tmp 4] rfl (Nat.le_of_ble_eq_true rfl) ?_
  simp
  by_cases h : n < s.size
  · simp [h, cutS, Nat.le_of_lt h]
    exact .kk
  · simp [h, cutS]
    exact .kk
theorem refP_ok {W0 nb} {s : ByteArray} (hs : s.size < 100000) : DCalls ⟨Tryz.prog, W0, nb⟩ 25 [.agg ((encN (textP s).1).map .p), .p (.sl 5 ((textP s).2.1.map encT))] [] (.p (.str (shapeS (textP s).2.1 (textP s).1))) [] := by
  refine refShape_ok (textP_tb s) (by have := textP_len s (by omega); omega) (textP_small s (by omega)) ?_
  have h1 := textP_cnt s (by omega)
  have h2 : cnt (textP s).1 * (s.size + 1 + 12) ≤ 200005 * 100012 := Nat.mul_le_mul (by omega) (by omega)
  omega
theorem shapeAll_ok {W0 nb} {s t : ByteArray} (h2 : 2 ≤ nb) (hT : Lib.Utf8Tabs 0 1 W0) : DCalls ⟨Tryz.prog, W0, nb⟩ 3 [.p (.str s), .p (.str t)] [] (.p (.bool true)) [] := by
  have ha := cutS_size s 800
  have hb := cutS_size t 800
  generalize hA : cutS s 800 = a at *
  generalize hB : cutS t 800 = b at *
  have c1 := rText_ok (W0 := W0) (nb := nb) (s := a) (by omega)
  have c2 := rText_ok (W0 := W0) (nb := nb) (s := b) (by omega)
  have c3 := of_ok (W0 := W0) (nb := nb) h2 hT (s := a) (by omega)
  have c4 := refP_ok (W0 := W0) (nb := nb) (s := a) (by omega)
  have c5 := textP_ok (W0 := W0) (nb := nb) (s := a) (by omega)
  have c6 := refP_ok (W0 := W0) (nb := nb) (s := b) (by omega)
  have c7 := same_ok (W0 := W0) (nb := nb) h2 hT (a := a) (b := b) (by omega) (by omega)
  have e0 : sameP a b = ((ofP a).2 && (ofP b).2 && ((ofP a).1.toList == (ofP b).1.toList)) := rfl
  have e1 : ofP a = if decide (0 ≤ (textP a).2.2) then (⟨#[]⟩, false) else (shapeS (textP a).2.1 (textP a).1, true) := rfl
  have e2 : ofP b = if decide (0 ≤ (textP b).2.2) then (⟨#[]⟩, false) else (shapeS (textP b).2.1 (textP b).1, true) := rfl
  generalize sameP a b = S at *
  generalize ofP a = ra at *
  generalize ofP b = rb at *
  generalize textP a = A at *
  generalize textP b = B at *
  obtain ⟨⟨k, tt, ks⟩, l, f⟩ := A
  obtain ⟨⟨k', tt', ks'⟩, l', f'⟩ := B
  obtain ⟨x, o⟩ := ra
  obtain ⟨y, p⟩ := rb
  simp only at c1 c2 c3 c4 c5 c6 e0 e1 e2
  simp at c1 c2 c4 c5 c6
  refine dcalls_end Tryz.func3 rfl (by kernel_rfl) 86 Tryz.ntmps3 #[.tmp 4] rfl (Nat.le_of_ble_eq_true rfl) ?_
  simp
  refine CallGoal.same (begun_ok h2 hT) ?_
  simp
  refine CallGoal.same (cut_ok (n := 800) (by omega)) ?_
  rw [hA]
  simp
  refine CallGoal.same (cut_ok (n := 800) (by omega)) ?_
  rw [hB]
  simp
  refine CallGoal.same c1 ?_
  simp
  refine CallGoal.same c2 ?_
  simp
  refine CallGoal.same c3 ?_
  simp
  cases hA : decide (0 ≤ f) with
  | true =>
    rw [hA] at e1
    simp only [if_true, Prod.mk.injEq] at e1
    obtain ⟨rfl, rfl⟩ := e1
    have hf : ¬ f < 0 := by have := of_decide_eq_true hA; omega
    simp only [Bool.false_and] at e0
    subst e0
    simp [hf]
    refine drawWp.intro [(12, 13)] [13] mixed (by kernel_rfl) (by kernel_rfl) (by kernel_rfl) ?_
    simp [hf]
    refine CallGoal.same c7 ?_
    simp [hf]
    refine ⟨by simp [hf], by simp [hf], ?_⟩
    simp [hf]
    exact .keep (by simp [hf]) (.refl _) (by simp) (by simp [hf]) (by simp [hf]) (by simp [hf])
  | false =>
    rw [hA] at e1
    simp only [Bool.false_eq_true, if_false, Prod.mk.injEq] at e1
    obtain ⟨rfl, rfl⟩ := e1
    have hf : f < 0 := by have := of_decide_eq_false hA; omega
    simp [hf]
    refine CallGoal.same c4 ?_
    simp [hf]
    refine CallGoal.same c5 ?_
    simp [hf]
    cases hB : decide (0 ≤ f') with
    | true =>
      rw [hB] at e2
      simp only [if_true, Prod.mk.injEq] at e2
      obtain ⟨rfl, rfl⟩ := e2
      have hf' : ¬ f' < 0 := by have := of_decide_eq_true hB; omega
      simp only [Bool.and_false, Bool.false_and] at e0
      subst e0
      refine drawWp.intro [(12, 13)] [13] mixed (by kernel_rfl) (by kernel_rfl) (by kernel_rfl) ?_
      simp [hf, hf']
      refine CallGoal.same c7 ?_
      simp [hf, hf']
      refine ⟨by simp [hf, hf'], by simp [hf, hf'], ?_⟩
      simp [hf, hf']
      exact .keep (by simp [hf']) (.refl _) (by simp) (by simp [hf']) (by simp [hf']) (by simp [hf'])
    | false =>
      rw [hB] at e2
      simp only [Bool.false_eq_true, if_false, Prod.mk.injEq] at e2
      obtain ⟨rfl, rfl⟩ := e2
      have hf' : f' < 0 := by have := of_decide_eq_false hB; omega
      refine drawWp.intro [(12, 13)] [13] mixed (by kernel_rfl) (by kernel_rfl) (by kernel_rfl) ?_
      simp [hf, hf']
      refine CallGoal.same c7 ?_
      simp [hf, hf']
      refine CallGoal.same c4 ?_
      simp [hf, hf']
      refine CallGoal.same c6 ?_
      simp [hf, hf']
      refine ⟨by simp [hf, hf'], by simp [hf, hf'], ?_⟩
      simp [hf, hf']
      rw [e0]
      exact .kk
end Sh
end Go.Proofs.Dm
