/- Part of the proof: contracts of the functions, walked by the D-machine. No condition. -/
import Derived.Test.YtinhgekebidigaaDoorJL2
import Derived.Test.YtinhgekebidigaaDoorJG8
set_option linter.unusedSimpArgs false
set_option linter.unusedVariables false
set_option maxRecDepth 100000
namespace Go.Proofs.Dm
open Go Go.Proofs Go.Proofs.Dm.Sc
namespace Pl
open Gr
/-! ### a file that is one var: "package p\nvar x int = " -/
def preTk : List Tok := [⟨5, ⟨#[112, 97, 99, 107, 97, 103, 101]⟩, 0, 1, false⟩, ⟨1, ⟨#[112]⟩, 8, 1, false⟩, ⟨6, ⟨#[59]⟩, 9, 1, true⟩, ⟨5, ⟨#[118, 97, 114]⟩, 10, 2, false⟩, ⟨1, ⟨#[120]⟩, 14, 2, false⟩, ⟨1, ⟨#[105, 110, 116]⟩, 16, 2, false⟩, ⟨4, ⟨#[61]⟩, 20, 2, false⟩]
def preX : SS := ⟨22, 2, preTk, []⟩
theorem pre_run (r : List UInt8) : runL 12 (preT.data.toList ++ r) ⟨0, 1, [], []⟩ = some (r, preX) := by kernel_rfl
theorem var_file {l r : List Tok} (hl : l = preTk ++ r) {N n : Nat} {e : Nd} {m : Nat} (hE : (sf l (N + 2) n).binary 1 0 7 = .ok e m) (h6 : (tokAt l m).kind = 6) (h7 : (tokAt l (m + 1)).kind = 7) :
    fileS l (N + 2) (sf l (N + 2) n) 0 0 = .ok (.mk 1 0 [.mk 2 1 [], .mk 4 4 [.mk 28 5 [], e]]) (m + 1) := by
  have e0 : tokAt l 0 = ⟨5, ⟨#[112, 97, 99, 107, 97, 103, 101]⟩, 0, 1, false⟩ := by subst hl; rfl
  have e1 : tokAt l 1 = ⟨1, ⟨#[112]⟩, 8, 1, false⟩ := by subst hl; rfl
  have e2 : tokAt l 2 = ⟨6, ⟨#[59]⟩, 9, 1, true⟩ := by subst hl; rfl
  have e3 : tokAt l 3 = ⟨5, ⟨#[118, 97, 114]⟩, 10, 2, false⟩ := by subst hl; rfl
  have e4 : tokAt l 4 = ⟨1, ⟨#[120]⟩, 14, 2, false⟩ := by subst hl; rfl
  have e5 : tokAt l 5 = ⟨1, ⟨#[105, 110, 116]⟩, 16, 2, false⟩ := by subst hl; rfl
  have e6 : tokAt l 6 = ⟨4, ⟨#[61]⟩, 20, 2, false⟩ := by subst hl; rfl
  have w0 : Pp.word ⟨5, ⟨#[112, 97, 99, 107, 97, 103, 101]⟩, 0, 1, false⟩ ⟨#[112, 97, 99, 107, 97, 103, 101]⟩ = true := by kernel_rfl
  have w3 : Pp.word ⟨5, ⟨#[118, 97, 114]⟩, 10, 2, false⟩ ⟨#[105, 109, 112, 111, 114, 116]⟩ = false := by kernel_rfl
  have w4 : Pp.word ⟨5, ⟨#[118, 97, 114]⟩, 10, 2, false⟩ ⟨#[118, 97, 114]⟩ = true := by kernel_rfl
  have w6 : Pp.word ⟨4, ⟨#[61]⟩, 20, 2, false⟩ ⟨#[46]⟩ = false := by kernel_rfl
  have w7 : Pp.word ⟨4, ⟨#[61]⟩, 20, 2, false⟩ ⟨#[61]⟩ = true := by kernel_rfl
  clear hl
  generalize sf l (N + 2) n = F at *
  have h6' : ((tokAt l m).kind == 6) = true := by simp [h6]
  have h7' : ((tokAt l (m + 1)).kind == 6) = false := by simp [h7]
  have h8' : ((tokAt l (m + 1)).kind != 7) = false := by simp [h7]
  simp [fileS, fileG, fileIG, fileDG, declG, variableG, typG, Gr.bind, Gr.ite, Gr.pure, wantG, kindG, isG, Gr.look, adv, semisG, Res.andThen, e0, e1, e2, e3, e4, e5, e6, w0, w3, w4, w6, w7, hE, h6, h7]
/-! ### a chain -/
def rowS (op : ByteArray) : Nat → List Tok → Prop
  | 0, [u] => u.kind = 6
  | k + 1, o :: t :: r => o.kind = 4 ∧ o.text = op ∧ t.kind = 1 ∧ rowS op k r
  | _, _ => False
def chB (op : List UInt8) : Nat → List UInt8
  | 0 => [10]
  | k + 1 => 32 :: (op ++ 32 :: 98 :: chB op k)
theorem ch_run (i : Nat) (hi : i < 8) (c : UInt8) (hc : c = 97 ∨ c = 98) (r : List UInt8) (x : SS) : ∃ x' t o, runL 4 (c :: 32 :: ((opAt i).data.toList ++ 32 :: 98 :: r)) x = some (98 :: r, x') ∧ x'.l = x.l ++ [t, o] ∧ x'.c = x.c ∧ t.kind = 1 ∧ o.kind = 4 ∧ o.text = opAt i := by
  have run : runL 4 (c :: 32 :: ((opAt i).data.toList ++ 32 :: 98 :: r)) x = some (98 :: r, ⟨x.at_ + (3 + (opAt i).size), x.line, (x.l ++ [⟨1, ⟨#[c]⟩, (x.at_ : Int), x.line, false⟩]) ++ [⟨4, opAt i, ((x.at_ + 1 + 1 : Nat) : Int), x.line, false⟩], x.c⟩) := by
    have : i = 0 ∨ i = 1 ∨ i = 2 ∨ i = 3 ∨ i = 4 ∨ i = 5 ∨ i = 6 ∨ i = 7 := by omega
    rcases this with rfl | rfl | rfl | rfl | rfl | rfl | rfl | rfl <;> rcases hc with rfl | rfl <;> (refine (?_ : _ = _); kernel_rfl)
  exact ⟨_, _, _, run, List.append_assoc x.l [_] [_], rfl, rfl, rfl, rfl⟩
theorem ch_end (c : UInt8) (hc : c = 97 ∨ c = 98) (x : SS) : ∃ x' t u, runL 2 [c, 10] x = some ([], x') ∧ x'.l = x.l ++ [t, u] ∧ x'.c = x.c ∧ t.kind = 1 ∧ u.kind = 6 := by
  have hs : ∀ (t : Tok) (y : SS), t.kind = 1 → semi { y with l := x.l ++ [t] } = { y with l := x.l ++ [t] ++ [⟨6, ⟨#[59]⟩, y.at_, y.line, true⟩] } := by
    intro t y h
    unfold semi
    have : ((x.l ++ [t]).getLast?.any ends) = true := by simp [ends, h]
    rw [if_pos this]
  have h1 : runL 1 [c, 10] x = some ([10], addL 1 [c] x) := by rcases hc with rfl | rfl <;> kernel_rfl
  have h2 : runL 1 [10] (addL 1 [c] x) = some ([], { semi (addL 1 [c] x) with at_ := (addL 1 [c] x).at_ + 1, line := (addL 1 [c] x).line + 1 }) := rfl
  have h3 := hs ⟨1, ⟨[c].toArray⟩, x.at_, x.line, false⟩ (addL 1 [c] x) rfl
  have h4 : ({ addL 1 [c] x with l := x.l ++ [⟨1, ⟨[c].toArray⟩, x.at_, x.line, false⟩] } : SS) = addL 1 [c] x := rfl
  rw [h4] at h3
  have h5 : runL 2 [c, 10] x = some ([], { semi (addL 1 [c] x) with at_ := (addL 1 [c] x).at_ + 1, line := (addL 1 [c] x).line + 1 }) := by
    rcases hc with rfl | rfl <;> kernel_rfl
  refine ⟨_, _, _, h5, by rw [h3]; simp only [List.append_assoc]; rfl, by rw [h3]; rfl, rfl, rfl⟩
theorem ch_ways (i : Nat) (hi : i < 8) : ∀ (k : Nat) (c : UInt8), c = 97 ∨ c = 98 → ∀ x : SS, ∃ z t r, Ways (c :: chB (opAt i).data.toList k) x z ∧ z.l = x.l ++ t :: r ∧ z.c = x.c ∧ t.kind = 1 ∧ rowS (opAt i) k r
  | 0, c, hc, x => by
    obtain ⟨x', t, u, h1, h2, h3, h4, h5⟩ := ch_end c hc x
    exact ⟨x', t, [u], .run h1 .done, h2, h3, h4, h5⟩
  | k + 1, c, hc, x => by
    obtain ⟨x', t, o, h1, h2, h3, h4, h5, h6⟩ := ch_run i hi c hc (chB (opAt i).data.toList k) x
    obtain ⟨z, t2, r, g1, g2, g3, g4, g5⟩ := ch_ways i hi k 98 (.inr rfl) x'
    exact ⟨z, t, o :: t2 :: r, .run h1 g1, by rw [g2, h2]; simp, by rw [g3, h3], h4, h5, h6, g4, g5⟩
theorem at_tok {l : List Tok} {a : Nat} {t r} (h : l.drop a = t :: r) : tokAt l a = t ∧ l.drop (a + 1) = r := by
  refine ⟨?_, by rw [← List.tail_drop, h]; rfl⟩
  unfold tokAt
  have := congrArg List.head? h
  rw [List.head?_drop] at this
  rw [this]; rfl
def opU (t : Tok) : Prop := t.kind = 6 ∨ (t.kind = 4 ∧ ∃ i, i < 8 ∧ t.text = opAt i)
theorem op_facts (i : Nat) (hi : i < 8) : ((opAt i).toList == (⟨#[40]⟩ : ByteArray).toList) = false ∧ ((opAt i).toList == (⟨#[46]⟩ : ByteArray).toList) = false ∧ decide (1 ≤ Pp.rank (opAt i)) = true := by
  have : i = 0 ∨ i = 1 ∨ i = 2 ∨ i = 3 ∨ i = 4 ∨ i = 5 ∨ i = 6 ∨ i = 7 := by omega
  rcases this with rfl | rfl | rfl | rfl | rfl | rfl | rfl | rfl <;> refine ⟨?_, ?_, ?_⟩ <;> (refine (?_ : _ = _); kernel_rfl)
theorem opU_word {u : Tok} (h : opU u) : Pp.word u ⟨#[40]⟩ = false ∧ Pp.word u ⟨#[46]⟩ = false := by
  rcases h with h | ⟨h, i, hi, ht⟩
  · simp [Pp.word, h]
  · obtain ⟨h1, h2, _⟩ := op_facts i hi
    simp only [Pp.word, ht, h1, h2, Bool.and_false, and_self]
theorem atom_u {l : List Tok} {N n d a : Nat} {t u : Tok} {r} (h : l.drop a = t :: u :: r) (ht : t.kind = 1) (hu : opU u) : (sf l (N + 1) (n + 1)).unary d a = .ok (.mk 20 a []) (a + 1) := by
  obtain ⟨e1, h'⟩ := at_tok h
  obtain ⟨e2, _⟩ := at_tok h'
  obtain ⟨w1, w2⟩ := opU_word hu
  simp [sf, stepS, unaryG, primG, firstG, primLG, Gr.bind, Gr.ite, Gr.pure, isG, Gr.look, adv, Res.andThen, e1, e2, ht, w1, w2]
theorem atom_b {l : List Tok} {N n d a : Nat} {t u : Tok} {r} {rk : Int} (h : l.drop a = t :: u :: r) (ht : t.kind = 1) (hu : u.kind = 6 ∨ (u.kind = 4 ∧ ∃ i, i < 8 ∧ u.text = opAt i ∧ Pp.rank (opAt i) < rk)) : (sf l (N + 1) (n + 2)).binary rk d a = .ok (.mk 20 a []) (a + 1) := by
  have hu' : opU u := by
    rcases hu with h | ⟨h, i, hi, h1, _⟩
    · exact .inl h
    · exact .inr ⟨h, i, hi, h1⟩
  have hU := atom_u (N := N) (n := n) (d := d) h ht hu'
  obtain ⟨e1, h'⟩ := at_tok h
  obtain ⟨e2, _⟩ := at_tok h'
  rw [show n + 2 = (n + 1) + 1 from rfl, sf]
  simp only [stepS, binaryG, Gr.bind, hU, Res.andThen, binaryLG, Gr.look, Nat.add_zero, e2]
  rcases hu with h | ⟨h, i, hi, h1, h2⟩
  · simp [Gr.ite, h, Gr.pure]
  · simp [Gr.ite, h, Gr.pure, h1, h2]
def chNd : Nat → Nd → Prop
  | 0, y => ∃ t, y = .mk 20 t []
  | k + 1, y => ∃ t c u, y = .mk 24 t [c, .mk 20 u []] ∧ chNd k c
theorem rowS_head {i : Nat} (hi : i < 8) : ∀ {k r}, rowS (opAt i) k r → ∃ u r', r = u :: r' ∧ (u.kind = 6 ∨ (u.kind = 4 ∧ u.text = opAt i))
  | 0, [u], h => ⟨u, [], rfl, .inl h⟩
  | k + 1, o :: t :: r, h => ⟨o, t :: r, rfl, .inr ⟨h.1, h.2.1⟩⟩
theorem chain_loop {l : List Tok} {N n d i : Nat} (hi : i < 8) : ∀ (k f a j : Nat) (x : Nd) (r q : List Tok), l.drop a = r ++ q → rowS (opAt i) k r → k < f → chNd j x →
    ∃ y u, binaryLG l (sf l (N + 1) (n + 2)).binary f 1 x d a = .ok y (a + 2 * k) ∧ chNd (j + k) y ∧ l.drop (a + 2 * k) = u :: q ∧ u.kind = 6
  | 0, f + 1, a, j, x, [u], q, hl, hr, hf, hx => by
    obtain ⟨e1, _⟩ := at_tok (t := u) (r := q) hl
    have hr' : u.kind = 6 := hr
    exact ⟨x, u, by simp [binaryLG, Gr.bind, Gr.look, Gr.ite, e1, hr', Gr.pure, Res.andThen], hx, hl, hr⟩
  | k + 1, f + 1, a, j, x, o :: t :: r, q, hl, hr, hf, hx => by
    obtain ⟨h1, h2, h3, h4⟩ := hr
    obtain ⟨u, r', rfl, hu⟩ := rowS_head hi h4
    obtain ⟨e1, hl1⟩ := at_tok (t := o) (r := t :: (u :: r' ++ q)) hl
    obtain ⟨e2, hl2⟩ := at_tok hl1
    obtain ⟨_, _, hrk⟩ := op_facts i hi
    have hrk := of_decide_eq_true hrk
    have hY := atom_b (N := N) (n := n) (d := d) (rk := Pp.rank (opAt i) + 1) (t := t) (u := u) (r := r' ++ q) hl1 h3 (by
      rcases hu with h | ⟨h, hh⟩
      · exact .inl h
      · exact .inr ⟨h, i, hi, hh, by omega⟩)
    obtain ⟨y, v, g1, g2, g3, g4⟩ := chain_loop (N := N) (n := n) (d := d) hi k f (a + 1 + 1) (j + 1) (.mk 24 a [x, .mk 20 (a + 1 : Nat) []]) (u :: r') q hl2 h4 (by omega) ⟨_, _, _, rfl, hx⟩
    have n1 : ¬ Pp.rank (opAt i) < 1 := by omega
    have n2 : ¬ Pp.rank (opAt i) = 0 := by omega
    refine ⟨y, v, ?_, by rw [show j + (k + 1) = j + 1 + k by omega]; exact g2, by rw [show a + 2 * (k + 1) = a + 1 + 1 + 2 * k by omega]; exact g3, g4⟩
    rw [show a + 2 * (k + 1) = a + 1 + 1 + 2 * k by omega, ← g1]
    simp [binaryLG, Gr.bind, Gr.look, Gr.ite, e1, h1, h2, n1, n2, adv, Res.andThen, hY]
theorem rowS_last {i : Nat} : ∀ {k r}, rowS (opAt i) k r → (∃ r0 u, r = r0 ++ [u] ∧ u.kind = 6) ∧ r.length = 2 * k + 1
  | 0, [u], h => ⟨⟨[], u, rfl, h⟩, rfl⟩
  | k + 1, o :: t :: r, h => by
    obtain ⟨⟨r0, u, h1, h2⟩, h3⟩ := rowS_last h.2.2.2
    exact ⟨⟨o :: t :: r0, u, by rw [h1]; rfl, h2⟩, by simp only [List.length_cons, h3]; omega⟩
theorem opAt_plain (i : Nat) (hi : i < 8) : (opAt i).data.toList.all plain = true := by
  have : i = 0 ∨ i = 1 ∨ i = 2 ∨ i = 3 ∨ i = 4 ∨ i = 5 ∨ i = 6 ∨ i = 7 := by omega
  rcases this with rfl | rfl | rfl | rfl | rfl | rfl | rfl | rfl <;> (refine (?_ : _ = _); kernel_rfl)
theorem chB_plain {i : Nat} (hi : i < 8) : ∀ k, (chB (opAt i).data.toList k).all plain = true
  | 0 => by kernel_rfl
  | k + 1 => by
    have h1 : plain 32 = true := by kernel_rfl
    have h2 : plain 98 = true := by kernel_rfl
    simp only [chB, List.all_cons, List.all_append, opAt_plain i hi, chB_plain hi k, h1, h2, Bool.and_self]
theorem ended_row {z : SS} {l0 : List Tok} {t : Tok} {r0 : List Tok} {u : Tok} (h : z.l = l0 ++ t :: (r0 ++ [u])) (hu : u.kind = 6) : ended z = z.l ++ [⟨7, ⟨#[]⟩, z.at_, z.line, false⟩] := by
  have hs : semi z = z := by
    unfold semi
    have e : z.l.getLast? = some u := by rw [h, show l0 ++ t :: (r0 ++ [u]) = (l0 ++ t :: r0) ++ [u] by simp]; exact List.getLast?_concat
    have : (z.l.getLast?.any ends) = false := by rw [e]; simp [ends, hu]
    rw [this]; rfl
  unfold ended
  rw [hs]
theorem chain_eval {i : Nat} (hi : i < 8) {N n k : Nat} (hk : k ≤ N) (hk2 : k ≤ 1000) {s : ByteArray} (hs : s.data.toList = preT.data.toList ++ 97 :: chB (opAt i).data.toList k) (hz : s.size ≤ 2000) :
    ∃ e l, evalText s (N + 2) (n + 3) = some (.mk 1 0 [.mk 2 1 [], .mk 4 4 [.mk 28 5 [], e]], l, -1) ∧ chNd k e ∧ (scanP s).1.length < 10000 := by
  obtain ⟨z, t, r, w, hl, hc, ht, hr⟩ := ch_ways i hi k 97 (.inl rfl) preX
  have W : Ways s.data.toList ⟨0, 1, [], []⟩ z := by rw [hs]; exact .run (pre_run _) w
  have hP : ∀ b ∈ s.data.toList, plain b = true := by
    have h0 : preT.data.toList.all plain = true := by kernel_rfl
    have h1 : plain 97 = true := by kernel_rfl
    have : s.data.toList.all plain = true := by rw [hs]; simp only [List.all_append, List.all_cons, h0, h1, chB_plain hi k, Bool.and_self]
    exact List.all_eq_true.1 this
  have sc := scan_L hz hP W
  obtain ⟨⟨r0, u6, hr0, hu6⟩, hrl⟩ := rowS_last hr
  have hen := ended_row (l0 := preTk) (t := t) (r0 := r0) (u := u6) (by rw [hl, hr0]; rfl) hu6
  have hel : ended z = preTk ++ (t :: (r ++ [⟨7, ⟨#[]⟩, z.at_, z.line, false⟩])) := by rw [hen, hl]; simp [preX]
  generalize hq : (⟨7, ⟨#[]⟩, z.at_, z.line, false⟩ : Tok) = q at hel
  have hqk : q.kind = 7 := by rw [← hq]
  have hlen : (ended z).length = 2 * k + 10 := by rw [hel]; simp [preTk, hrl]
  have hd : (ended z).drop 7 = t :: (r ++ [q]) := by rw [hel]; rfl
  have hlast : tokAt (ended z) ((ended z).length - 1) = q := by
    unfold tokAt
    rw [← List.getLast?_eq_getElem?, hel, show preTk ++ (t :: (r ++ [q])) = (preTk ++ t :: r) ++ [q] by simp, List.getLast?_concat]
    rfl
  generalize ended z = l at *
  have hgood : goodB l = true := by
    unfold goodB
    rw [hlast, hqk, hlen]
    simp
    omega
  have hE : ∃ e v, (sf l (N + 2) (n + 3)).binary 1 0 7 = .ok e (8 + 2 * k) ∧ chNd k e ∧ l.drop (8 + 2 * k) = v :: [q] ∧ v.kind = 6 := by
    obtain ⟨u, r', rfl, hu⟩ := rowS_head hi hr
    have hU := atom_u (l := l) (N := N + 1) (n := n + 1) (d := 0) (a := 7) (t := t) (u := u) (r := r' ++ [q]) hd ht (by
      rcases hu with h | ⟨h, hh⟩
      · exact .inl h
      · exact .inr ⟨h, i, hi, hh⟩)
    obtain ⟨_, hd8⟩ := at_tok hd
    obtain ⟨y, v, g1, g2, g3, g4⟩ := chain_loop (l := l) (N := N + 1) (n := n) (d := 0) hi k (N + 2) 8 0 (.mk 20 (7 : Nat) []) (u :: r') [q] hd8 hr (by omega) ⟨_, rfl⟩
    refine ⟨y, v, ?_, by rw [Nat.zero_add] at g2; exact g2, g3, g4⟩
    rw [show n + 3 = (n + 2) + 1 from rfl, sf]
    simp only [stepS, binaryG, Gr.bind]
    rw [show N + 2 = N + 1 + 1 from rfl, show n + 2 = n + 1 + 1 from rfl, hU]
    simp only [Res.andThen]
    exact g1
  obtain ⟨e, v, e1, e2, e3, e4⟩ := hE
  obtain ⟨t1, e3'⟩ := at_tok e3
  obtain ⟨t2, _⟩ := at_tok e3'
  have hF := var_file (r := t :: (r ++ [q])) hel e1 (by rw [t1]; exact e4) (by rw [t2]; exact hqk)
  refine ⟨e, l, ?_, e2, by rw [sc]; simp only; omega⟩
  unfold evalText
  rw [sc]
  simp [hgood, hF, tokensA, Pp.textOf]
end Pl
end Go.Proofs.Dm
