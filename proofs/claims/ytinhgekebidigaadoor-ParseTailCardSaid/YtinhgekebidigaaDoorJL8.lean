/- Part of the proof: contracts of the functions, walked by the D-machine. No condition. -/
import Derived.Test.YtinhgekebidigaaDoorJL7
set_option linter.unusedSimpArgs false
set_option linter.unusedVariables false
set_option maxRecDepth 100000
namespace Go.Proofs.Dm
open Go Go.Proofs Go.Proofs.Dm.Sc
namespace Pl
open Gr
theorem toL1 (c : UInt8) : (⟨#[c]⟩ : ByteArray).toList = [c] := by simp [ByteArray.toList, ByteArray.toList.loop, ByteArray.size, ByteArray.get!]
theorem word_o {t : Tok} {c : UInt8} (h : isO t c) (d : UInt8) : Pp.word t ⟨#[d]⟩ = (c == d) := by
  simp [Pp.word, h.1, h.2, toL1]
theorem word_k {t : Tok} {k : Int} (h : t.kind = k) (h4 : k ≠ 4) (h5 : k ≠ 5) (d : ByteArray) : Pp.word t d = false := by
  simp [Pp.word, h, h4, h5]
theorem rank41 : Pp.rank ⟨#[41]⟩ = 0 := by kernel_rfl
def tlR : List Bool → Nd → Prop
  | [], y => ∃ t, y = .mk 20 t []
  | b :: l, y => ∃ t c ks, y = .mk (if b then 27 else 26) t (c :: ks) ∧ tlR l c
theorem num_b {l : List Tok} {N n d a : Nat} {t u : Tok} {r} (h : l.drop a = t :: u :: r) (ht : t.kind = 2) (hu : isO u 41) : (sf l (N + 1) (n + 2)).binary 1 d a = .ok (.mk 21 a []) (a + 1) := by
  obtain ⟨e1, h'⟩ := at_tok h
  obtain ⟨e2, _⟩ := at_tok h'
  have w1 : Pp.word u ⟨#[40]⟩ = false := by rw [word_o hu]; decide
  have w2 : Pp.word u ⟨#[46]⟩ = false := by rw [word_o hu]; decide
  have hU : (sf l (N + 1) (n + 1)).unary d a = .ok (.mk 21 a []) (a + 1) := by
    simp [sf, stepS, unaryG, primG, firstG, primLG, Gr.bind, Gr.ite, Gr.pure, isG, Gr.look, adv, Res.andThen, e1, e2, ht, w1, w2]
  rw [show n + 2 = (n + 1) + 1 from rfl, sf]
  simp only [stepS, binaryG, Gr.bind, hU, Res.andThen, binaryLG, Gr.look, Nat.add_zero, e2]
  simp [Gr.ite, hu.1, hu.2, Gr.pure, rank41]
theorem tail_loop {L : List Tok} {N n d : Nat} (hd : d < 40) : ∀ (l : List Bool) (f a : Nat) (x : Nd) (acc : List Bool) (r q : List Tok), L.drop a = r ++ q → rowT l r → l.length < f → tlR acc x →
    ∃ y m u, primLG L (callG L ((sf L (N + 2) (n + 2)).binary 1) (N + 2)) f x d a = .ok y m ∧ tlR (l.reverse ++ acc) y ∧ L.drop m = u :: q ∧ u.kind = 6
  | [], f + 1, a, x, acc, [u], q, hl, hr, hf, hx => by
    obtain ⟨e1, _⟩ := at_tok (t := u) (r := q) hl
    have hr' : u.kind = 6 := hr
    have w1 := word_k hr' (by decide) (by decide) ⟨#[40]⟩
    have w2 := word_k hr' (by decide) (by decide) ⟨#[46]⟩
    exact ⟨x, a, u, by simp [primLG, Gr.bind, isG, Gr.ite, e1, w1, w2, Gr.pure, Res.andThen], hx, hl, hr⟩
  | true :: l, f + 1, a, x, acc, o :: t :: r, q, hl, hr, hf, hx => by
    obtain ⟨h1, h2, h3⟩ := hr
    obtain ⟨e1, hl1⟩ := at_tok (t := o) (r := t :: (r ++ q)) hl
    obtain ⟨e2, hl2⟩ := at_tok hl1
    have w1 : Pp.word o ⟨#[40]⟩ = false := by rw [word_o h1]; decide
    have w2 : Pp.word o ⟨#[46]⟩ = true := by rw [word_o h1]; decide
    obtain ⟨y, m, u, g1, g2, g3, g4⟩ := tail_loop (N := N) (n := n) (d := d) hd l f (a + 1 + 1) (.mk 27 (a + 1 : Nat) [x]) (true :: acc) r q hl2 h3 (by simp at hf; omega) ⟨_, _, _, rfl, hx⟩
    refine ⟨y, m, u, ?_, by simpa using g2, g3, g4⟩
    rw [← g1]
    simp [primLG, Gr.bind, isG, Gr.ite, e1, e2, w1, w2, adv, kindG, h1.1, h2, Res.andThen]
  | false :: l, f + 1, a, x, acc, o :: v :: t :: r, q, hl, hr, hf, hx => by
    obtain ⟨h1, h2, h3, h4⟩ := hr
    obtain ⟨e1, hl1⟩ := at_tok (t := o) (r := v :: t :: (r ++ q)) hl
    obtain ⟨e2, hl2⟩ := at_tok hl1
    obtain ⟨e3, hl3⟩ := at_tok hl2
    have w1 : Pp.word o ⟨#[40]⟩ = true := by rw [word_o h1]; decide
    have w2 : Pp.word v ⟨#[41]⟩ = false := word_k h2 (by decide) (by decide) _
    have w3 : Pp.word t ⟨#[41]⟩ = true := by rw [word_o h3]; decide
    have hE := num_b (N := N + 1) (n := n) (d := d + 1) hl1 h2 h3
    obtain ⟨y, m, u, g1, g2, g3, g4⟩ := tail_loop (N := N) (n := n) (d := d) hd l f (a + 1 + 1 + 1) (.mk 26 (a : Nat) [x, .mk 21 (a + 1 : Nat) []]) (false :: acc) r q hl3 h4 (by simp at hf; omega) ⟨_, _, _, rfl, hx⟩
    refine ⟨y, m, u, ?_, by simpa using g2, g3, g4⟩
    rw [← g1]
    have hd' : ¬ 40 < d + 1 := by omega
    simp [primLG, callG, callLG, nest, hd', Gr.bind, Gr.pure, isG, Gr.ite, e1, e2, e3, w1, w2, w3, adv, wantG, h1.1, Res.andThen, hE]
theorem rowT_head : ∀ {l r}, rowT l r → ∃ u r', r = u :: r'
  | [], [u], h => ⟨u, [], rfl⟩
  | true :: l, o :: t :: r, h => ⟨o, t :: r, rfl⟩
  | false :: l, o :: n :: t :: r, h => ⟨o, n :: t :: r, rfl⟩
theorem tail_u {L : List Tok} {N n d a : Nat} (hd : d < 40) {l : List Bool} {t : Tok} {r q : List Tok} (hl : L.drop a = t :: (r ++ q)) (ht : t.kind = 1) (hr : rowT l r) (hf : l.length < N + 2) :
    ∃ y m u, (sf L (N + 2) (n + 3)).unary d a = .ok y m ∧ tlR l.reverse y ∧ L.drop m = u :: q ∧ u.kind = 6 := by
  obtain ⟨e1, hl1⟩ := at_tok hl
  obtain ⟨y, m, u, g1, g2, g3, g4⟩ := tail_loop (N := N) (n := n) (d := d) hd l (N + 2) (a + 1) (.mk 20 (a : Nat) []) [] r q hl1 hr hf ⟨_, rfl⟩
  rw [List.append_nil] at g2
  refine ⟨y, m, u, ?_, g2, g3, g4⟩
  rw [show n + 3 = (n + 2) + 1 from rfl, sf]
  simp only [stepS, unaryG, Gr.bind, Gr.look, Res.andThen, Nat.add_zero, e1, ht, primG, firstG, Gr.ite, adv]
  simpa [Gr.pure] using g1
theorem neg_u {L : List Tok} {N n a : Nat} {l : List Bool} {o t : Tok} {r q : List Tok} (hl : L.drop a = o :: t :: (r ++ q)) (ho : isO o 45) (ht : t.kind = 1) (hr : rowT l r) (hf : l.length < N + 2) :
    ∃ y m u, (sf L (N + 2) (n + 4)).unary 0 a = .ok (.mk 23 (a : Nat) [y]) m ∧ tlR l.reverse y ∧ L.drop m = u :: q ∧ u.kind = 6 := by
  obtain ⟨e1, hl1⟩ := at_tok hl
  obtain ⟨y, m, u, g1, g2, g3, g4⟩ := tail_u (N := N) (n := n) (d := 1) (by decide) hl1 ht hr hf
  refine ⟨y, m, u, ?_, g2, g3, g4⟩
  have hu : Pp.unaryS ⟨#[45]⟩ = true := by kernel_rfl
  rw [show n + 4 = (n + 3) + 1 from rfl, sf]
  simp [stepS, unaryG, Gr.bind, Gr.look, Res.andThen, e1, ho.1, ho.2, hu, Gr.ite, nest, adv, g1, Gr.pure]
def headB (neg : Bool) (l : List Bool) : List UInt8 := if neg then 45 :: 97 :: tlB l else 97 :: tlB l
def tlT (neg : Bool) (l : List Bool) (e : Nd) : Prop := if neg then ∃ t y, e = .mk 23 t [y] ∧ tlR l.reverse y else tlR l.reverse e
theorem tail_eval {neg : Bool} {l : List Bool} {N n : Nat} (hk : l.length < N) (hk2 : l.length ≤ 1000) {s : ByteArray} (hs : s.data.toList = preT.data.toList ++ headB neg l) (hz : s.size ≤ 2000) :
    ∃ e t, evalText s (N + 2) (n + 5) = some (.mk 1 0 [.mk 2 1 [], .mk 4 4 [.mk 28 5 [], e]], t, -1) ∧ tlT neg l e ∧ (scanP s).1.length < 10000 := by
  have hscan : ∃ z p t r, Ways (headB neg l) preX z ∧ z.l = preTk ++ p ++ t :: r ∧ t.kind = 1 ∧ rowT l r ∧ (if neg then ∃ o, p = [o] ∧ isO o 45 else p = []) := by
    cases neg with
    | false =>
      obtain ⟨z, t, r, w, hl, hc, ht, hr⟩ := tl_ways l 97 (.inl rfl) preX
      have ht : t.kind = 1 := by
        rcases ht with ⟨_, h⟩ | ⟨h, _⟩
        · exact h
        · cases h
      exact ⟨z, [], t, r, w, by rw [hl]; simp [preX], ht, hr, rfl⟩
    | true =>
      have h1 : runL 1 (45 :: 97 :: tlB l) preX = some (97 :: tlB l, addL 4 [45] preX) := by kernel_rfl
      obtain ⟨z, t, r, w, hl, hc, ht, hr⟩ := tl_ways l 97 (.inl rfl) (addL 4 [45] preX)
      have ht : t.kind = 1 := by
        rcases ht with ⟨_, h⟩ | ⟨h, _⟩
        · exact h
        · cases h
      exact ⟨z, [⟨4, ⟨#[45]⟩, 22, 2, false⟩], t, r, .run h1 w, by rw [hl]; rfl, ht, hr, _, rfl, rfl, rfl⟩
  obtain ⟨z, p, t, r, w, hl, ht, hr, hp⟩ := hscan
  have W : Ways s.data.toList ⟨0, 1, [], []⟩ z := by rw [hs]; exact .run (pre_run _) w
  have hP : ∀ b ∈ s.data.toList, plain b = true := by
    have h0 : preT.data.toList.all plain = true := by kernel_rfl
    have h1 : plain 97 = true := by kernel_rfl
    have h2 : plain 45 = true := by kernel_rfl
    have : s.data.toList.all plain = true := by
      rw [hs]
      cases neg <;> simp [headB, h0, h1, h2, tlB_plain l]
    exact List.all_eq_true.1 this
  have sc := scan_L hz hP W
  obtain ⟨⟨r0, u6, hr0, hu6⟩, hrl⟩ := rowT_last hr
  have hen := ended_row (l0 := preTk ++ p) (t := t) (r0 := r0) (u := u6) (by rw [hl, hr0]) hu6
  have hel : ended z = preTk ++ (p ++ (t :: (r ++ [⟨7, ⟨#[]⟩, z.at_, z.line, false⟩]))) := by rw [hen, hl]; simp
  generalize hq : (⟨7, ⟨#[]⟩, z.at_, z.line, false⟩ : Tok) = q at hel
  have hqk : q.kind = 7 := by rw [← hq]
  have hpl : p.length ≤ 1 := by
    cases neg with
    | false => simp at hp; rw [hp]; decide
    | true => simp at hp; obtain ⟨o, rfl, _⟩ := hp; exact Nat.le_refl 1
  have hlen : 0 < (ended z).length ∧ (ended z).length < 10000 := by rw [hel]; simp [preTk]; omega
  have hd : (ended z).drop 7 = p ++ (t :: (r ++ [q])) := by rw [hel]; rfl
  have hlast : tokAt (ended z) ((ended z).length - 1) = q := by
    unfold tokAt
    rw [← List.getLast?_eq_getElem?, hel, show preTk ++ (p ++ (t :: (r ++ [q]))) = (preTk ++ (p ++ t :: r)) ++ [q] by simp, List.getLast?_concat]
    rfl
  generalize ended z = L at *
  have hgood : goodB L = true := by
    unfold goodB
    rw [hlast, hqk]
    simp
    omega
  have hE : ∃ e m v, (sf L (N + 2) (n + 5)).binary 1 0 7 = .ok e m ∧ tlT neg l e ∧ L.drop m = v :: [q] ∧ v.kind = 6 := by
    have hU : ∃ e m v, (sf L (N + 2) (n + 4)).unary 0 7 = .ok e m ∧ tlT neg l e ∧ L.drop m = v :: [q] ∧ v.kind = 6 := by
      cases neg with
      | false =>
        simp at hp
        subst hp
        exact tail_u (N := N) (n := n + 1) (d := 0) (by decide) hd ht hr (by omega)
      | true =>
        simp at hp
        obtain ⟨o, rfl, ho⟩ := hp
        obtain ⟨y, m, u, g1, g2, g3, g4⟩ := neg_u (N := N) (n := n) hd ho ht hr (by omega)
        exact ⟨_, m, u, g1, ⟨_, _, rfl, g2⟩, g3, g4⟩
    obtain ⟨e, m, v, g1, g2, g3, g4⟩ := hU
    obtain ⟨t1, _⟩ := at_tok g3
    refine ⟨e, m, v, ?_, g2, g3, g4⟩
    rw [show n + 5 = (n + 4) + 1 from rfl, sf]
    simp only [stepS, binaryG, Gr.bind, g1, Res.andThen]
    simp [binaryLG, Gr.bind, Gr.look, Gr.ite, t1, g4, Gr.pure, Res.andThen]
  obtain ⟨e, m, v, e1, e2, e3, e4⟩ := hE
  obtain ⟨t1, e3'⟩ := at_tok e3
  obtain ⟨t2, _⟩ := at_tok e3'
  have hF := var_file hel e1 (by rw [t1]; exact e4) (by rw [t2]; exact hqk)
  refine ⟨e, L, ?_, e2, by rw [sc]; exact hlen.2⟩
  unfold evalText
  rw [sc]
  simp [hgood, hF, tokensA, Pp.textOf]
end Pl
end Go.Proofs.Dm
