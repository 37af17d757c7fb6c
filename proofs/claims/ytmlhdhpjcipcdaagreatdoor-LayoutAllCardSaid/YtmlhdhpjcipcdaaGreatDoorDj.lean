/- Part of the proof: contracts of the functions, walked by the D-machine. No condition. -/
import Derived.Test.YtmlhdhpjcipcdaaGreatDoorDi
import Derived.Orders
set_option linter.unusedVariables false
set_option linter.unusedSimpArgs false
namespace Go.Proofs.Dm
open Go Go.RowKit
def LChain (C : Ctx) (n : Nat) (ops : List Oper) (F : Nat → Lab) : List Nat → St → St → Prop
  | [], s, s' => s = s'
  | i :: r, s, s' => ∃ o s1, ops[i]? = some o ∧ labD C.P ops o s = F i ∧ gstep C n ops o s s1 ∧ LChain C n ops F r s1 s'
theorem LChain.len {C n ops F} : ∀ {l : List Nat} {s s' : St}, LChain C n ops F l s s' → s.hp.length ≤ s'.hp.length
  | [], s, s', e => by simp only [LChain] at e; subst e; exact Nat.le_refl _
  | i :: r, s, s', e => by
    obtain ⟨o, s1, h1, h2, h3, h4⟩ := e
    exact Nat.le_trans (gstep_keeps h3).len (LChain.len h4)
theorem front {C n ops F} {i : Nat} {b : List Nat} {s' : St} : ∀ {a : List Nat} {s : St}, (∀ j ∈ a, compat2 (F j) (F i) = true) → ((∀ j ∈ a, compat (F j) (F i) = true) ∨ s'.hp.length ≤ s.hp.length + 1) → (a ≠ [] → ((F i).simple = true ∨ (F i).sto = true) → ∀ k ∈ (F i).rd, k < s.hp.length) →
    LChain C n ops F (a ++ i :: b) s s' → LChain C n ops F (i :: (a ++ b)) s s'
  | [], s, _, _, _, e => e
  | j :: a, s, hc, ho, hL, e => by
    obtain ⟨oj, s1, h1, h2, h3, h4⟩ := e
    have k := gstep_keeps h3
    have ho1 : (∀ j ∈ a, compat (F j) (F i) = true) ∨ s'.hp.length ≤ s1.hp.length + 1 := by
      rcases ho with ho | ho
      · exact .inl fun x hx => ho x (by simp [hx])
      · exact .inr (by have := k.len; omega)
    have ih := front (a := a) (s := s1) (fun x hx => hc x (by simp [hx])) ho1 (fun _ hs k' hk => Nat.lt_of_lt_of_le (hL (by simp) hs k' hk) k.len) h4
    obtain ⟨oi, s2, q1, q2, q3, q4⟩ := ih
    have hone : compat (F j) (F i) = true ∨ s2.hp.length ≤ s.hp.length + 1 := by
      rcases ho with ho | ho
      · exact .inl (ho j (by simp))
      · exact .inr (by have := q4.len; omega)
    obtain ⟨s1', r1, r2, r3, r4⟩ := swap2 h3 q3 (by rw [h2, q2]; exact hc j (by simp)) (by rw [q2]; exact hL (by simp)) (by rw [h2, q2]; exact hone)
    exact ⟨oi, s1', q1, by rw [r3]; exact q2, r1, oj, s2, h1, by rw [r4]; exact h2, r2, q4⟩
def dirOn (o : Oper) : List Nat := (o.after.toList.filter (Region.binds .any)).map (·.on)
def maskL (acc : List Nat) : List Nat → Nat
  | [] => 0
  | j :: js => 2 ^ j ||| acc.getD j 0 ||| maskL acc js
def cloF : List Oper → List Nat → List Nat
  | [], acc => acc
  | o :: os, acc => cloF os (acc ++ [maskL acc (dirOn o)])
theorem maskL_spec {acc : List Nat} {k : Nat} : ∀ {js : List Nat}, (maskL acc js).testBit k = true → ∃ j ∈ js, j = k ∨ (acc.getD j 0).testBit k = true
  | [], h => by simp [maskL] at h
  | j :: js, h => by
    simp only [maskL, Nat.testBit_or, Bool.or_eq_true, Nat.testBit_two_pow, decide_eq_true_eq] at h
    rcases h with (h | h) | h
    · exact ⟨j, by simp, .inl h⟩
    · exact ⟨j, by simp, .inr h⟩
    · obtain ⟨j', h1, h2⟩ := maskL_spec h
      exact ⟨j', by simp [h1], h2⟩
theorem cloF_spec : ∀ (os : List Oper) (acc : List Nat), (cloF os acc).length = acc.length + os.length ∧ (∀ i, i < acc.length → (cloF os acc)[i]? = acc[i]?) ∧
    ∀ (i : Nat) (o : Oper), os[i]? = some o → (cloF os acc)[acc.length + i]? = some (maskL ((cloF os acc).take (acc.length + i)) (dirOn o))
  | [], acc => by simp [cloF]
  | o :: os, acc => by
    obtain ⟨h1, h2, h3⟩ := cloF_spec os (acc ++ [maskL acc (dirOn o)])
    simp only [cloF]
    refine ⟨by rw [h1]; simp; omega, fun i hi => by rw [h2 i (by simp; omega), List.getElem?_append_left hi], fun i o' ho => ?_⟩
    cases i with
    | zero =>
      simp only [List.getElem?_cons_zero, Option.some.injEq] at ho
      subst ho
      have htake : (cloF os (acc ++ [maskL acc (dirOn o)])).take acc.length = acc := by
        apply List.ext_getElem?
        intro i
        rw [List.getElem?_take]
        split
        · rename_i hi
          rw [h2 i (by simp; omega), List.getElem?_append_left hi]
        · rename_i hi
          exact (List.getElem?_eq_none (by omega)).symm
      rw [Nat.add_zero, htake, h2 acc.length (by simp)]
      simp
    | succ i =>
      have := h3 i o' (by simpa using ho)
      simp only [List.length_append, List.length_cons, List.length_nil, Nat.zero_add] at this
      have e : acc.length + (i + 1) = acc.length + 1 + i := by omega
      rw [e]; exact this
def masks (ops : List Oper) : List Nat := cloF ops []
def downC (ops : List Oper) (L : Nat → Bool) : Prop := ∀ (i : Nat) (o : Oper), ops[i]? = some o → L i = true → ∀ j ∈ dirOn o, L j = true
theorem masks_down {ops : List Oper} {L : Nat → Bool} (hd : downC ops L) {k : Nat} : ∀ (i : Nat) (o : Oper), ops[i]? = some o → (∀ j ∈ dirOn o, L j = true) → ((masks ops).getD i 0).testBit k = true → L k = true := by
  intro i
  induction i using Nat.strongRecOn with
  | _ i ih =>
    intro o ho hready hbit
    obtain ⟨h1, h2, h3⟩ := cloF_spec ops []
    have := h3 i o ho
    simp only [List.length_nil, Nat.zero_add] at this
    rw [List.getD_eq_getElem?_getD] at hbit
    unfold masks at hbit
    rw [this, Option.getD_some] at hbit
    obtain ⟨j, q1, q2⟩ := maskL_spec hbit
    rcases q2 with q2 | q2
    · subst q2; exact hready j q1
    · rw [List.getD_eq_getElem?_getD, List.getElem?_take] at q2
      split at q2
      · rename_i hji
        have hj : j < ops.length := Nat.lt_trans hji (List.getElem?_eq_some_iff.1 ho).1
        refine ih j hji ops[j] (List.getElem?_eq_getElem hj) (fun k' hk' => hd j _ (List.getElem?_eq_getElem hj) (hready j q1) k' hk') ?_
        rw [List.getD_eq_getElem?_getD]
        exact q2
      · simp at q2
def remL (n : Nat) (listed : Array Bool) : List Nat := (List.range n).filter fun i => !listed.getD i true
theorem remL_mem {n : Nat} {listed : Array Bool} {i : Nat} : i ∈ remL n listed ↔ i < n ∧ listed.getD i true = false := by
  simp [remL]
theorem range_split {n : Nat} (p : Nat → Bool) {i : Nat} (h : i ∈ (List.range n).filter p) :
    ∃ a b, (List.range n).filter p = a ++ i :: b ∧ (∀ j ∈ a, j < i) ∧ (List.range n).filter (fun j => p j && decide (j ≠ i)) = a ++ b := by
  have hs : ((List.range n).filter p).Pairwise (· < ·) := List.Pairwise.filter _ List.pairwise_lt_range
  obtain ⟨a, b, hab⟩ := List.append_of_mem h
  refine ⟨a, b, hab, ?_, ?_⟩
  · rw [hab] at hs
    intro j hj
    exact (List.pairwise_append.1 hs).2.2 j hj i (by simp)
  · have e : (List.range n).filter (fun j => p j && decide (j ≠ i)) = ((List.range n).filter p).filter (fun j => decide (j ≠ i)) := by
      rw [List.filter_filter]
      congr 1
      funext j
      rw [Bool.and_comm]
    rw [e, hab, List.filter_append, List.filter_cons_of_neg (by simp)]
    rw [hab] at hs
    obtain ⟨h1, h2, h3⟩ := List.pairwise_append.1 hs
    congr 1
    · rw [List.filter_eq_self]
      intro j hj
      have := h3 j hj i (by simp)
      simp; omega
    · rw [List.filter_eq_self]
      intro j hj
      have := (List.pairwise_cons.1 h2).1 j hj
      simp; omega
theorem draw_any {C w0 h0 ow0 r0 n} {ops : List Oper} {F : Nat → Lab} {Q : Exit → Act → World → Prop} {s' : St} {L0 : Nat}
    (hedge : ∀ (i : Nat) (o : Oper), ops[i]? = some o → ∀ j ∈ dirOn o, j < i)
    (hpair : ∀ i j, i < ops.length → j < i → ((masks ops).getD i 0).testBit j = true ∨ compat2 (F j) (F i) = true)
    (hone : (∀ i j, i < ops.length → j < i → ((masks ops).getD i 0).testBit j = true ∨ compat (F j) (F i) = true) ∨ s'.hp.length ≤ L0 + 1)
    (hlow : ∀ i j, i < ops.length → j < i → ((masks ops).getD i 0).testBit j = false → ((F i).simple = true ∨ (F i).sto = true) → ∀ k ∈ (F i).rd, k < L0) (hK : Good C w0 h0 ow0 r0 n s' (Q .normal)) :
    ∀ (fuel : Nat) (listed : Array Bool) (s : St), listed.size = ops.length → downC ops (fun i => listed.getD i false) → LChain C n ops F (remL ops.length listed) s s' → (remL ops.length listed).length ≤ fuel →
      L0 ≤ s.hp.length → Good C w0 h0 ow0 r0 n s (fun a w => wpAny C.P .any ops.toArray Q fuel listed a w) := by
  have listed_of : ∀ (listed : Array Bool) (i : Nat), listed.size = ops.length → i < ops.length → i ∉ remL ops.length listed → listed.getD i false = true := by
    intro listed i hsz hi hn
    have : listed.getD i true ≠ false := fun q => hn (remL_mem.2 ⟨hi, q⟩)
    have hl : i < listed.size := by omega
    rw [Array.getD_eq_getD_getElem?, Array.getElem?_eq_getElem hl] at this ⊢
    simpa using this
  have ready_mem : ∀ (listed : Array Bool) (i : Nat), i ∈ Region.ready .any ops.toArray listed ↔ i ∈ remL ops.length listed ∧ ∃ o, ops[i]? = some o ∧ ∀ j ∈ dirOn o, listed.getD j false = true := by
    intro listed i
    simp only [Region.ready, List.mem_filter, List.mem_range, List.size_toArray, Bool.and_eq_true, Bool.not_eq_true', remL_mem, List.getElem?_toArray]
    constructor
    · rintro ⟨h1, h2, h3⟩
      rw [List.getElem?_eq_getElem h1] at h3 ⊢
      simp only [Option.map_some, Option.getD_some] at h3
      refine ⟨⟨h1, h2⟩, _, rfl, fun j hj => ?_⟩
      simp only [dirOn, List.mem_map, List.mem_filter] at hj
      obtain ⟨e, ⟨he1, he2⟩, he3⟩ := hj
      have := Array.all_eq_true_iff_forall_mem.1 h3 e (by simpa using he1)
      rw [he2] at this
      subst he3
      simpa using this
    · rintro ⟨⟨h1, h2⟩, o, h3, h4⟩
      refine ⟨h1, h2, ?_⟩
      rw [h3]
      simp only [Option.map_some, Option.getD_some]
      rw [Array.all_eq_true_iff_forall_mem]
      intro e he
      by_cases hb : Region.binds .any e = true
      · have := h4 e.on (by
          simp only [dirOn, List.mem_map, List.mem_filter]
          exact ⟨e, ⟨by simpa using he, hb⟩, rfl⟩)
        rw [this]; simp
      · simp [hb]
  have rem_ready : ∀ (listed : Array Bool), listed.size = ops.length → Region.ready .any ops.toArray listed = [] → remL ops.length listed = [] := by
    intro listed hsz hr
    rcases hrem : remL ops.length listed with _ | ⟨i, rest⟩
    · rfl
    · exfalso
      have hi : i ∈ remL ops.length listed := by rw [hrem]; simp
      have hs : (remL ops.length listed).Pairwise (· < ·) := List.Pairwise.filter _ List.pairwise_lt_range
      rw [hrem] at hs
      have hlt := (remL_mem.1 hi).1
      have : i ∈ Region.ready .any ops.toArray listed := by
        rw [ready_mem]
        refine ⟨hi, ops[i], List.getElem?_eq_getElem hlt, fun j hj => ?_⟩
        have hji := hedge i _ (List.getElem?_eq_getElem hlt) j hj
        refine listed_of listed j hsz (by omega) fun hjm => ?_
        rw [hrem] at hjm
        rcases List.mem_cons.1 hjm with e | e
        · omega
        · have := (List.pairwise_cons.1 hs).1 j e
          omega
      rw [hr] at this
      cases this
  intro fuel
  induction fuel with
  | zero =>
    intro listed s hsz hd hch hfuel hL a w h ow ρ r
    have hrem : remL ops.length listed = [] := List.eq_nil_of_length_eq_zero (by omega)
    rw [hrem] at hch
    simp only [LChain] at hch
    subst hch
    refine ⟨?_, hK a w h ow ρ r⟩
    apply List.eq_nil_iff_forall_not_mem.2
    intro i hi
    have := ((ready_mem listed i).1 hi).1
    rw [hrem] at this
    cases this
  | succ fuel ih =>
    intro listed s hsz hd hch hfuel hL a w h ow ρ r
    refine ⟨fun hr => ?_, fun i hi => ?_⟩
    · rw [rem_ready listed hsz hr] at hch
      simp only [LChain] at hch
      subst hch
      exact hK a w h ow ρ r
    · obtain ⟨him, o, ho, hdir⟩ := (ready_mem listed i).1 hi
      obtain ⟨pa, pb, hab, hlt, hab'⟩ := range_split (fun j => !listed.getD j true) him
      have hilt := (remL_mem.1 him).1
      have hrem : remL ops.length listed = pa ++ i :: pb := hab
      rw [hrem] at hch hfuel
      have hun : ∀ j ∈ pa, ((masks ops).getD i 0).testBit j = false := by
        intro j hj
        rcases hq : ((masks ops).getD i 0).testBit j with _ | _
        · rfl
        · exfalso
          have q := hq
          have hji := hlt j hj
          have hlj := masks_down hd i o ho hdir q
          have hjm : j ∈ remL ops.length listed := by rw [hrem]; simp [hj]
          have := (remL_mem.1 hjm).2
          have hjs : j < listed.size := by omega
          simp only [Array.getD_eq_getD_getElem?, Array.getElem?_eq_getElem hjs, Option.getD_some] at hlj this
          rw [this] at hlj
          cases hlj
      have hcomp : ∀ j ∈ pa, compat2 (F j) (F i) = true := by
        intro j hj
        rcases hpair i j hilt (hlt j hj) with q | q
        · rw [hun j hj] at q; cases q
        · exact q
      have hone' : (∀ j ∈ pa, compat (F j) (F i) = true) ∨ s'.hp.length ≤ s.hp.length + 1 := by
        rcases hone with hone | hone
        · refine .inl fun j hj => ?_
          rcases hone i j hilt (hlt j hj) with q | q
          · rw [hun j hj] at q; cases q
          · exact q
        · exact .inr (by omega)
      have hfr := front hcomp hone' (fun hne hs k hk => by
        obtain ⟨j, hj⟩ := List.exists_mem_of_ne_nil pa hne
        exact Nat.lt_of_lt_of_le (hlow i j hilt (hlt j hj) (hun j hj) hs k hk) hL) hch
      obtain ⟨o', s1, q1, q2, q3, q4⟩ := hfr
      rw [ho] at q1; injection q1 with q1; subst q1
      have hset : (listed.setIfInBounds i true).size = ops.length := by simpa using hsz
      have hget : ∀ j (d : Bool), (listed.setIfInBounds i true).getD j d = if j = i then true else listed.getD j d := by
        intro j d
        simp only [Array.getD_eq_getD_getElem?, Array.getElem?_setIfInBounds]
        by_cases e : i = j
        · subst e
          rw [if_pos rfl, if_pos (by omega), if_pos rfl]; rfl
        · rw [if_neg e, if_neg (fun q => e q.symm)]
      have hrem' : remL ops.length (listed.setIfInBounds i true) = pa ++ pb := by
        rw [← hab']
        unfold remL
        congr 1
        funext j
        rw [hget]
        by_cases e : j = i <;> simp [e]
      have hgood : Good C w0 h0 ow0 r0 n s1 (fun a w => wpAny C.P .any ops.toArray Q fuel (listed.setIfInBounds i true) a w) := by
        refine ih (listed.setIfInBounds i true) s1 hset ?_ (by rw [hrem']; exact q4) (by rw [hrem']; simp at hfuel ⊢; omega) (Nat.le_trans hL (gstep_keeps q3).len)
        intro j oj hoj hj k hk
        dsimp only at hj ⊢
        rw [hget] at hj ⊢
        by_cases e : j = i
        · subst e
          rw [ho] at hoj; injection hoj with hoj; subst hoj
          have := hdir k hk
          split
          · rfl
          · exact this
        · rw [if_neg e] at hj
          have := hd j oj hoj hj k hk
          split
          · rfl
          · exact this
      obtain ⟨g, g1, g2, g3⟩ := q3
      have hw := guardD_ok r g1
      unfold wpOp
      rw [List.getElem?_toArray, ho]
      dsimp only
      cases g with
      | true =>
        rw [if_pos hw]
        simp only [if_true] at g3
        exact .inl (opTo_ok g3 a w h ow ρ r _ Q hgood)
      | false =>
        rw [if_neg (by rw [hw]; simp)]
        simp only [Bool.false_eq_true, if_false] at g3
        subst g3
        exact hgood _ _ _ _ _ (r.put o.dst g2 fun O => by simp only [RepD])
def edgesOK (ops : List Oper) : Bool := (List.range ops.length).all fun i => ((ops[i]?).map fun o => (dirOn o).all fun j => decide (j < i)).getD true
def plainS (tk : Bool) (o : Oper) : Bool :=
  match o.op with
  | .move _ => !tk
  | .assign _ | .load _ _ | .store _ _ _ | .alloc _ | .box _ _ | .build _ _ | .buildSlice _ _ _ | .makeSlice _ _ _ => false
  | .call c => match c.callee with
    | .builtin .append => false
    | .builtin .copy => false
    | .builtin .clear => false
    | .builtin _ => true
    | _ => false
  | _ => true
def noBoxS (o : Oper) : Bool :=
  match o.op with
  | .load _ _ | .store _ _ _ => false
  | .call c => match c.callee with
    | .value _ => false
    | .builtin .append => false
    | .builtin .copy => false
    | .builtin .clear => false
    | _ => true
  | _ => true
def noWrS (tk : Bool) (o : Oper) : Bool := noBoxS o || match o.op with
  | .load _ _ => !tk
  | _ => false
def simpS (tk : Bool) (o : Oper) : Bool := o.dst.isSome && (plainS tk o || match o.op with
  | .load _ _ => true
  | .buildSlice _ _ _ => true
  | _ => false)
def slotsS (ops : List Oper) (a b : Oper) : Bool := disj (dstL a.dst) (looksG ops b ++ dstL b.dst) && disj (dstL b.dst) (looksG ops a)
def freeS (ops : List Oper) (a b : Oper) : Bool :=
  (simpS (takes ops a) a || simpS (takes ops b) b) && (!(eatsT (takes ops a) a) || disj (looksD a) (looksG ops b)) && (!(eatsT (takes ops b) b) || disj (looksD b) (looksG ops a)) && (noBoxS a || noBoxS b || (noWrS (takes ops a) a && noWrS (takes ops b) b))
def opAt (ops : List Oper) (i : Nat) : Oper := ops.getD i default
def unord (ops : List Oper) : List (Nat × Nat) :=
  (List.range ops.length).flatMap fun i => ((List.range i).filter fun j => !(((masks ops).getD i 0).testBit j)).map fun j => (j, i)
def drawStat (ops : List Oper) : Bool := edgesOK ops && (unord ops).all fun p => slotsS ops (opAt ops p.1) (opAt ops p.2)
def dynPairs (ops : List Oper) : List (Nat × Nat) := (unord ops).filter fun p => !(freeS ops (opAt ops p.1) (opAt ops p.2))
def lowIdx (ops : List Oper) : List Nat := (((unord ops).map (·.2)).filter fun i => !(noBoxS (opAt ops i))).eraseDups
def emptyLab : Lab := ⟨none, [], [], [], [], false, none, false, false, false, false⟩
def pairsOK (labs : List Lab) : List (Nat × Nat) → Prop
  | [] => True
  | (j, i) :: ps => compatDyn (labs.getD j emptyLab) (labs.getD i emptyLab) = true ∧ pairsOK labs ps
theorem pairsOK_spec {labs : List Lab} : ∀ {ps : List (Nat × Nat)}, pairsOK labs ps → ∀ p ∈ ps, compatDyn (labs.getD p.1 emptyLab) (labs.getD p.2 emptyLab) = true
  | [], _, p, hp => by simp at hp
  | (j, i) :: ps, h, p, hp => by
    rcases List.mem_cons.1 hp with e | e
    · subst e; exact h.1
    · exact pairsOK_spec h.2 p e
def pairsOK2 (labs : List Lab) : List (Nat × Nat) → Prop
  | [] => True
  | (j, i) :: ps => (compatDyn (labs.getD j emptyLab) (labs.getD i emptyLab) || compatAdd (labs.getD j emptyLab) (labs.getD i emptyLab)) = true ∧ pairsOK2 labs ps
theorem pairsOK2_spec {labs : List Lab} : ∀ {ps : List (Nat × Nat)}, pairsOK2 labs ps → ∀ p ∈ ps, (compatDyn (labs.getD p.1 emptyLab) (labs.getD p.2 emptyLab) || compatAdd (labs.getD p.1 emptyLab) (labs.getD p.2 emptyLab)) = true
  | [], _, p, hp => by simp at hp
  | (j, i) :: ps, h, p, hp => by
    rcases List.mem_cons.1 hp with e | e
    · subst e; exact h.1
    · exact pairsOK2_spec h.2 p e
theorem pairsOK2_of {labs : List Lab} : ∀ {ps : List (Nat × Nat)}, pairsOK labs ps → pairsOK2 labs ps
  | [], _ => True.intro
  | (j, i) :: ps, h => ⟨by rw [h.1]; rfl, pairsOK2_of h.2⟩
def allLt (m : Nat) : List Nat → Prop
  | [] => True
  | k :: ks => k < m ∧ allLt m ks
theorem allLt_spec {m : Nat} : ∀ {ks : List Nat}, allLt m ks → ∀ k ∈ ks, k < m
  | [], _, k, hk => by simp at hk
  | x :: ks, h, k, hk => by
    rcases List.mem_cons.1 hk with e | e
    · subst e; exact h.1
    · exact allLt_spec h.2 k e
def lowOK (m : Nat) (labs : List Lab) : List Nat → Prop
  | [] => True
  | i :: is => allLt m (labs.getD i emptyLab).rd ∧ lowOK m labs is
theorem lowOK_spec {m : Nat} {labs : List Lab} : ∀ {is : List Nat}, lowOK m labs is → ∀ i ∈ is, ∀ k ∈ (labs.getD i emptyLab).rd, k < m
  | [], _, i, hi => by simp at hi
  | x :: is, h, i, hi => by
    rcases List.mem_cons.1 hi with e | e
    · subst e; exact allLt_spec h.1
    · exact lowOK_spec h.2 i e
def drawTo (C : Ctx) (n : Nat) (ops : List Oper) (s s' : St) : Prop :=
  C.P.follows .mixedOrders = true ∧ drawStat ops = true ∧ ∃ labs : List Lab, labs.length = ops.length ∧ LChain C n ops (fun i => labs.getD i emptyLab) (List.range ops.length) s s' ∧
    (pairsOK labs (dynPairs ops) ∨ (pairsOK2 labs (dynPairs ops) ∧ s'.hp.length ≤ s.hp.length + 1)) ∧ lowOK s.hp.length labs (lowIdx ops)
theorem disj_nil_right (a : List Nat) : disj a [] = true := by simp [disj]
theorem disj_mono {a b a' b' : List Nat} (h : disj a b = true) (ha : ∀ x ∈ a', x ∈ a) (hb : ∀ x ∈ b', x ∈ b) : disj a' b' = true := by
  have := disj_spec h
  simp only [disj, List.all_eq_true]
  intro x hx
  have h2 := this x (ha x hx)
  have : x ∉ b' := fun q => h2 (hb x q)
  simp [this]
theorem noBox_rd {P ops o s} (h : noBoxS o = true) : (labD P ops o s).rd = [] := by
  unfold labD
  split
  · rfl
  · dsimp only
    unfold rdD
    split
    · rename_i t x hop; simp [noBoxS, hop] at h
    · rename_i t x y hop; simp [noBoxS, hop] at h
    · rename_i c hop
      cases hc : c.callee with
      | value x => simp [noBoxS, hop, hc] at h
      | builtin b => cases b <;> first | rfl | (simp [noBoxS, hop, hc] at h)
      | _ => rfl
    · rfl
theorem noBox_wr {P ops o s} (h : noBoxS o = true) : (labD P ops o s).wr = [] := by
  have := noBox_rd (P := P) (ops := ops) (s := s) h
  apply List.eq_nil_iff_forall_not_mem.2
  intro x hx
  have := lab_wr x hx
  rw [noBox_rd h] at this
  cases this
theorem plain_simple {tk : Bool} {o : Oper} {s : St} (h : plainS tk o = true) : simpleD tk o s = true := by
  unfold plainS at h
  unfold simpleD
  cases hop : o.op with
  | call c =>
    rw [hop] at h
    dsimp only at h ⊢
    cases hc : c.callee with
    | builtin b => rw [hc] at h; cases b <;> simp_all
    | _ => rw [hc] at h; simp at h
  | move x => rw [hop] at h; simpa using Or.inl h
  | _ => rw [hop] at h; first | done | rfl | (simp at h)
theorem noWr_wr {P ops o s} (h : noWrS (takes ops o) o = true) : (labD P ops o s).wr = [] := by
  unfold noWrS at h
  cases hb : noBoxS o with
  | true => exact noBox_wr hb
  | false =>
    rw [hb] at h
    simp only [Bool.false_or] at h
    split at h
    · rename_i t x hop
      simp only [Bool.not_eq_true'] at h
      unfold labD
      split
      · rfl
      · dsimp only
        unfold wrD
        rw [hop, h]
        dsimp only
        split
        · split
          · simp
          · rfl
        · rfl
    · cases h
theorem simpS_lab {P ops o s} (h : simpS (takes ops o) o = true) : (labD P ops o s).simple = true := by
  simp only [simpS, Bool.and_eq_true, Bool.or_eq_true] at h
  obtain ⟨hd, h⟩ := h
  unfold labD
  split
  · exact hd
  · dsimp only
    rw [hd, Bool.true_and]
    rcases h with h | h
    · exact plain_simple h
    · unfold simpleD
      split at h
      · rename_i hop; simp [hop]
      · rename_i hop; simp [hop]
      · cases h
theorem free_compat {P ops a b s t} (hs : slotsS ops a b = true) (h : freeS ops a b = true) : compat (labD P ops a s) (labD P ops b t) = true := by
  simp only [freeS, Bool.and_eq_true, Bool.or_eq_true] at h
  obtain ⟨⟨⟨h1, h2⟩, h3⟩, h4⟩ := h
  simp only [slotsS, Bool.and_eq_true] at hs
  refine compat_of_old ?_
  simp only [compatO, Bool.and_eq_true, Bool.or_eq_true, lab_dst, lab_looks]
  have goneS : ∀ (o o' : Oper) (u : St), (!(eatsT (takes ops o) o)) = true ∨ disj (looksD o) (looksG ops o') = true → disj (labD P ops o u).gone (looksG ops o') = true := by
    intro o o' u hq
    rcases hq with q | q
    · have : (labD P ops o u).gone = [] := by
        unfold labD
        split
        · rfl
        · simp only [goneD]
          simp only [Bool.not_eq_true'] at q
          rw [q]; rfl
      rw [this]; rfl
    · refine disj_mono q (fun x hx => ?_) (fun x hx => hx)
      unfold labD at hx
      split at hx
      · cases hx
      · exact goneD_sub x hx
  refine ⟨⟨⟨⟨⟨⟨?_, hs.1⟩, hs.2⟩, goneS a b s h2⟩, goneS b a t h3⟩, ?_⟩, ?_⟩
  · rcases h1 with q | q
    · exact .inl (simpS_lab q)
    · exact .inr (simpS_lab q)
  · rcases h4 with (q | q) | q
    · rw [noBox_wr q]; rfl
    · rw [noBox_rd q]; exact disj_nil_right _
    · rw [noWr_wr q.1]; rfl
  · rcases h4 with (q | q) | q
    · rw [noBox_rd q]; exact disj_nil_right _
    · rw [noBox_wr q]; rfl
    · rw [noWr_wr q.2]; rfl
theorem Rel.drew {C w0 h0 ow0 r0 n s a w h ow ρ} (r : Rel C w0 h0 ow0 r0 n s a w h ow ρ) : Rel C w0 h0 ow0 r0 n s a { w with drawn := w.drawn + 1 } h ow ρ := by
  have hst : Stable w h { w with drawn := w.drawn + 1 } h := ⟨fun _ => Nat.le_refl _, fun _ _ _ => rfl, fun b cs T f q => ⟨cs, f, q, rfl⟩⟩
  refine ⟨⟨r.glob.nb, r.glob.eq⟩, ⟨⟨r.fr.st.mono, r.fr.st.cell, r.fr.st.keep⟩, r.fr.size, r.fr.os, r.fr.tape, r.fr.output, r.fr.keep⟩, ⟨r.hr.len, fun id box b h1 h2 hne => ?_, r.hr.lt, r.hr.hz⟩, r.defers, r.size, fun i => ?_, r.dom, r.pre⟩
  · obtain ⟨p1, p2, cs, T, hh, hl0, hrr⟩ := r.hr.box id box b h1 h2 hne
    exact ⟨p1, p2, cs, T, hh, hl0, RepDs.step hst (fun _ _ h => h) box _ _ 0 _ (fun g p ho => ⟨rfl, rfl, ho⟩) hrr⟩
  · exact RepD.step hst (fun _ _ h => h) _ _ _ _ (fun g p ho => ⟨rfl, rfl, ho⟩) (r.tm i)
theorem LChain.lab {C n ops F} : ∀ {l : List Nat} {s s' : St}, LChain C n ops F l s s' → ∀ i ∈ l, ∃ o t, ops[i]? = some o ∧ F i = labD C.P ops o t
  | [], s, s', e, i, hi => by simp at hi
  | j :: l, s, s', e, i, hi => by
    obtain ⟨o, s1, h1, h2, h3, h4⟩ := e
    rcases List.mem_cons.1 hi with q | q
    · subst q; exact ⟨o, s, h1, h2.symm⟩
    · exact LChain.lab h4 i q
theorem drawTo_ok {C w0 h0 ow0 r0 n} {id : Nat} {ops : List Oper} {s s' : St} (e : drawTo C n ops s s') {Q : Exit → Act → World → Prop} (hK : Good C w0 h0 ow0 r0 n s' (Q .normal)) :
    Good C w0 h0 ow0 r0 n s (fun a w => (Code.region id ops.toArray true).wp C.P Q a w) := by
  obtain ⟨hm, hstat, labs, hlen, hch, hpair, hlow⟩ := e
  simp only [drawStat, Bool.and_eq_true] at hstat
  obtain ⟨hedge, hslots⟩ := hstat
  intro a w h ow ρ r
  refine wp_region_any hm ?_
  have hrem : remL ops.length (Array.replicate ops.length false) = List.range ops.length := by
    unfold remL
    rw [List.filter_eq_self]
    intro i hi
    have : i < ops.length := by simpa using hi
    simp [Array.getD_eq_getD_getElem?, this]
  have hsz : ops.toArray.size = ops.length := by simp
  have hlab : ∀ i, i < ops.length → ∃ t, labs.getD i emptyLab = labD C.P ops (opAt ops i) t := by
    intro i hi
    obtain ⟨o, t, q1, q2⟩ := hch.lab i (by simpa using hi)
    refine ⟨t, ?_⟩
    have : opAt ops i = o := by unfold opAt; rw [List.getD_eq_getElem?_getD, q1]; rfl
    rw [this]; exact q2
  have hun : ∀ i j, i < ops.length → j < i → ((masks ops).getD i 0).testBit j = false → (j, i) ∈ unord ops := by
    intro i j hi hj hb
    simp only [unord, List.mem_flatMap, List.mem_map, List.mem_filter, List.mem_range]
    exact ⟨i, hi, j, ⟨hj, by rw [hb]; rfl⟩, rfl⟩
  rw [hsz]
  refine draw_any (F := fun i => labs.getD i emptyLab) (L0 := s.hp.length) ?_ ?_ ?_ ?_ hK ops.length (Array.replicate ops.length false) s (by simp) ?_ (by rw [hrem]; exact hch) (by rw [hrem]; simp) (Nat.le_refl _) a _ h ow ρ r.drew
  · intro i o ho j hj
    have hi := (List.getElem?_eq_some_iff.1 ho).1
    have := List.all_eq_true.1 hedge i (by simpa using hi)
    rw [ho] at this
    simp only [Option.map_some, Option.getD_some] at this
    have := List.all_eq_true.1 this j hj
    simpa using this
  · intro i j hi hj
    rcases hb : ((masks ops).getD i 0).testBit j with _ | _
    · refine .inr ?_
      have hp := hun i j hi hj hb
      have hsl := List.all_eq_true.1 hslots _ hp
      obtain ⟨t1, e1⟩ := hlab j (by omega)
      obtain ⟨t2, e2⟩ := hlab i hi
      by_cases hf : freeS ops (opAt ops j) (opAt ops i) = true
      · show compat2 (labs.getD j emptyLab) (labs.getD i emptyLab) = true
        rw [e1, e2]; exact compat2_of (free_compat hsl hf)
      · have := pairsOK2_spec (hpair.elim pairsOK2_of And.left) (j, i) (by simp only [dynPairs, List.mem_filter]; exact ⟨hp, by simpa using hf⟩)
        have this : (compatDyn (labs.getD j emptyLab) (labs.getD i emptyLab) || compatAdd (labs.getD j emptyLab) (labs.getD i emptyLab)) = true := this
        show compat2 (labs.getD j emptyLab) (labs.getD i emptyLab) = true
        simp only [slotsS, Bool.and_eq_true] at hsl
        rw [e1, e2] at this ⊢
        rw [compat2, this]
        simp only [Bool.and_eq_true, lab_dst, lab_looks]
        exact ⟨⟨hsl.1, hsl.2⟩, trivial⟩
    · exact .inl rfl
  · rcases hpair with hpair | hpair
    rotate_left
    · exact .inr hpair.2
    refine .inl ?_
    intro i j hi hj
    rcases hb : ((masks ops).getD i 0).testBit j with _ | _
    · refine .inr ?_
      have hp := hun i j hi hj hb
      have hsl := List.all_eq_true.1 hslots _ hp
      obtain ⟨t1, e1⟩ := hlab j (by omega)
      obtain ⟨t2, e2⟩ := hlab i hi
      by_cases hf : freeS ops (opAt ops j) (opAt ops i) = true
      · show compat (labs.getD j emptyLab) (labs.getD i emptyLab) = true
        rw [e1, e2]; exact free_compat hsl hf
      · have := pairsOK_spec hpair (j, i) (by simp only [dynPairs, List.mem_filter]; exact ⟨hp, by simpa using hf⟩)
        have this : compatDyn (labs.getD j emptyLab) (labs.getD i emptyLab) = true := this
        show compat (labs.getD j emptyLab) (labs.getD i emptyLab) = true
        simp only [slotsS, Bool.and_eq_true] at hsl
        rw [e1, e2] at this ⊢
        simp only [compat, Bool.and_eq_true, lab_dst, lab_looks]
        exact ⟨⟨hsl.1, hsl.2⟩, this⟩
    · exact .inl rfl
  · intro i j hi hj hb hs k hk
    have hp := hun i j hi hj hb
    by_cases hn : noBoxS (opAt ops i) = true
    · obtain ⟨t2, e2⟩ := hlab i hi
      have hk : k ∈ (labs.getD i emptyLab).rd := hk
      rw [e2, noBox_rd hn] at hk
      cases hk
    · refine lowOK_spec hlow i ?_ k hk
      simp only [lowIdx, List.mem_eraseDups, List.mem_filter, List.mem_map]
      exact ⟨⟨(j, i), hp, rfl⟩, by simpa using hn⟩
  · intro i o ho hl
    have : (Array.replicate ops.length false).getD i false = false := by
      rw [Array.getD_eq_getD_getElem?]
      by_cases hi : i < ops.length <;> simp [hi]
    have hl : (Array.replicate ops.length false).getD i false = true := hl
    rw [this] at hl
    cases hl
def opsLab (C : Ctx) (n : Nat) (ops : List Oper) : List Oper → List Lab → (List Lab → St → Prop) → St → Prop
  | [], acc, k, s => k acc s
  | o :: rest, acc, k, s => match o.guard with
    | none => dstOk n o.dst = true ∧ opWp C n (takes ops o) o (opsLab C n ops rest (acc ++ [labD C.P ops o s]) k) s
    | some (j, want) => match (ops[j]?).bind (·.dst) with
      | some t => match s.tm t with
        | .p (.bool b) => dstOk n o.dst = true ∧ IfGoal (b == want) (opWp C n (takes ops o) o (opsLab C n ops rest (acc ++ [labD C.P ops o s]) k)) (fun s' => opsLab C n ops rest (acc ++ [labD C.P ops o s]) k (s'.put o.dst .ud)) s
        | .ud => dstOk n o.dst = true ∧ opsLab C n ops rest (acc ++ [labD C.P ops o s]) k (s.put o.dst .ud)
        | _ => False
      | none => False
def LabGoal (ps : List (Nat × Nat)) (ls : List Nat) (m : Nat) (k : St → Prop) (labs : List Lab) (s : St) : Prop := pairsOK labs ps ∧ lowOK m labs ls ∧ k s
def LabGoal2 (ps : List (Nat × Nat)) (ls : List Nat) (m : Nat) (k : St → Prop) (labs : List Lab) (s : St) : Prop := pairsOK2 labs ps ∧ lowOK m labs ls ∧ s.hp.length ≤ m + 1 ∧ k s
def drawWp (C : Ctx) (n : Nat) (ops : List Oper) (k : St → Prop) (s : St) : Prop :=
  C.P.follows .mixedOrders = true ∧ drawStat ops = true ∧ (opsLab C n ops ops [] (LabGoal (dynPairs ops) (lowIdx ops) s.hp.length k) s ∨ opsLab C n ops ops [] (LabGoal2 (dynPairs ops) (lowIdx ops) s.hp.length k) s)
theorem drawWp.intro {C n} {ops : List Oper} {k : St → Prop} {s : St} (ps : List (Nat × Nat)) (ls : List Nat) (h1 : C.P.follows .mixedOrders = true) (h2 : drawStat ops = true) (h3 : dynPairs ops = ps) (h4 : lowIdx ops = ls)
    (h : opsLab C n ops ops [] (LabGoal ps ls s.hp.length k) s) : drawWp C n ops k s := by subst h3; subst h4; exact ⟨h1, h2, .inl h⟩
theorem drawWp.intro2 {C n} {ops : List Oper} {k : St → Prop} {s : St} (ps : List (Nat × Nat)) (ls : List Nat) (h1 : C.P.follows .mixedOrders = true) (h2 : drawStat ops = true) (h3 : dynPairs ops = ps) (h4 : lowIdx ops = ls)
    (h : opsLab C n ops ops [] (LabGoal2 ps ls s.hp.length k) s) : drawWp C n ops k s := by subst h3; subst h4; exact ⟨h1, h2, .inr h⟩
theorem opsLab_to {C n} {ops : List Oper} : ∀ {l : List Oper} {acc : List Lab} {k s} (pre : List Oper), ops = pre ++ l → acc.length = pre.length → opsLab C n ops l acc k s →
    ∃ s' labs, labs.length = ops.length ∧ (∀ i, i < acc.length → labs[i]? = acc[i]?) ∧ LChain C n ops (fun i => labs.getD i emptyLab) (List.range' pre.length l.length) s s' ∧ k labs s'
  | [], acc, k, s, pre, hops, hacc, e => ⟨s, acc, by rw [hops]; simp [hacc], fun _ _ => rfl, rfl, e⟩
  | o :: rest, acc, k, s, pre, hops, hacc, e => by
    have step : ∀ s1, gstep C n ops o s s1 → opsLab C n ops rest (acc ++ [labD C.P ops o s]) k s1 →
        ∃ s' labs, labs.length = ops.length ∧ (∀ i, i < acc.length → labs[i]? = acc[i]?) ∧ LChain C n ops (fun i => labs.getD i emptyLab) (List.range' pre.length (o :: rest).length) s s' ∧ k labs s' := by
      intro s1 hg h2
      obtain ⟨s', labs, q1, q2, q3, q4⟩ := opsLab_to (pre ++ [o]) (by rw [hops]; simp) (by simp [hacc]) h2
      refine ⟨s', labs, q1, fun i hi => by rw [q2 i (by simp; omega), List.getElem?_append_left hi], ?_, q4⟩
      simp only [List.length_cons, List.range'_succ]
      refine ⟨o, s1, by rw [hops]; simp, ?_, hg, by simpa using q3⟩
      have := q2 acc.length (by simp)
      show _ = labs.getD pre.length emptyLab
      rw [List.getD_eq_getElem?_getD, ← hacc, this]
      simp
    simp only [opsLab] at e
    split at e
    · rename_i hg
      obtain ⟨hd, e⟩ := e
      obtain ⟨s1, h1, h2⟩ := opWp_to hd e
      exact step s1 ⟨true, by simp [guardD, hg], hd, by simpa using h1⟩ h2
    · rename_i j want hg
      split at e
      · rename_i t ht
        split at e
        · rename_i b hb
          obtain ⟨hd, e⟩ := e
          have hgd : guardD ops.toArray o s = some (b == want) := by
            simp only [guardD, hg, List.getElem?_toArray, ht, hb]
          rcases hbw : (b == want) with _ | _
          · rw [hbw, IfGoal_false] at e
            exact step _ ⟨false, by rw [hgd, hbw], hd, by simp⟩ e
          · rw [hbw, IfGoal_true] at e
            obtain ⟨s1, h1, h2⟩ := opWp_to hd e
            exact step s1 ⟨true, by rw [hgd, hbw], hd, by simpa using h1⟩ h2
        · rename_i hb
          obtain ⟨hd, e⟩ := e
          have hgd : guardD ops.toArray o s = some false := by
            simp only [guardD, hg, List.getElem?_toArray, ht, hb]
          exact step _ ⟨false, hgd, hd, by simp⟩ e
        · exact e.elim
      · exact e.elim
theorem drawWp_to {C n} {ops : List Oper} {k : St → Prop} {s : St} (e : drawWp C n ops k s) : ∃ s', drawTo C n ops s s' ∧ k s' := by
  obtain ⟨h1, h2, h3 | h3⟩ := e
  · obtain ⟨s', labs, q1, q2, q3, q4, q5, q6⟩ := opsLab_to [] rfl rfl h3
    refine ⟨s', ⟨h1, h2, labs, q1, ?_, .inl q4, q5⟩, q6⟩
    rw [List.range_eq_range']
    exact q3
  · obtain ⟨s', labs, q1, q2, q3, q4, q5, q7, q6⟩ := opsLab_to [] rfl rfl h3
    refine ⟨s', ⟨h1, h2, labs, q1, ?_, .inr ⟨q4, q7⟩, q5⟩, q6⟩
    rw [List.range_eq_range']
    exact q3
end Go.Proofs.Dm
