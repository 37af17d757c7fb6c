/- ShapeAny, the second form: the Go function returns true whatever the input is, and it reads as it did. Conditions: the row's own (the two tables of unicode/utf8 start as the program's text lays them), and what it reads is of bulk at most 1048576. -/
import Derived.Test.YtbijhjleceeogaaDoorRows
import Derived.Test.YtbijhjleceeogaaDoorTie
import Derived.Test.YtbijhjleceeogaaDoorCards
import Derived.Test.YtbijhjleceeogaaDoorDq
import Derived.Test.YtbijhjleceeogaaDoorVj
import Derived.Lib.LaidIn
import Derived.Lib.LaidU8T
import Derived.Deep.DeepHandedRow
import Derived.Deep.DeepWitnessRowRef
import Derived.WalkKit
import Derived.ProofKit
import Derived.OpenShut
import Derived.ShutString
namespace Go.Proofs.YtbijhjleceeogaaDoor.shapeAny
open Go.ChangeShapes Go.WideShapes Go.ChangeAt Go.RowKit Go.Proofs.Dm Go.Shelf Go.Lib Go.Joins
open Go.ChangeMaps (open_string shut_string)
open Go.Proofs.Tryd Go.Proofs.Dm.Sc
set_option linter.unusedVariables false
theorem own : ownKnob Tryd.prog.godebug = none := by kernel_rfl
theorem kids : Kids Tryd.prog (· < Tryd.prog.types.size) := kids_rows (by kernel_rfl) (by kernel_rfl)
def szOk (P : Program) : Bool := (List.range P.types.size).all fun t => match P.underlying t with
  | some (.slice e) => decide (0 < P.cellsOf e)
  | _ => true
theorem hsz {t e : TypeId} (ht : t < Tryd.prog.types.size) (hu : Tryd.prog.underlying t = some (.slice e)) : 0 < Tryd.prog.cellsOf e := by
  have h : szOk Tryd.prog = true := by kernel_rfl
  have := List.all_eq_true.1 h t (List.mem_range.2 ht)
  rw [hu] at this
  simpa using this
/-- The witness: the settled world, the two variables holding what their initialisers lay. -/
noncomputable def laidWorld (os : Os) : World :=
  let w0 := World.holding Tryd.prog os ⟨#[], #[], []⟩
  let put (h : Array Obj) (g : Nat) (cs : Array Value) : Array Obj := h.modify g fun
    | .cells _ t frozen => .cells cs t frozen
    | o => o
  let h1 := put w0.heap 0 (Lib.firstTab.map fun z => Value.int .u8 z).toArray
  let h2 := put h1 1 ((List.range 16).flatMap fun i => [Value.int .u8 (Lib.accLo i), Value.int .u8 (Lib.accHi i)]).toArray
  { w0 with heap := h2 }
theorem first_eq : Rows.laid_unicode_utf8_first = Lib.firstData := by kernel_rfl
theorem accept_eq : (Rows.laid_unicode_utf8_acceptRanges : DataW Unit) = Lib.acceptData := by kernel_rfl
theorem laid_met (os : Os) (args : Array Value) : laidMet Tryd.prog Rows.shapeAnyUptoRow.laid ((laidWorld os).forCall (fun _ _ => 0) ⟨#[], args, []⟩).memory :=
  (LaidIn.of_run (l := [("unicode/utf8.acceptRanges", Rows.laid_unicode_utf8_acceptRanges), ("unicode/utf8.first", Rows.laid_unicode_utf8_first)]) [1, 0] 8 (by kernel_rfl) (by kernel_rfl) (by kernel_rfl) (by kernel_rfl)).met
set_option maxRecDepth 100000 in
theorem witness_row (os : Os) {H : Type} (enc : TypeId × Value → H) :
    (Rows.OpenSpec.upto Rows.shapeAnySpec).preRow enc Tryd.prog Tryd.f3 Rows.shapeAnyUptoRow.domain false Rows.shapeAnyUptoRow.laid ((laidWorld os).forCall (fun _ _ => 0) ⟨#[], #[.agg #[.int .i64 0, .int .i64 0, .slice none 0 0], .slice none 0 0], []⟩).memory #[.agg #[.int .i64 0, .int .i64 0, .slice none 0 0], .slice none 0 0] := by
  have hw : (DataW.whole enc Tryd.prog ((laidWorld os).forCall (fun _ _ => 0) ⟨#[], #[.agg #[.int .i64 0, .int .i64 0, .slice none 0 0], .slice none 0 0], []⟩).memory Tryd.f3.params.toList (Rows.OpenSpec.upto Rows.shapeAnySpec).vars false #[Value.agg #[.int .i64 0, .int .i64 0, .slice none 0 0], Value.slice none 0 0].toList 8).map (fun x => (x.1, x.2.1)) =
      some ([.agg [.lit (.int .i64 0), .lit (.int .i64 0), .nil], .nil], []) := by kernel_rfl
  obtain ⟨⟨x1, x2, x3⟩, hx, hx1⟩ := Option.map_eq_some_iff.1 hw
  simp only [Prod.mk.injEq] at hx1
  obtain ⟨rfl, rfl⟩ := hx1
  exact OpenSpec.preRow_of_cond 8 hx (by kernel_rfl) (fun k hk => by cases hk; kernel_rfl) (by kernel_rfl) (laid_met os _)
theorem two_le {w : World} (hT : Lib.Utf8Tabs 0 1 w) : 2 ≤ w.heap.size := by
  have := (hT.2 0 (by decide)).1
  rcases Nat.lt_or_ge 1 w.heap.size with h | h
  · exact h
  · simp only [World.cell?] at this
    rw [Array.getElem?_eq_none h] at this
    cases this
theorem bulk_le {H : Type} : ∀ {l : List (DataW H)} {d : DataW H}, d ∈ l → Rows.uptoBulk d ≤ Rows.uptoBulkAll l
  | [], d, h => by cases h
  | x :: r, d, h => by
    simp only [Rows.uptoBulkAll]
    rcases List.mem_cons.1 h with e | e
    · subst e; omega
    · have := bulk_le e; omega
theorem one_le {H : Type} (d : DataW H) : 1 ≤ Rows.uptoBulk d := by
  cases d with
  | lit l => cases l <;> simp [Rows.uptoBulk]
  | _ => simp [Rows.uptoBulk]
theorem len_le {H : Type} : ∀ (l : List (DataW H)), l.length ≤ Rows.uptoBulkAll l
  | [] => Nat.le_refl _
  | x :: r => by
    have := one_le x
    have := len_le r
    simp only [Rows.uptoBulkAll, List.length_cons]; omega
theorem small_le {B C : Nat} (h : B ≤ C) {nd : Nd} (q : Gr.Small B nd) : Gr.Small C nd := by
  induction q with
  | mk h1 h2 ih => exact .mk (by omega) ih
theorem encNs_map : ∀ ks : List Nd, encNs ks = ks.map encN
  | [] => rfl
  | k :: ks => by simp only [encNs, List.map_cons, encNs_map ks]
theorem encN_len : ∀ o : Nd, (encN o).length = 3
  | .mk _ _ _ => rfl
theorem three {cs : List Value} (h : cs.length = 3) : ∃ a b c, cs = [a, b, c] := by
  rcases cs with _ | ⟨a, _ | ⟨b, _ | ⟨c, _ | ⟨d, r⟩⟩⟩⟩
  · simp at h
  · simp at h
  · simp at h
  · exact ⟨a, b, c, rfl⟩
  · simp at h
theorem five {cs : List Value} (h : cs.length = 5) : ∃ a b c d e, cs = [a, b, c, d, e] := by
  rcases cs with _ | ⟨a, _ | ⟨b, _ | ⟨c, _ | ⟨d, _ | ⟨e, _ | ⟨f, r⟩⟩⟩⟩⟩⟩
  · simp at h
  · simp at h
  · simp at h
  · simp at h
  · simp at h
  · exact ⟨a, b, c, d, e, rfl⟩
  · simp at h
theorem rowNode {H : Type} {enc : TypeId × Value → H} {W : World} : ∀ (N n : Nat) (cs : List Value) (x : DataW H × List MemPlace), SizeOf.sizeOf x.1 ≤ N → cs.length = 3 → DataW.trod enc Tryd.prog W 0 (fun _ => true) true n 24 cs = some x → ∃ nd : Nd, RepRow W (allMark W) (encN nd) (fun j => cs[j]?) ∧ Gr.Small (Rows.uptoBulk x.1) nd
  | 0, n, cs, x, hN, hl, h => by
    obtain ⟨xs, n', _, rfl, _, hlen, hf⟩ := DataW.trod_struct Tryd.underlying24 h
    simp only [DataW.agg.sizeOf_spec] at hN
    omega
  | N + 1, n, cs, x, hN, hl, h => by
    obtain ⟨xs, n', _, rfl, _, hlen, hf⟩ := DataW.trod_struct Tryd.underlying24 h
    obtain ⟨c0, c1, c2, rfl⟩ := three hl
    match xs, hlen with
    | [y0, y1, y2], _ =>
      have t0 := hf 0 _ rfl
      have t1 := hf 1 _ rfl
      have t2 := hf 2 _ rfl
      simp [show Tryd.prog.cellsOf 3 = 1 by kernel_rfl, show Tryd.prog.cellsOf 22 = 1 by kernel_rfl] at t0 t1 t2
      obtain ⟨a0, e0, _⟩ := DataW.trod_int Tryd.underlying3 t0
      obtain ⟨a1, e1, _⟩ := DataW.trod_int Tryd.underlying3 t1
      try simp at e0 e1
      subst e0; subst e1
      have hs2 : SizeOf.sizeOf y2.1 < SizeOf.sizeOf (DataW.agg (H := H) [y0.1, y1.1, y2.1]) := by
        simp only [DataW.agg.sizeOf_spec, List.cons.sizeOf_spec]; omega
      simp only [List.map_cons, List.map_nil] at hN
      obtain ⟨os, rb, hol, hob⟩ := rep_of_rowsC (k := 3) encN (.mk 0 0 []) Tryd.underlying22 (by kernel_rfl) (by decide) encN_len Rows.uptoBulk (fun es sp x hx => by have := bulk_le hx; simp only [Rows.uptoBulk]; omega) (fun es sp => by have := len_le es; simp only [Rows.uptoBulk]; omega)
        (fun nd m => Gr.Small m nd) (fun o m m' hm q => small_le hm q) (fun hl hs ht => rowNode N _ _ _ (by omega) hl ht) t2
      have hb2 : Rows.uptoBulk y2.1 ≤ Rows.uptoBulk (DataW.agg (H := H) [y0.1, y1.1, y2.1]) := by simp only [Rows.uptoBulk, Rows.uptoBulkAll]; omega
      refine ⟨.mk a0 a1 os, ?_, ?_⟩
      · simp only [encN, encNs_map, RepRow, Rep]
        refine ⟨⟨_, rfl, rfl⟩, ⟨_, rfl, rfl⟩, ⟨c2, rfl, ?_⟩, True.intro⟩
        simpa only [Rep] using rb
      · simp only [List.map_cons, List.map_nil]
        exact .mk (by omega) fun o ho => small_le hb2 (hob o ho)
theorem rowTok {H : Type} {enc : TypeId × Value → H} {W : World} {n : Nat} {cs : List Value} {x : DataW H × List MemPlace} (hl : cs.length = 5) (h : DataW.trod enc Tryd.prog W 0 (fun _ => true) true n 39 cs = some x) : ∃ o : Sc.Tok, RepRow W (allMark W) (Sc.encT o) (fun j => cs[j]?) ∧ o.text.size ≤ Rows.uptoBulk x.1 := by
  obtain ⟨xs, n', _, rfl, _, hlen, hf⟩ := DataW.trod_struct Tryd.underlying39 h
  obtain ⟨c0, c1, c2, c3, c4, rfl⟩ := five hl
  match xs, hlen with
  | [y0, y1, y2, y3, y4], _ =>
    have t0 := hf 0 _ rfl
    have t1 := hf 1 _ rfl
    have t2 := hf 2 _ rfl
    have t3 := hf 3 _ rfl
    have t4 := hf 4 _ rfl
    simp [show Tryd.prog.cellsOf 3 = 1 by kernel_rfl, show Tryd.prog.cellsOf 9 = 1 by kernel_rfl, show Tryd.prog.cellsOf 4 = 1 by kernel_rfl] at t0 t1 t2 t3 t4
    obtain ⟨a0, e0, _⟩ := DataW.trod_int Tryd.underlying3 t0
    obtain ⟨s1, e1, g1, _⟩ := DataW.trod_string Tryd.underlying9 t1
    obtain ⟨a2, e2, _⟩ := DataW.trod_int Tryd.underlying3 t2
    obtain ⟨a3, e3, _⟩ := DataW.trod_int Tryd.underlying3 t3
    obtain ⟨b4, e4, _⟩ := DataW.trod_bool Tryd.underlying4 t4
    try simp at e0 e1 e2 e3 e4
    subst e0; subst e1; subst e2; subst e3; subst e4
    refine ⟨⟨a0, s1, a2, a3, b4⟩, by simp [Sc.encT, RepRow, Rep], ?_⟩
    have z1 : s1.size = s1.data.toList.length := Lib.size_eq s1
    simp only [List.map_cons, List.map_nil, g1, Rows.uptoBulk, Rows.uptoBulkAll]
    omega
theorem repds {W : World} {ρ : List Nat} {O : Nat → List Nat → Prop} : ∀ (ps : List PD) (vs : List Value) (k : Nat), ps.length = vs.length → RepRow W (allMark W) ps (fun j => vs[j]?) → RepDs W (allMark W) ρ (ps.map .p) O k vs
  | [], [], k, _, _ => by simp [RepDs]
  | [], v :: vs, k, h, _ => by simp at h
  | p :: ps, [], k, h, _ => by simp at h
  | p :: ps, v :: vs, k, h, r => by
    simp only [RepRow] at r
    obtain ⟨⟨u, hu, hr⟩, r2⟩ := r
    have hu' : v = u := by simpa using hu
    subst hu'
    simp only [List.map_cons, RepDs, RepD]
    exact ⟨_, _, rfl, hr, repds ps vs (k + 1) (by simpa using h) (by simpa using r2)⟩
theorem walk (nd : Nd) (l : List Sc.Tok) (B : Nat) (va : Array Value) (vb : Value) (w : World) (hT : Lib.Utf8Tabs 0 1 w) (ha : va.toList.length = 3) (hr : RepRow w (allMark w) (encN nd) (fun j => va.toList[j]?)) (hb : Rep w (allMark w) (.sl 5 (l.map Sc.encT)) vb) (hl : l.length < 2000000) (hs : ∀ t ∈ l, t.text.size ≤ 2000000) (hB : B < 2000000) (hS : Gr.Small B nd) :
    Calls Tryd.prog 3 #[.agg va, vb] w fun e w' => e = .returned (.bool true) ∧ Held w w' := by
  have := dcalls_law (vs := [.agg va, vb]) (Sh.any_ok (W0 := w) (nb := w.heap.size) (two_le hT) hT hs (by omega) (by omega) (by omega) hS) (by
    simp only [RepDs, RepD]
    exact ⟨_, _, rfl, ⟨va, rfl, repds _ _ _ (by rw [encN_len, ha]) hr⟩, _, _, rfl, hb, rfl⟩)
  simpa using this
set_option maxRecDepth 100000 in
set_option maxHeartbeats 2000000 in
theorem lifted (os : Os) (started : os.Started) (H : Type) (enc : TypeId × Value → H) (F : Stop.Interp) :
    ReturnsInHanded {} Tryd.checked os 3 .any ((Rows.OpenSpec.upto Rows.shapeAnySpec).preRow enc Tryd.prog Tryd.f3 Rows.shapeAnyUptoRow.domain false Rows.shapeAnyUptoRow.laid) (((Rows.OpenSpec.upto Rows.shapeAnySpec).at F).post enc Tryd.prog Tryd.f3 false true false false) := by
  refine returnsInHanded_of_row (C := Tryd.checked) (s := Rows.OpenSpec.upto Rows.shapeAnySpec) own started (by kernel_rfl) Tryd.func3
    (witness_row_atRef (enc := enc) (C := Tryd.checked) false (laidWorld os) #[.agg #[.int .i64 0, .int .i64 0, .slice none 0 0], .slice none 0 0] rfl (by kernel_rfl) (by kernel_rfl) (by kernel_rfl) (witness_row os enc)) ?_
  intro W base args ds gs before hval0 hW _ hcond _ hL _ _
  have hval : ∀ (j : Nat) t v, Tryd.f3.params[j]? = some t → args[j]? = some v → Value.okWide Tryd.prog W .any base t v := hval0
  have hbulk0 : Rows.uptoBulkAll (ds ++ gs) ≤ 1048576 := of_decide_eq_true (hcond _ rfl)
  have hW' := hW
  obtain ⟨p, q, hA0, hV, rfl, _, _⟩ := hW
  have hA : DataW.TrodAll enc Tryd.prog W 0 (fun _ => true) true Tryd.f3.params.toList args.toList ds p := hA0
  rw [Tryd.params3] at hA hval
  have hA1 := hA
  obtain ⟨v0, vs0, d0, ds0, p0, q0, hargs, rfl, rfl, h0, r0⟩ := trodAll_cons hA
  obtain ⟨v1, vs1, d1, ds1, p1, q1, rfl, rfl, rfl, h1, r1⟩ := trodAll_cons r0
  obtain ⟨rfl, rfl, rfl⟩ := trodAll_nil r1
  obtain rfl : args = #[v0, v1] := by cases args; simp_all
  obtain ⟨rfl, rfl⟩ := trodVars_none hV
  obtain ⟨va, rfl, hva⟩ := okWide_struct Tryd.underlying24 (hval 0 24 v0 rfl rfl)
  obtain ⟨fu, hfu⟩ := h0
  have hl3 : va.toList.length = 3 := by
    have : va.size = Tryd.prog.cellsOf 24 := hva
    rw [show Tryd.prog.cellsOf 24 = 3 by kernel_rfl] at this
    simpa using this
  obtain ⟨nd, rn, hsm⟩ := rowNode _ fu _ _ (Nat.le_refl _) (by simpa [Value.cells] using hl3) hfu
  simp only [Value.cells] at rn
  obtain ⟨fs, rb, hfl, hfb⟩ := rep_of_rowsB (k := 5) Sc.encT ⟨0, ⟨#[]⟩, 0, 0, false⟩ Tryd.underlying25 (by kernel_rfl) (by decide) (fun _ => rfl) Rows.uptoBulk (fun es sp x hx => by have := bulk_le hx; simp only [Rows.uptoBulk]; omega) (fun es sp => by have := len_le es; simp only [Rows.uptoBulk]; omega)
    (fun f => f.text.size) (fun hl h => rowTok hl h) (okWide_slice Tryd.underlying25 (hval 1 25 v1 rfl rfl)) h1
  have hd0 : Rows.uptoBulk d0 ≤ 1048576 := by
    simp only [List.cons_append, Rows.uptoBulkAll] at hbulk0
    omega
  have hd1 : Rows.uptoBulk d1 ≤ 1048576 := by
    simp only [List.cons_append, Rows.uptoBulkAll] at hbulk0
    omega
  clear hA0 hval0
  simp only [List.append_nil] at hW' hA1
  have htab : Lib.Utf8Tabs 0 1 W :=
    utf8Tabs_of_readsT (U8Types.of260 Tryd.lays260) ⟨by kernel_rfl, by kernel_rfl, by kernel_rfl, by kernel_rfl, by kernel_rfl, by kernel_rfl, by kernel_rfl⟩ (first_eq ▸ Lib.laidMet.reads hL (.tail _ (.head _))) (accept_eq ▸ Lib.laidMet.reads hL (.head _))
  refine (walk nd fs (Rows.uptoBulk d0) va v1 W htab hl3 rn rb (by omega) (fun f hf => by have h := hfb f hf; omega) (by omega) hsm).mono fun e W' ⟨he, hg⟩ => ?_
  subst he
  refine ⟨_, rfl, post_of_held (pa := _) (pv := []) hW' (fun _ _ _ => (trodAll_cons_mk (shut_bool Tryd.underlying4 _) trodAll_mk0)) (fun sp hs => trodAll_held kids hsz hg (by decide +kernel) hA1 (fun q hq => hs q hq)) (fun _ _ => rfl) (by simp)
    hg (ok_one (by kernel_rfl) rfl (okWide_bool_mk Tryd.underlying4 _))⟩
set_option maxRecDepth 100000 in
set_option maxHeartbeats 4000000 in
theorem over : Rows.ShapeAnyUptoSaid :=
  OpenClaim.holds_of_cond 3 Tryd.f3 rfl rfl rfl rfl rfl rfl rfl ⟨rfl, rfl, rfl, rfl, rfl⟩ rfl rfl rfl rfl rfl (by kernel_rfl) Tryd.func3 (by kernel_rfl)
    (of_decide_eq_true (by kernel_rfl)) (by unfold Func.isWrapper; first | (rw [if_pos (by decide +kernel)]; kernel_rfl) | (rw [if_neg (by decide +kernel)]; exact ⟨rfl, rfl⟩))
    (fun os started H enc _ F0 => by rw [OpenClaim.pre_eq_preRow]; exact lifted os started H enc F0)
set_option maxRecDepth 100000 in
set_option maxHeartbeats 4000000 in
/-- The statement. -/
theorem proved : Rows.ShapeAnyUptoCardSaid :=
  Claim7.holds_tied_plain_at .later [] [.data, .pinned] true (true, "65f5a817dc8dc4f26b02496bb87611424e2efc448219ab6e1d9b72d8223703f7") false
    over (fun _ h => by cases h) (by kernel_rfl) (fun _ h => by cases h) shapeAnyUpto_row_tie rfl ⟨rfl, rfl⟩ (by kernel_rfl) rfl
    (fun f fn hf hfn => by
      obtain rfl : f = 3 := Option.some.inj ((show Tryd.prog.funcNamed "recension/recensionlaw12.ShapeAny" = some 3 by kernel_rfl).symm.trans hf) |>.symm
      obtain rfl : fn = Tryd.f3 := (Option.some.inj (Tryd.func3.symm.trans hfn)).symm
      exact ⟨by kernel_rfl, fun j t ht => by
        rw [Tryd.params3] at ht
        have h9 : t = 24 ∨ t = 25 := by
          rcases j with _ | _ | j
          · left; simpa using ht.symm
          · right; simpa using ht.symm
          · simp at ht
        rcases h9 with rfl | rfl
        · exact (show Tryd.prog.wantsStandIn 24 = false by kernel_rfl)
        · exact (show Tryd.prog.wantsStandIn 25 = false by kernel_rfl)⟩)
    (by kernel_rfl)
#print axioms proved
end Go.Proofs.YtbijhjleceeogaaDoor.shapeAny
