/- JudgeSame, the second form: the Go function returns true whatever the input is, and it reads as it did. Conditions: the row's own (the two tables of unicode/utf8 start as the program's text lays them), and what it reads is of bulk at most 1048576. -/
import Derived.Test.YtmbnkgagicgcoaaDoorRows
import Derived.Test.YtmbnkgagicgcoaaDoorTie
import Derived.Test.YtmbnkgagicgcoaaDoorCards
import Derived.Test.YtmbnkgagicgcoaaDoorDm
import Derived.Test.YtmbnkgagicgcoaaDoorMU14
import Derived.Lib.LaidIn
import Derived.Lib.LaidU8T
import Derived.Deep.DeepHandedRow
import Derived.Deep.DeepWitnessRowRef
import Derived.WalkKit
import Derived.ProofKit
import Derived.OpenShut
import Derived.ShutString
namespace Go.Proofs.YtmbnkgagicgcoaaDoor.judgeSame
open Go.ChangeShapes Go.WideShapes Go.ChangeAt Go.RowKit Go.Proofs.Dm Go.Shelf Go.Lib Go.Joins
open Go.ChangeMaps (open_string shut_string)
set_option linter.unusedVariables false
theorem own : ownKnob Tryd.prog.godebug = none := by kernel_rfl
theorem kids : Kids Tryd.prog (· < Tryd.prog.types.size) := kids_rows (by kernel_rfl) (by kernel_rfl)
def szOk (P : Program) : Bool := (List.range P.types.size).all fun t => match P.underlying t with
  | some (.slice e) => decide (0 < P.cellsOf e)
  | _ => true
theorem hsz {t e : TypeId} (ht : t < Tryd.prog.types.size) (hu : Tryd.prog.underlying t = some (.slice e)) : 0 < Tryd.prog.cellsOf e := by
  have h : szOk Tryd.prog = true := by kernel_rfl
  have := List.all_eq_true.1 h t (List.mem_range.2 ht)
  rw [hu] at this
  simpa using this
/-- The witness: the settled world, the two variables holding what their initialisers lay. -/
noncomputable def laidWorld (os : Os) : World :=
  let w0 := World.holding Tryd.prog os ⟨#[], #[], []⟩
  let put (h : Array Obj) (g : Nat) (cs : Array Value) : Array Obj := h.modify g fun
    | .cells _ t frozen => .cells cs t frozen
    | o => o
  let h1 := put w0.heap 0 (Lib.firstTab.map fun z => Value.int .u8 z).toArray
  let h2 := put h1 1 ((List.range 16).flatMap fun i => [Value.int .u8 (Lib.accLo i), Value.int .u8 (Lib.accHi i)]).toArray
  { w0 with heap := h2 }
theorem first_eq : Rows.laid_unicode_utf8_first = Lib.firstData := by kernel_rfl
theorem accept_eq : (Rows.laid_unicode_utf8_acceptRanges : DataW Unit) = Lib.acceptData := by kernel_rfl
theorem laid_met (os : Os) (args : Array Value) : laidMet Tryd.prog Rows.judgeSameUptoRow.laid ((laidWorld os).forCall (fun _ _ => 0) ⟨#[], args, []⟩).memory :=
  (LaidIn.of_run (l := [("unicode/utf8.acceptRanges", Rows.laid_unicode_utf8_acceptRanges), ("unicode/utf8.first", Rows.laid_unicode_utf8_first)]) [1, 0] 8 (by kernel_rfl) (by kernel_rfl) (by kernel_rfl) (by kernel_rfl)).met
set_option maxRecDepth 100000 in
theorem witness_row (os : Os) {H : Type} (enc : TypeId × Value → H) :
    (Rows.OpenSpec.upto Rows.judgeSameSpec).preRow enc Tryd.prog Tryd.f5 Rows.judgeSameUptoRow.domain false Rows.judgeSameUptoRow.laid ((laidWorld os).forCall (fun _ _ => 0) ⟨#[], #[.string ⟨#[]⟩, .slice none 0 0, .int .i64 0, .bool false], []⟩).memory #[.string ⟨#[]⟩, .slice none 0 0, .int .i64 0, .bool false] := by
  have hw : (DataW.whole enc Tryd.prog ((laidWorld os).forCall (fun _ _ => 0) ⟨#[], #[.string ⟨#[]⟩, .slice none 0 0, .int .i64 0, .bool false], []⟩).memory Tryd.f5.params.toList (Rows.OpenSpec.upto Rows.judgeSameSpec).vars false #[Value.string ⟨#[]⟩, Value.slice none 0 0, Value.int .i64 0, Value.bool false].toList 8).map (fun x => (x.1, x.2.1)) =
      some ([.lit (.string []), .nil, .lit (.int .i64 0), .lit (.bool false)], []) := by kernel_rfl
  obtain ⟨⟨x1, x2, x3⟩, hx, hx1⟩ := Option.map_eq_some_iff.1 hw
  simp only [Prod.mk.injEq] at hx1
  obtain ⟨rfl, rfl⟩ := hx1
  exact OpenSpec.preRow_of_cond 8 hx (by kernel_rfl) (fun k hk => by cases hk; kernel_rfl) (by kernel_rfl) (laid_met os _)
theorem two_le {w : World} (hT : Lib.Utf8Tabs 0 1 w) : 2 ≤ w.heap.size := by
  have := (hT.2 0 (by decide)).1
  rcases Nat.lt_or_ge 1 w.heap.size with h | h
  · exact h
  · simp only [World.cell?] at this
    rw [Array.getElem?_eq_none h] at this
    cases this
theorem bulk_le {H : Type} : ∀ {l : List (DataW H)} {d : DataW H}, d ∈ l → Rows.uptoBulk d ≤ Rows.uptoBulkAll l
  | [], d, h => by cases h
  | x :: r, d, h => by
    simp only [Rows.uptoBulkAll]
    rcases List.mem_cons.1 h with e | e
    · subst e; omega
    · have := bulk_le e; omega
theorem one_le {H : Type} (d : DataW H) : 1 ≤ Rows.uptoBulk d := by
  cases d with
  | lit l => cases l <;> simp [Rows.uptoBulk]
  | _ => simp [Rows.uptoBulk]
theorem len_le {H : Type} : ∀ (l : List (DataW H)), l.length ≤ Rows.uptoBulkAll l
  | [] => Nat.le_refl _
  | x :: r => by
    have := one_le x
    have := len_le r
    simp only [Rows.uptoBulkAll, List.length_cons]; omega
theorem rowF {H : Type} {enc : TypeId × Value → H} {W : World} {n : Nat} {cs : List Value} {x : DataW H × List MemPlace} (hl : cs.length = 2) (h : DataW.trod enc Tryd.prog W 0 (fun _ => true) true n 39 cs = some x) : ∃ o : Ju.Fil, RepRow W (allMark W) (Ju.encF o) (fun j => cs[j]?) ∧ o.name.size + o.text.size ≤ Rows.uptoBulk x.1 := by
  obtain ⟨c0, c1, rfl⟩ : ∃ a b, cs = [a, b] := by
    rcases cs with _ | ⟨a, _ | ⟨b, _ | ⟨c, r⟩⟩⟩
    · simp at hl
    · simp at hl
    · exact ⟨a, b, rfl⟩
    · simp at hl
  obtain ⟨y0, y1, n', hx, _, t0, t1⟩ := trod_struct2 Tryd.underlying39 h
  rw [show Tryd.prog.cellsOf 9 = 1 by kernel_rfl] at t0 t1
  obtain ⟨s0, e0, g0, _⟩ := DataW.trod_string Tryd.underlying9 t0
  obtain ⟨s1, e1, g1, _⟩ := DataW.trod_string Tryd.underlying9 t1
  simp at e0 e1
  subst e0; subst e1
  refine ⟨⟨s0, s1⟩, by simp [Ju.encF, RepRow, Rep], ?_⟩
  rw [hx, g0, g1]
  have z0 : s0.size = s0.data.toList.length := Lib.size_eq s0
  have z1 : s1.size = s1.data.toList.length := Lib.size_eq s1
  simp only [Rows.uptoBulk, Rows.uptoBulkAll]
  omega
theorem walk (s : ByteArray) (fs : List Ju.Fil) (at_ : Int) (nm : Bool) (vb : Value) (w : World) (hT : Lib.Utf8Tabs 0 1 w) (hb : Rep w (allMark w) (.sl 2 (fs.map Ju.encF)) vb) (hl : fs.length < 2000000) (hs : ∀ f ∈ fs, f.name.size < 2000000 ∧ f.text.size < 2000000) :
    Calls Tryd.prog 5 #[.string s, vb, .int .i64 at_, .bool nm] w fun e w' => e = .returned (.bool true) ∧ Held w w' := by
  have := dcalls_law (vs := [.string s, vb, .int .i64 at_, .bool nm]) (Ju.judgeSame_ok (W0 := w) (nb := w.heap.size) (s := s) (fs := fs) (at_ := at_) (nm := nm) (two_le hT) hT hl hs) (by
    simp only [RepDs, RepD]
    exact ⟨_, _, rfl, by simp only [Rep], _, _, rfl, hb, _, _, rfl, by simp only [Rep], _, _, rfl, by simp only [Rep], rfl⟩)
  simpa using this
set_option maxRecDepth 100000 in
set_option maxHeartbeats 2000000 in
theorem lifted (os : Os) (started : os.Started) (H : Type) (enc : TypeId × Value → H) (F : Stop.Interp) :
    ReturnsInHanded {} Tryd.checked os 5 .any ((Rows.OpenSpec.upto Rows.judgeSameSpec).preRow enc Tryd.prog Tryd.f5 Rows.judgeSameUptoRow.domain false Rows.judgeSameUptoRow.laid) (((Rows.OpenSpec.upto Rows.judgeSameSpec).at F).post enc Tryd.prog Tryd.f5 false true false false) := by
  refine returnsInHanded_of_row (C := Tryd.checked) (s := Rows.OpenSpec.upto Rows.judgeSameSpec) own started (by kernel_rfl) Tryd.func5
    (witness_row_atRef (enc := enc) (C := Tryd.checked) false (laidWorld os) #[.string ⟨#[]⟩, .slice none 0 0, .int .i64 0, .bool false] rfl (by kernel_rfl) (by kernel_rfl) (by kernel_rfl) (witness_row os enc)) ?_
  intro W base args ds gs before hval0 hW _ hcond _ hL _ _
  have hval : ∀ (j : Nat) t v, Tryd.f5.params[j]? = some t → args[j]? = some v → Value.okWide Tryd.prog W .any base t v := hval0
  have hbulk0 : Rows.uptoBulkAll (ds ++ gs) ≤ 1048576 := of_decide_eq_true (hcond _ rfl)
  have hW' := hW
  obtain ⟨p, q, hA0, hV, rfl, _, _⟩ := hW
  have hA : DataW.TrodAll enc Tryd.prog W 0 (fun _ => true) true Tryd.f5.params.toList args.toList ds p := hA0
  rw [Tryd.params5] at hA hval
  have hA1 := hA
  obtain ⟨v0, vs0, d0, ds0, p0, q0, hargs, rfl, rfl, h0, r0⟩ := trodAll_cons hA
  obtain ⟨v1, vs1, d1, ds1, p1, q1, rfl, rfl, rfl, h1, r1⟩ := trodAll_cons r0
  obtain ⟨v2, vs2, d2, ds2, p2, q2, rfl, rfl, rfl, h2, r2⟩ := trodAll_cons r1
  obtain ⟨v3, vs3, d3, ds3, p3, q3, rfl, rfl, rfl, h3, r3⟩ := trodAll_cons r2
  obtain ⟨rfl, rfl, rfl⟩ := trodAll_nil r3
  obtain rfl : args = #[v0, v1, v2, v3] := by cases args; simp_all
  obtain ⟨rfl, rfl⟩ := trodVars_none hV
  obtain ⟨s, rfl, rfl, rfl, ws⟩ := open_string Tryd.underlying9 (hval 0 9 v0 rfl rfl) h0
  obtain ⟨fs, rb, hfl, hfb⟩ := rep_of_rowsB (k := 2) Ju.encF ⟨⟨#[]⟩, ⟨#[]⟩⟩ Tryd.underlying35 (by kernel_rfl) (by decide) (fun _ => rfl) Rows.uptoBulk (fun es sp x hx => by have := bulk_le hx; simp only [Rows.uptoBulk]; omega) (fun es sp => by have := len_le es; simp only [Rows.uptoBulk]; omega)
    (fun f => f.name.size + f.text.size) (fun hl h => rowF hl h) (okWide_slice Tryd.underlying35 (hval 1 35 v1 rfl rfl)) h1
  obtain ⟨at_, rfl, rfl, rfl, _⟩ := open_int Tryd.underlying3 (hval 2 3 v2 rfl rfl) h2
  obtain ⟨nm, rfl, rfl, rfl⟩ := open_bool Tryd.underlying4 (hval 3 4 v3 rfl rfl) h3
  have hd1 : Rows.uptoBulk d1 ≤ 1048576 := by
    simp only [List.cons_append, Rows.uptoBulkAll] at hbulk0
    omega
  clear hA0 hval0
  simp only [List.append_nil] at hW' hA1
  have htab : Lib.Utf8Tabs 0 1 W :=
    utf8Tabs_of_readsT (U8Types.of260 Tryd.lays260) ⟨by kernel_rfl, by kernel_rfl, by kernel_rfl, by kernel_rfl, by kernel_rfl, by kernel_rfl, by kernel_rfl⟩ (first_eq ▸ Lib.laidMet.reads hL (.tail _ (.head _))) (accept_eq ▸ Lib.laidMet.reads hL (.head _))
  refine (walk s fs at_ nm v1 W htab rb (by omega) (fun f hf => by have h := hfb f hf; omega)).mono fun e W' ⟨he, hg⟩ => ?_
  subst he
  refine ⟨_, rfl, post_of_held (pa := _) (pv := []) hW' (fun _ _ _ => (trodAll_cons_mk (shut_bool Tryd.underlying4 _) trodAll_mk0)) (fun sp hs => trodAll_held kids hsz hg (by decide +kernel) hA1 (fun q hq => hs q hq)) (fun _ _ => rfl) (by simp)
    hg (ok_one (by kernel_rfl) rfl (okWide_bool_mk Tryd.underlying4 _))⟩
set_option maxRecDepth 100000 in
set_option maxHeartbeats 4000000 in
theorem over : Rows.JudgeSameUptoSaid :=
  OpenClaim.holds_of_cond 5 Tryd.f5 rfl rfl rfl rfl rfl rfl rfl ⟨rfl, rfl, rfl, rfl, rfl⟩ rfl rfl rfl rfl rfl (by kernel_rfl) Tryd.func5 (by kernel_rfl)
    (of_decide_eq_true (by kernel_rfl)) (by unfold Func.isWrapper; first | (rw [if_pos (by decide +kernel)]; kernel_rfl) | (rw [if_neg (by decide +kernel)]; exact ⟨rfl, rfl⟩))
    (fun os started H enc _ F0 => by rw [OpenClaim.pre_eq_preRow]; exact lifted os started H enc F0)
set_option maxRecDepth 100000 in
set_option maxHeartbeats 4000000 in
/-- The statement. -/
theorem proved : Rows.JudgeSameUptoCardSaid :=
  Claim7.holds_tied_plain_at .later [] [.data, .pinned] true (true, "d059d75c7f32917816293341f9521c20bf00238bc58110e0034ef581509d7053") false
    over (fun _ h => by cases h) (by kernel_rfl) (fun _ h => by cases h) judgeSameUpto_row_tie rfl ⟨rfl, rfl⟩ (by kernel_rfl) rfl
    (fun f fn hf hfn => by
      obtain rfl : f = 5 := Option.some.inj ((show Tryd.prog.funcNamed "recension/recensionlaw28.JudgeSame" = some 5 by kernel_rfl).symm.trans hf) |>.symm
      obtain rfl : fn = Tryd.f5 := (Option.some.inj (Tryd.func5.symm.trans hfn)).symm
      exact ⟨by kernel_rfl, fun j t ht => by
        rw [Tryd.params5] at ht
        have h9 : t = 9 ∨ t = 35 ∨ t = 3 ∨ t = 4 := by
          rcases j with _ | _ | _ | _ | j
          · left; simpa using ht.symm
          · right; left; simpa using ht.symm
          · right; right; left; simpa using ht.symm
          · right; right; right; simpa using ht.symm
          · simp at ht
        rcases h9 with rfl | rfl | rfl | rfl
        · exact (show Tryd.prog.wantsStandIn 9 = false by kernel_rfl)
        · exact (show Tryd.prog.wantsStandIn 35 = false by kernel_rfl)
        · exact (show Tryd.prog.wantsStandIn 3 = false by kernel_rfl)
        · exact (show Tryd.prog.wantsStandIn 4 = false by kernel_rfl)⟩)
    (by kernel_rfl)
#print axioms proved
end Go.Proofs.YtmbnkgagicgcoaaDoor.judgeSame
