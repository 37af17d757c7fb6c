/- LayoutTurn: the Go function returns true whatever the arguments are. -/
import Derived.Test.YtmlhdhpjcipcdaaGreatDoorTie
import Derived.Test.YtmlhdhpjcipcdaaGreatDoorCards
import Derived.Test.YtmlhdhpjcipcdaaGreatDoorSt2
import Derived.Lib.LaidIn
import Derived.Lib.LaidU8T
import Derived.Deep.DeepWitnessRowRef
import Derived.ProofKit
import Derived.OpenShut
import Derived.ShutString
import Derived.Test.YtmlhdhpjcipcdaaGreatDoorQFa
import Derived.Test.YtmlhdhpjcipcdaaGreatDoorQFc
import Derived.Test.YtmlhdhpjcipcdaaGreatDoorQFd
import Derived.Test.YtmlhdhpjcipcdaaGreatDoorQLTuc
import Derived.Test.YtmlhdhpjcipcdaaGreatDoorQLTud
import Derived.Test.YtmlhdhpjcipcdaaGreatDoorQLTue
namespace Go.Proofs
open Go.Shelf
open Tryz
def Tryz.lays260_ren:Go.Shelf.Ren:=⟨fun | 260=>181 | n=>n,fun | 9=>9 | 21=>21 | 3=>3 | 4=>4 | 5=>5 | 119=>167 | 0=>0 | 46=>161 | 139=>170 | 138=>169 | n=>n,fun | 3=>0 | 4=>1 | n=>n⟩
theorem Tryz.lays260:Go.Proofs.Lays.n260 Tryz.prog Tryz.lays260_ren:={
 mixed:=by kernel_rfl
 f260:=func181.trans (congrArg some (by kernel_rfl))
 t0:=underlying0
 a0:=isAgg0
 z0:=sizeOf0
 v0:=zeroValue0
 t3:=underlying3
 a3:=isAgg3
 z3:=sizeOf3
 v3:=zeroValue3
 t4:=underlying4
 a4:=isAgg4
 z4:=sizeOf4
 v4:=zeroValue4
 t5:=underlying5
 a5:=isAgg5
 z5:=sizeOf5
 v5:=zeroValue5
 t9:=underlying9
 a9:=isAgg9
 z9:=sizeOf9
 v9:=zeroValue9
 t21:=underlying21
 a21:=isAgg21
 z21:=sizeOf21
 v21:=zeroValue21
 t46:=underlying161
 a46:=isAgg161
 z46:=sizeOf161
 v46:=zeroValue161
 t119:=underlying167
 a119:=isAgg167
 z119:=sizeOf167
 t138:=underlying169
 a138:=isAgg169
 z138:=sizeOf169
 v138:=zeroValue169
 t139:=underlying170
 a139:=isAgg170
 z139:=sizeOf170
 v139:=zeroValue170
 g3:=by kernel_rfl
 g4:=by kernel_rfl}
end Go.Proofs
set_option linter.unusedVariables false
namespace Go.Proofs.Dm
open Go Go.RowKit Go.ChangeShapes Go.WideShapes
def aM (W:World) (b:Nat):Nat:=match W.heap[b]? with
 | some (.cells cs _ _)=>cs.size
 | _=>0
structure Held (W W':World):Prop where
 size:W.heap.size<=W'.heap.size
 os:W'.os=W.os
 output:W'.output=W.output
 block:∀b,b < W.heap.size->W'.heap[b]? =W.heap[b]?
theorem Held.kept {W W':World} (h:Held W W') (may:MemPlace->Prop):W.keptBut W' may:=by
 refine⟨h.os,h.output,fun i hi=> ?_⟩;rw[h.block i hi];split
 ·rename_i c t fr c' t' fr' e1 e2;rw[e1]at e2;injection e2 with e2;injection e2 with q1 q2 q3
  subst q1;subst q2;subst q3;exact⟨rfl,rfl,rfl,fun _ _=>rfl⟩
 ·rename_i es cl es' cl' e1 e2;rw[e1]at e2;injection e2 with e2;injection e2 with q1 q2
  subst q1;subst q2;exact .inr ⟨rfl,rfl⟩
 ·rfl
theorem Held.frozen {W W':World} (h:Held W W') (a:Addr) (ha:a.block < W.heap.size):W'.frozen? a=W.frozen? a:=by
 simp only[World.frozen?,h.block a.block ha]
theorem Held.same {W W':World} (h:Held W W') (p:MemPlace) (hp:p.block < W.heap.size):W.sameAt W' p:=by
 cases p with
 | cell b off=>simp only[World.sameAt,World.cell?];rw[h.block b hp]
 | map b=>simp only[World.sameAt];exact h.block b hp
theorem dL {P:Program} {W:World} {f:FuncId} {args:List DV} {b:Bool} {bs':List (List DV)} (d:DCalls ⟨P,W,W.heap.size⟩ f args [] (.p (.bool b)) bs') {vs:List Value}
  (ha:RepDs W (aM W) [] args (fun _ _=>False) 0 vs):Calls P f vs.toArray W fun e w'=>e= .returned (.bool b)/\Held W w':=by
 have hHR:HR W (aM W) [] (fun _=>none) []:=⟨rfl,fun id box b h=>by simp at h,fun g hg=>absurd rfl hg,fun b hb=>by
  unfold aM;rw[Array.getElem?_eq_none hb]⟩
 have:=d.2 W (aM W) (fun _=>none) [] vs (RepDs.rename ha (fun g p h=>h.elim)) hHR ⟨Nat.le_refl _,fun b hb=>⟨rfl,rfl⟩⟩;refine this.mono fun e w' ⟨v,h',ow',ex,h1,h2,h3,h4⟩=>⟨by simp only[RepD,Rep]at h4;rw[h1,h4],h2.size,h2.os,h2.output,fun b hb=>(h2.keep b hb rfl).1⟩
section
variable {H:Type} {enc:TypeId×Value->H} {P:Program}
theorem tA {T:TypeId->Prop} {W W':World} {sp:Nat->Bool} (K:Kids P T) (hsz:∀{t e:TypeId},T t->P.underlying t=some (.slice e)->0 < P.cellsOf e) (hh:Held W W'):
  ∀{ts:List TypeId} {vs:List Value} {ds:List (DataW H)} {ps:List MemPlace},(∀t∈ts,T t)->DataW.TrodAll enc P W 0 (fun _=>true) true ts vs ds ps->(∀p∈ps,sp p.block=true)->DataW.TrodAll enc P W' 0 sp true ts vs ds ps
 | [],_,_,_,_,h,hs=>by
  obtain⟨rfl,rfl,rfl⟩:=trodAll_nil h;rfl
 | t::ts,_,_,_,ht,h,hs=>by
  obtain⟨v,vs1,d,ds1,a,b,rfl,rfl,rfl,⟨fuel,h1⟩,h2⟩:=trodAll_cons h;have hlt:=DataW.trod_lt _ _ _ _ h1;refine⟨a,b,⟨fuel,?_⟩,tA K hsz hh (fun u hu=>ht u (by simp[hu])) h2 (fun p hp=>hs p (by simp[hp])),rfl⟩;exact DataW.trod_stays K hsz (fun q=>by cases q) (ht t (by simp)) h1 (fun p hp=>hh.same p (hlt p hp)) (fun p hp=>hs p (by simp[hp]))
theorem pH {f:Func} {s:ChangeSpec} {apart fresh handsOn again:Bool} {W W':World} {args:Array Value} {v:Value} {ds gs:List (DataW H)} {before pa pv:List MemPlace}
  (hW:DataW.Whole enc P f.params.toList s.vars apart W args.toList ds gs before)
  (hres:∀(b:Nat) (sp:Nat->Bool) (hd:Bool),DataW.TrodAll enc P W' b sp hd f.resultTypes.toList (v.resultList f.resultTypes.size) (s.fn H (ds ++ gs)).results [])
  (hargs:∀sp:Nat->Bool,(∀p∈before,sp p.block=true)->DataW.TrodAll enc P W' 0 sp true f.params.toList args.toList (s.fn H (ds ++ gs)).args pa)
  (hvars:∀sp:Nat->Bool,(∀p∈before,sp p.block=true)->DataW.TrodVars enc P W' sp s.vars (s.fn H (ds ++ gs)).vars pv)
  (hps:before=pa ++ pv) (hh:Held W W')
  (hok:∀(j:Nat) (t:TypeId) (r:Value),f.resultTypes[j]? =some t->(v.resultList f.resultTypes.size)[j]? =some r->Value.okWide P W' .any 0 t r):
  s.post enc P f apart fresh handsOn again W args v W':=by
 have hlt:=fun p hp=>hW.lt p hp
 have hold:∀p∈before,(fun b=>decide (b < W.heap.size)) p.block=true:=fun p hp=>by simpa using hlt p hp
 refine⟨ds,gs,before,[],pa,pv,hW,hres _ _ _,hargs _ hold,hvars _ hold,World.keptBut_mono (fun p hp=>⟨hp,?_⟩) (hh.kept (·∈before)),fun _=> ?_⟩
 ·rw[hps,List.mem_append]at hp;exact Or.inr hp
 ·obtain⟨_,_,_,_,_,hz,hn⟩:=hW;refine⟨hok,_,_,([] ++ pa)++ pv,⟨[] ++ pa,pv,trodAll_append (hargs _ (fun _ _=>rfl)) (hres _ _ _),hvars _ (fun _ _=>rfl),rfl,?_,?_⟩,?_⟩
  ·intro b off hp;have hp':MemPlace.cell b off∈before:=by rw[hps];simpa using hp
   rw[hh.frozen _ (hlt _ hp')];exact hz b off hp'
  ·intro ha;have:=hn ha;rw[hps]at this;simpa using this
  ·intro p hp _;rw[hps];simpa using hp
end
end Go.Proofs.Dm
namespace Go.Proofs.YtmlhdhpjcipcdaaGreatDoor.layoutTurnRow
open Go Go.ChangeShapes Go.WideShapes Go.ChangeAt Go.RowKit
theorem g1:false=Rows.layoutTurnRow.goesBy Tryz.pinned.checked.prog:=by kernel_rfl
theorem g2:Rows.layoutTurnRow.wfByText (OpenSpec.ofChange Rows.layoutTurnSpec)=true:=by kernel_rfl
end Go.Proofs.YtmlhdhpjcipcdaaGreatDoor.layoutTurnRow
namespace Go.Proofs.YtmlhdhpjcipcdaaGreatDoor.layoutTurn
open Go.ChangeShapes Go.WideShapes Go.ChangeAt Go.RowKit Go.Proofs.Dm Go.Shelf Go.Lib
open Go.ChangeMaps (open_string shut_string)
set_option linter.unusedVariables false
theorem own:ownKnob Tryz.prog.godebug=none:=by kernel_rfl
theorem kids:Kids Tryz.prog (· < Tryz.prog.types.size):=kids_rows (by kernel_rfl) (by kernel_rfl)
def szOk (P:Program):Bool:=(List.range P.types.size).all fun t=>match P.underlying t with
 | some (.slice e)=>decide (0 < P.cellsOf e)
 | _=>true
theorem hsz {t e:TypeId} (ht:t < Tryz.prog.types.size) (hu:Tryz.prog.underlying t=some (.slice e)):0 < Tryz.prog.cellsOf e:=by
 have h:szOk Tryz.prog=true:=by kernel_rfl
 have:=List.all_eq_true.1 h t (List.mem_range.2 ht);rw[hu]at this;simpa using this
noncomputable def lW (os:Os):World:=
 let w0:=World.holding Tryz.prog os ⟨#[],#[],[]⟩
 let put (h:Array Obj) (g:Nat) (cs:Array Value):Array Obj:=h.modify g fun
  | .cells _ t frozen=> .cells cs t frozen
  | o=>o
 let h1:=put w0.heap 0 (Lib.firstTab.map fun z=>Value.int .u8 z).toArray
 let h2:=put h1 1 ((List.range 16).flatMap fun i=> [Value.int .u8 (Lib.accLo i),Value.int .u8 (Lib.accHi i)]).toArray
 {w0 with heap:=h2}
theorem first_eq:Rows.laid_unicode_utf8_first=Lib.firstData:=by kernel_rfl
theorem accept_eq:(Rows.laid_unicode_utf8_acceptRanges:DataW Unit)=Lib.acceptData:=by kernel_rfl
theorem laid_met (os:Os) (args:Array Value):laidMet Tryz.prog Rows.layoutTurnRow.laid ((lW os).forCall (fun _ _=>0) ⟨#[],args,[]⟩).memory:=
 (LaidIn.of_run (l:= [("unicode/utf8.acceptRanges",Rows.laid_unicode_utf8_acceptRanges),("unicode/utf8.first",Rows.laid_unicode_utf8_first)]) [1,0] 8 (by kernel_rfl) (by kernel_rfl) (by kernel_rfl) (by kernel_rfl)).met
set_option maxRecDepth 100000 in
theorem witness_row (os:Os) {H:Type} (enc:TypeId×Value->H):
  (OpenSpec.ofChange Rows.layoutTurnSpec).preRow enc Tryz.prog Tryz.f18 Rows.layoutTurnRow.domain false Rows.layoutTurnRow.laid ((lW os).forCall (fun _ _=>0) ⟨#[],#[.string ⟨#[]⟩,.int .i64 0,.int .i64 0],[]⟩).memory #[.string ⟨#[]⟩,.int .i64 0,.int .i64 0]:=by
 have hw : (DataW.whole enc Tryz.prog ((lW os).forCall (fun _ _ => 0) ⟨#[], #[.string ⟨#[]⟩, .int .i64 0, .int .i64 0], []⟩).memory Tryz.f18.params.toList (OpenSpec.ofChange Rows.layoutTurnSpec).vars false #[Value.string ⟨#[]⟩, Value.int .i64 0, Value.int .i64 0].toList 8).map (fun x => (x.1, x.2.1)) =
     some ([.lit (.string []),.lit (.int .i64 0),.lit (.int .i64 0)],[]):=by kernel_rfl
 obtain⟨⟨x1,x2,x3⟩,hx,hx1⟩:=Option.map_eq_some_iff.1 hw;simp only[Prod.mk.injEq]at hx1;obtain⟨rfl,rfl⟩:=hx1;exact OpenSpec.preRow_of_cond 8 hx (by kernel_rfl) (fun k hk=>by cases hk) (by kernel_rfl) (laid_met os _)
theorem two_le {w:World} (hT:Lib.Utf8Tabs 0 1 w):2<=w.heap.size:=by
 have:=(hT.2 0 (by decide)).1;rcases Nat.lt_or_ge 1 w.heap.size with h | h
 ·exact h
 ·simp only[World.cell?]at this;rw[Array.getElem?_eq_none h]at this;cases this
theorem walk (x0:ByteArray) (x1:Int) (x2:Int) (w:World) (hT:Lib.Utf8Tabs 0 1 w):
  Calls Tryz.prog 18 #[.string x0,.int .i64 x1,.int .i64 x2] w fun e w'=>e= .returned (.bool true)/\Held w w':=by
 have:=dL (vs:= [.string x0,.int .i64 x1,.int .i64 x2]) (Rf.layoutTurn_ok (W0:=w) (nb:=w.heap.size) (s:=x0) (at_:=x1) (which:=x2) (two_le hT) hT) (by
  simp only[RepDs,RepD];exact⟨_,_,rfl,by simp only[Rep],_,_,rfl,by simp only[Rep],_,_,rfl,by simp only[Rep],rfl⟩)
 simpa using this
set_option maxRecDepth 100000 in
set_option maxHeartbeats 2000000 in
theorem lifted (os:Os) (started:os.Started) (H:Type) (enc:TypeId×Value->H) (F:Stop.Interp):
  ReturnsInHanded {} Tryz.checked os 18 .any ((OpenSpec.ofChange Rows.layoutTurnSpec).preRow enc Tryz.prog Tryz.f18 Rows.layoutTurnRow.domain false Rows.layoutTurnRow.laid) (((OpenSpec.ofChange Rows.layoutTurnSpec).at F).post enc Tryz.prog Tryz.f18 false true false false):=by
 refine returnsInHanded_of_row (C:=Tryz.checked) (s:=OpenSpec.ofChange Rows.layoutTurnSpec) own started (by kernel_rfl) Tryz.func18
  (witness_row_atRef (enc:=enc) (C:=Tryz.checked) false (lW os) #[.string ⟨#[]⟩,.int .i64 0,.int .i64 0] rfl (by kernel_rfl) (by kernel_rfl) (by kernel_rfl) (witness_row os enc)) ?_
 intro W base args ds gs before hval0 hW _ _ _ hL _ _;have hval:∀(j:Nat) t v,Tryz.f18.params[j]? =some t->args[j]? =some v->Value.okWide Tryz.prog W .any base t v:=hval0;have hW':=hW;obtain⟨p,q,hA0,hV,rfl,_,_⟩:=hW;have hA:DataW.TrodAll enc Tryz.prog W 0 (fun _=>true) true Tryz.f18.params.toList args.toList ds p:=hA0;rw[Tryz.params18]at hA hval;have hA1:=hA;obtain⟨v0,vs0,d0,ds0,p0,q0,hargs,rfl,rfl,h0,r0⟩:=trodAll_cons hA;obtain⟨v1,vs1,d1,ds1,p1,q1,rfl,rfl,rfl,h1,r1⟩:=trodAll_cons r0;obtain⟨v2,vs2,d2,ds2,p2,q2,rfl,rfl,rfl,h2,r2⟩:=trodAll_cons r1;obtain⟨rfl,rfl,rfl⟩:=trodAll_nil r2;obtain rfl:args= #[v0,v1,v2]:=by cases args;simp_all
 obtain⟨rfl,rfl⟩:=trodVars_none hV;obtain⟨x0,rfl,rfl,rfl,_⟩:=open_string Tryz.underlying9 (hval 0 9 v0 rfl rfl) h0;obtain⟨x1,rfl,rfl,rfl,_⟩:=open_int Tryz.underlying3 (hval 1 3 v1 rfl rfl) h1;obtain⟨x2,rfl,rfl,rfl,_⟩:=open_int Tryz.underlying3 (hval 2 3 v2 rfl rfl) h2;clear hA0 hval0;simp only[List.append_nil]at hW' hA1;have htab:Lib.Utf8Tabs 0 1 W:=
  utf8Tabs_of_readsT (U8Types.of260 Tryz.lays260) ⟨by kernel_rfl,by kernel_rfl,by kernel_rfl,by kernel_rfl,by kernel_rfl,by kernel_rfl,by kernel_rfl⟩ (first_eq▸Lib.laidMet.reads hL (.tail _ (.head _))) (accept_eq▸Lib.laidMet.reads hL (.head _))
 refine(walk x0 x1 x2 W htab).mono fun e W' ⟨he,hg⟩=> ?_
 subst he;refine⟨_,rfl,pH (pa:=_) (pv:= []) hW' (fun _ _ _=>(trodAll_cons_mk (shut_bool Tryz.underlying4 _) trodAll_mk0)) (fun sp hs=>tA kids hsz hg (by decide +kernel) hA1 (fun q hq=>hs q hq)) (fun _ _=>rfl) (by simp)
  hg (ok_one (by kernel_rfl) rfl (okWide_bool_mk Tryz.underlying4 _))⟩
set_option maxRecDepth 100000 in
set_option maxHeartbeats 4000000 in
theorem over:Rows.LayoutTurnSaid:=by
 refine OpenClaim.holds_of_cond 18 Tryz.f18 rfl rfl rfl rfl rfl rfl rfl ⟨rfl,rfl,rfl,rfl,rfl⟩ rfl rfl rfl rfl rfl (by kernel_rfl) Tryz.func18 ?jf
  (of_decide_eq_true (by kernel_rfl)) (by unfold Func.isWrapper;first |(rw[if_pos (by decide +kernel)];kernel_rfl)|(rw[if_neg (by decide +kernel)];exact⟨rfl,rfl⟩))
  (fun os started H enc _ F0=>by rw[OpenClaim.pre_eq_preRow];exact lifted os started H enc F0)
 unfold joinedFacts
 repeat' (with_reducible refine(Bool.and_eq_true _ _).mpr ⟨?_,?_⟩)
 all_goals first | with_reducible exact facts.a1 | with_reducible exact facts.b1 | with_reducible exact facts.b2 | with_reducible exact facts.c1 | with_reducible exact layoutTurnRow.c2 | with_reducible exact layoutTurnRow.d1 | with_reducible exact layoutTurnRow.d2 | with_reducible exact layoutTurnRow.f1 | with_reducible exact layoutTurnRow.f2 | with_reducible exact layoutTurnRow.f3 | with_reducible exact layoutTurnRow.f4 | kernel_rfl
set_option maxRecDepth 100000 in
set_option maxHeartbeats 4000000 in
theorem proved:Rows.LayoutTurnCardSaid:=
 Claim7.holds_tied_plain_at .later [] [.data,.pinned] true (true, "f37745dba9c26587b558f43ca97f1ba7445e08bfb98746c70e9354807e23b08e") false
  over (fun _ h=>by cases h) layoutTurnRow.g2 (fun _ h=>by cases h) layoutTurn_row_tie rfl ⟨rfl,rfl⟩ facts.d1 rfl
  (fun f fn hf hfn=>by
   obtain rfl:f=18:=Option.some.inj ((show Tryz.prog.funcNamed "recension/recensionlaw18.LayoutTurn" =some 18 by kernel_rfl).symm.trans hf)|>.symm
   obtain rfl:fn=Tryz.f18:=(Option.some.inj (Tryz.func18.symm.trans hfn)).symm;exact⟨facts.e1,fun j t ht=>by
    rw[Tryz.params18]at ht;have h9:t=9∨t=3:=by
     rcases j with _ | _ | _ | j
     ·left;simpa using ht.symm
     ·right;simpa using ht.symm
     ·right;simpa using ht.symm
     ·simp at ht
    rcases h9 with rfl | rfl
    ·exact(show Tryz.prog.wantsStandIn 9=false by kernel_rfl)
    ·exact(show Tryz.prog.wantsStandIn 3=false by kernel_rfl)⟩)
  layoutTurnRow.g1
#print axioms proved
end Go.Proofs.YtmlhdhpjcipcdaaGreatDoor.layoutTurn
