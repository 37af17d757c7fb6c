/- Part of the proof: what the walked functions compute. No condition. -/
import Derived.Test.YtmlhdhpjcipcdaaGreatDoorLFz
import Derived.Test.YtmlhdhpjcipcdaaGreatDoorSa
import Derived.Test.YtmlhdhpjcipcdaaGreatDoorDo
import Derived.Test.YtmlhdhpjcipcdaaGreatDoorDn
import Derived.Test.YtmlhdhpjcipcdaaGreatDoorSd
import Derived.Lib.SliceRun
import Derived.Laws.Cover3
set_option linter.unusedSimpArgs false
set_option linter.unusedVariables false
set_option maxHeartbeats 4000000
set_option maxRecDepth 100000
namespace Go.Proofs
open Go Go.RowKit
namespace Dm.Ju
open Dm Dm.Sc
def tbox (l:List Tok):List DV:=flatP (l.map encT)
theorem tbox_cons (t:Tok) (l:List Tok):tbox (t::l)=(encT t).map .p ++ tbox l:=by simp[tbox,flatP_cons]
@[simp] theorem tbox_len (l:List Tok):(tbox l).length=l.length * 5:=by
 induction l with
 | nil=>rfl
 | cons t l ih=>rw[tbox_cons,List.length_append,ih];simp[encT];omega
theorem tbox_app (a b:List Tok):tbox (a ++ b)=tbox a ++ tbox b:=by
 induction a with
 | nil=>rfl
 | cons t a ih=>rw[List.cons_append,tbox_cons,tbox_cons,ih,List.append_assoc]
@[simp] theorem tbox_refs (l:List Tok):refsDs (tbox l)= []:=by
 induction l with
 | nil=>rfl
 | cons t l ih=>rw[tbox_cons];simp[encT,ih]
@[simp] theorem tbox_map (f:Nat→Nat) (l:List Tok):mapRefs f (tbox l)=tbox l:=by
 induction l with
 | nil=>rfl
 | cons t l ih=>rw[tbox_cons];simp[encT,ih]
@[simp] theorem tbox_own (l:List Tok):hasOwns (tbox l)=false:=by
 induction l with
 | nil=>rfl
 | cons t l ih=>rw[tbox_cons];simp[encT,ih]
@[simp] theorem tbox_solid (l:List Tok):solids (tbox l)=true:=by
 induction l with
 | nil=>rfl
 | cons t l ih=>rw[tbox_cons];simp[encT,ih]
@[simp] theorem tbox_fz (l:List Tok):fzs (tbox l)=tbox l:=by
 induction l with
 | nil=>rfl
 | cons t l ih=>rw[tbox_cons];simp[encT,ih]
@[simp] theorem tbox_nil (l:List Tok):(tbox l= [])=(l= []):=by
 cases l with
 | nil=>simp[tbox,flatP]
 | cons t l=>rw[tbox_cons];simp[encT]
theorem tbox_drop (l:List Tok) (i:Nat):(tbox l).drop (i * 5)=tbox (l.drop i):=by
 rcases Nat.lt_or_ge l.length i with h | h
 ·rw[List.drop_eq_nil_of_le (by simp;omega),List.drop_eq_nil_of_le (by omega)];rfl
 ·have:tbox l=tbox (l.take i)++ tbox (l.drop i):=by rw[←tbox_app,List.take_append_drop]
  rw[this,List.drop_append_of_le_length (by simp;omega),List.drop_eq_nil_of_le (by simp;omega)];rfl
theorem tbox_take (l:List Tok) (i:Nat):(tbox l).take (i * 5)=tbox (l.take i):=by
 rcases Nat.lt_or_ge l.length i with h | h
 ·rw[List.take_of_length_le (by simp;omega),List.take_of_length_le (by omega)]
 ·have:tbox l=tbox (l.take i)++ tbox (l.drop i):=by rw[←tbox_app,List.take_append_drop]
  rw[this,List.take_append_of_le_length (by simp;omega),List.take_of_length_le (by simp;omega)]
theorem tbox_at (l:List Tok) (i:Nat) (h:i < l.length):((tbox l).drop (i * 5)).take 5=(encT l[i]).map .p:=by
 rw[tbox_drop,List.drop_eq_getElem_cons h,tbox_cons];simp[encT]
theorem tbox_set (l:List Tok) (i:Nat) (t:Tok) (h:i < l.length):(tbox l).take (i * 5)++(encT t).map .p ++(tbox l).drop (i * 5 + 5)=tbox (l.set i t):=by
 rw[tbox_take,show i * 5 + 5=(i + 1)* 5 by omega,tbox_drop,List.set_eq_take_append_cons_drop,if_pos h,tbox_app,tbox_cons,List.append_assoc]
abbrev tk (l:List Tok):DV:= .p (.sl 5 (l.map encT))
end Dm.Ju
end Go.Proofs
set_option maxHeartbeats 4000000
set_option maxRecDepth 100000
namespace Go.Proofs
open Go Go.RowKit
set_option maxHeartbeats 4000000 in
theorem Tryz.clone_empty (a:Option Addr) (c:Nat) (ha:a=none→c=0) (w:World):
  Calls Tryz.prog 115 #[.slice a 0 c] w fun e w'=>∃v,e= .returned v∧(∃a' c',v= .slice a' 0 c'∧(a'=none→c'=0))∧Below w.heap.size w w':=by
 have q24:∀(w:World) (a:Option Addr) (n c n' c':Nat),(binOp .eql 27 (.slice a n c) (.slice none n' c')).run Tryz.prog w= .ok (.bool a.isNone) w:=fun w a n c n' c'=>Lib.run_eql_slice_nil w _ _ a n c n' c' Tryz.underlying27
 have happ:∀(w':World) (b:Addr),(Builtin.append_ #[27,27] 27 #[.slice (some b) 0 0,.slice a 0 c]).run Tryz.prog w'= .ok (.slice (some b) 0 0) w':=by
  intro w' b;cases a <;> simp[Builtin.append_,run_underlying Tryz.underlying27,Builtin.lenOf,Builtin.firstCells,Dm.tsz_spec (show Dm.tsz Tryz.prog 42=some 5 by simp),loadCells,storeCells]
  all_goals simp[loadCellsFrom,storeCells]
 go_enter Tryz.func115,Tryz.ntmps115
 cases a with
 | none=>
  go_wp2
  go_ret
  exact⟨_,rfl,⟨none,0,rfl,fun _=>rfl⟩,Below.refl _ _⟩
 | some a=>
  go_wp2
  go_ret
  exact⟨_,rfl,⟨_,0,rfl,fun _=>rfl⟩,(Below.refl _ w).alloc (Nat.le_refl _) _⟩
namespace Dm.Ju
open Dm Dm.Sc Go.Proofs.Tryz
attribute [local simp] takes handsOn isTmp Op.operands Call.operands
theorem isSemi_ok {W0 nb t}:DCalls ⟨Tryz.prog,W0,nb⟩ 116 [.agg ((encT t).map .p)] [] (.p (.bool (t.kind==6))) []:=by
 refine dcalls_end Tryz.func116 rfl (by kernel_rfl) 6 Tryz.ntmps116 #[.tmp 2] rfl (Nat.le_of_ble_eq_true rfl) ?_;simp[encT];exact .keep (by simp) (.refl _) (by simp) (by simp) (by simp) (by simp)
def semiAt:List Tok→Nat→Int
 | [],_=> -1
 | t::l,i=>if t.kind==6 then(i:Int)else semiAt l (i + 1)
theorem index_ok {W0 nb l} (hl:l.length < 100000000):DCalls ⟨Tryz.prog,W0,nb⟩ 159 [.arr 0 0 5 l.length,.fn 116 []] [tbox l] (i64 (semiAt l 0)) [tbox l]:=by
 obtain⟨R,hR⟩:∃R,semiAt l 0=R:=⟨_,rfl⟩
 rw[hR];refine dcalls_end Tryz.func159 rfl (by kernel_rfl) 19 Tryz.ntmps159 #[.tmp 4] rfl (Nat.le_of_ble_eq_true rfl) ?_;simp;refine⟨fun m st=>∃i,semiAt (l.drop i) i=R∧m=l.length - i∧i≤l.length∧st.hp= [tbox l]∧st.tm 0= .arr 0 0 5 l.length∧st.tm 1= .fn 116 []∧st.tm 7=i64 l.length∧st.tm 8=i64 (i:Nat),l.length,.here ⟨0,hR,by simp,by simp,by simp,by simp,by simp,by simp,by simp⟩,?_⟩;rintro m ⟨tm,hp⟩ ⟨i,h,rfl,hi,h0,h1,h2,h3,h4⟩;simp only at h0 h1 h2 h3 h4;subst h0;simp[h3,h4];rcases Nat.lt_or_ge i l.length with hlt | hge
 ·have hd:l.drop i=l[i]::l.drop (i + 1):=List.drop_eq_getElem_cons hlt;rw[hd]at h;simp only[semiAt]at h;have hw:=w64_id (n:=(i:Int)+ 1) (by omega) (by omega);simp only[w64]at hw;have hat:=tbox_at l i hlt;have hb:i * 5 + 5≤l.length * 5:=by omega
  have hne:l≠ []:=by rintro rfl;simp at hlt
  simp[hlt,h1,h2,h3,h4,hat,encT,hb,hne];refine CallGoal.same (isSemi_ok (t:=l[i])) ?_;simp;cases hq:l[i].kind==6 with
  | true=>
   rw[hq,if_pos rfl]at h;simp[←h];exact .keep (by simp) (.refl _) (by simp) (by simp) (by simp) (by simp)
  | false=>
   rw[hq]at h;simp only[Bool.false_eq_true,if_false]at h;simp[h1,h2,h3,h4,hw];exact .same (l.length -(i + 1)) (by omega) ⟨i + 1,h,rfl,by omega,by simp,by simp[h1],by simp[h2],by simp[h3],by simp[hw]⟩
 ·have hn:¬(i:Int)< l.length:=by omega
  have:i=l.length:=by omega
  subst this;simp[semiAt]at h;simp[←h];exact .keep (by simp) (.refl _) (by simp) (by simp) (by simp) (by simp)
theorem indexN_ok {W0 nb}:DCalls ⟨Tryz.prog,W0,nb⟩ 159 [.p (.sl 5 []),.fn 116 []] [] (i64 (-1)) []:=by
 refine dcalls_end Tryz.func159 rfl (by kernel_rfl) 19 Tryz.ntmps159 #[.tmp 4] rfl (Nat.le_of_ble_eq_true rfl) ?_;simp;refine⟨fun m st=>st.hp= []∧st.tm 7=i64 0∧st.tm 8=i64 0,1,.here ⟨by simp,by simp,by simp⟩,?_⟩;rintro m ⟨tm,hp⟩ ⟨h0,h3,h4⟩;simp only at h0 h3 h4;subst h0;simp[h3,h4];exact .keep (by simp) (.refl _) (by simp) (by simp) (by simp) (by simp)
end Dm.Ju
end Go.Proofs
set_option maxHeartbeats 4000000
namespace Go.Proofs.Dm
open Go Go.RowKit
theorem Gh.freeze {k0:Nat} {s:St} (t:Tmp) (id z n:Nat) (xs:List (List PD)) (h1:s.tm t= .arr id 0 z n) (h2:s.hp[id]? =some (flatP xs)) (h0z:0 < z) (h3:∀x∈xs,x.length=z) (h4:n=xs.length):
  Gh k0 s {s.put (some t) (.p (.sl z xs))with hp:=s.hp.set id []}:=by
 intro C w0 m0 ow0 r0 nt a w h ow ρ _ r;have ht:=r.tm t;rw[h1]at ht;simp only[RepD]at ht;obtain⟨b,hρ,hv⟩:=ht;have hdom:∀i,nt≤i→(({s.put (some t) (.p (.sl z xs))with hp:=s.hp.set id []}:St)).tm i= .un:=fun i hi=>by
  simp only[St.put];split
  ·rename_i e;subst e;rw[r.dom i hi]at h1;cases h1
  ·exact r.dom i hi
 have killed : ∀ (h' : Mark) (ow' : Own), (∀ i b', i ≠ id → ρ[i]? = some b' → ow b' = some (.box i) → ow' b' = some (.box i) ∧ h' b' = h b') → (∀ i q p, i ≠ id → ow q = some (.cell (i :: p)) → h' q = h q ∧ ow' q = some (.cell (i :: p))) → Stable w h w h' → (∀ g, ow' g ≠ none → ow g ≠ none) → (∀ b, w.heap.size ≤ b → h' b = 0) →
     HR w h' ρ ow' (s.hp.set id []):=by
   intro h' ow' q1 q2 hst q3 q4
   refine⟨by simp[r.hr.len],fun i bx b' g1 g2 hne=> ?_,fun g hg=>r.hr.lt g (q3 g hg),q4⟩
   have hid:i≠id:=by
     intro e;subst e
     rw[List.getElem?_set_self (List.getElem?_eq_some_iff.1 h2).1]at g1
     injection g1 with g1;exact hne g1.symm
   rw[List.getElem?_set_ne (fun e=>hid e.symm)]at g1
   obtain⟨p1,p2,cs,T,hh,hl,hrr⟩:=r.hr.box i bx b' g1 g2 hne
   obtain⟨k1,k2⟩:=q1 i b' hid g2 p1
   exact⟨k1,by rw[k2];exact p2,cs,T,hh,hl,RepDs.step hst (fun _ _ h=>h) bx _ _ 0 _ (fun q p ho=>⟨rfl,(q2 i q p hid ho).1,(q2 i q p hid ho).2⟩) hrr⟩
 by_cases hx:xs= []
 ·
  subst hx;refine⟨h,ow,ρ,r.glob,r.fr,killed h ow (fun i b' _ _ q=>⟨q,rfl⟩) (fun i q p _ ho=>⟨rfl,ho⟩) (Stable.refl w h) (fun g hg=>hg) r.hr.hz,r.defers,r.size,fun i=> ?_,hdom,r.pre⟩;simp only[St.put]
  by_cases hi:i=t
  ·rw[if_pos hi];simp only[RepD,Rep];subst hi;left;refine⟨trivial,?_⟩;rcases hv with ⟨_,a',c,q1,q2⟩ | ⟨cap,cs,T,f,q1,q2,_⟩
   ·exact⟨a',c,q1,q2⟩
   ·subst h4;exact⟨some ⟨b,0,none⟩,cap,q2,by simp⟩
  ·rw[if_neg hi];exact r.tm i
 ·have hxl:0 < xs.length:=List.length_pos_iff.2 hx;rcases hv with ⟨q,_⟩ | ⟨cap,cs0,T0,f0,q1,q2,q3,q4⟩
  ·omega
  have hne:flatP xs≠ []:=fun e=>by
   have:=flatP_len h3;rw[e,List.length_nil]at this;have:=Nat.mul_pos hxl h0z;omega
  obtain⟨p1,p2,cs,T,hh,hl,hrr⟩:=r.hr.box id _ b h2 hρ hne;have hbl:=flatP_len h3;have hblt:=r.hr.lt b (by rw[p1];simp)
  let h':Mark:=fun q=>if q=b then xs.length * z else h q
  let ow':Own:=fun q=>if q=b then none else ow q
  have hst : Stable w h w h' := ⟨fun q => by show h q ≤ if q = b then _ else _; split
                                             · rename_i e;rw[e,p2];exact Nat.zero_le _
                                             · exact Nat.le_refl _,fun _ _ _=>rfl,fun b cs T f q=>⟨cs,f,q,rfl⟩⟩
  have hnb:∀q pos,ow q=some pos→pos≠ .box id→q≠b:=fun q pos ho hp e=>by
   rw[e,p1]at ho;injection ho with ho;exact hp ho.symm
  refine⟨h',ow',ρ,⟨r.glob.nb,fun q hq=>⟨(r.glob.eq q hq).1,?_⟩⟩,⟨r.fr.st.trans hst,r.fr.size,r.fr.os,r.fr.tape,r.fr.output,fun q hq ho=> ?_⟩,
   killed h' ow' (fun i b' hi _ q=> ?_) (fun i q p hi ho=> ?_) hst (fun g hg=> ?_) (fun q hq=> ?_),r.defers,r.size,fun i=> ?_,hdom,r.pre⟩
  ·show(if q=b then none else ow q)=none;split
   ·rfl
   ·exact(r.glob.eq q hq).2
  ·obtain⟨e1,e2,e3⟩:=r.fr.keep q hq ho;have hqb:q≠b:=fun e=>by rw[e,p1]at e3;cases e3
   exact⟨e1,by show(if q=b then _ else _)=_;rw[if_neg hqb];exact e2,by show(if q=b then _ else _)=_;rw[if_neg hqb];exact e3⟩
  ·have hb':b'≠b:=hnb b' _ q (fun e=>by injection e with e;exact hi e);exact⟨by show(if b'=b then _ else _)=_;rw[if_neg hb'];exact q,by show(if b'=b then _ else _)=_;rw[if_neg hb']⟩
  ·have hb':q≠b:=hnb q _ ho (by simp);exact⟨by show(if q=b then _ else _)=_;rw[if_neg hb'],by show(if q=b then _ else _)=_;rw[if_neg hb'];exact ho⟩
  ·by_cases e:g=b
   ·rw[e,p1];simp
   ·have:ow' g=ow g:=by show(if g=b then _ else _)=_;rw[if_neg e]
    rw[this]at hg;exact hg
  ·have:q≠b:=by omega
   show(if q=b then _ else _)=0;rw[if_neg this];exact r.hr.hz q hq
  ·simp only[St.put]
   by_cases hi:i=t
   ·rw[if_pos hi];subst hi;simp only[RepD,Rep];right;refine⟨b,0,cap,by rw[q2,h4],by omega,by show _≤(if b=b then _ else _);rw[if_pos rfl];omega,h3,?_⟩;refine RepRows.mono hst xs _ _ (xs.length * z) (fun j hj=> ?_) (rowsLen xs z h3) (flatP_rows hrr);rw[List.getElem?_take,if_pos (by omega),Array.getElem?_toList];simp only[Nat.zero_add,World.cell?,hh];rfl
   ·rw[if_neg hi];refine RepD.step hst (fun _ _ h=>h) _ _ _ _ (fun q p ho=> ?_) (r.tm i);have hb':q≠b:=hnb q _ ho (by simp);exact⟨rfl,by show(if q=b then _ else _)=_;rw[if_neg hb'],by show(if q=b then _ else _)=_;rw[if_neg hb'];exact ho⟩
theorem Gh.cutBox {k0:Nat} {s:St} (id m:Nat) (b:List DV) (h1:s.hp[id]? =some b):Gh k0 s ⟨s.tm,s.hp.set id (b.take m)⟩:=fun C w0 h0 ow0 r0 n a w h ow ρ _ r=>by
 refine⟨h,ow,ρ,⟨r.glob,r.fr,?_,r.defers,r.size,r.tm,r.dom,r.pre⟩⟩;refine⟨by simpa using r.hr.len,fun i box bl q1 q2 hne=> ?_,r.hr.lt,r.hr.hz⟩
 by_cases hi:i=id
 ·subst hi;have hlt:i < s.hp.length:=(List.getElem?_eq_some_iff.1 h1).1;simp only[List.getElem?_set_self hlt,Option.some.injEq]at q1;subst q1;obtain⟨p1,p2,cs,T,p3,p4,p5⟩:=r.hr.box i b bl h1 q2 (by rintro rfl;simp at hne);refine⟨p1,p2,cs,T,p3,by simp;omega,?_⟩;have hlen:=p5.length;refine RepDs.of_get (by simp at hlen⊢;omega) fun j d v hd hv=> ?_
  rw[List.getElem?_take]at hd;rw[List.getElem?_take]at hv;have hj:j < m:=by
   split at hd
   ·assumption
   ·cases hd
  rw[if_pos hj]at hd;have hjl:j < b.length:=(List.getElem?_eq_some_iff.1 hd).1;have hj2:j <(b.take m).length:=by simp;omega
  rw[if_pos hj2]at hv;obtain⟨v',g1,g2⟩:=p5.get j d hd;rw[List.getElem?_take,if_pos hjl,hv]at g1;cases g1;exact g2
 ·simp only[List.getElem?_set_ne (fun h=>hi h.symm)]at q1;exact r.hr.box i box bl q1 q2 hne
theorem dcalls_foreign2 {C:Ctx} {f:FuncId} {args:List DV} {r:DV} (A:List Value→Prop) (V:Value→Prop)
  (hf:∃fn,C.P.funcs[f]? =some fn∧(fn.name== "runtime.NumGoroutine")=false∧fn.body.isNone=false)
  (ha:∀(w:World) h ρ O ws,RepDs w h ρ args O 0 ws→A ws)
  (hr:∀(w:World) h ρ O v,V v→RepD w h ρ r O v)
  (hc:∀(ws:List Value),A ws→∀w:World,C.nb≤w.heap.size→(∀b,b < C.nb→w.heap[b]? =C.W0.heap[b]?)→Calls C.P f ws.toArray w fun e w'=>∃v,e= .returned v∧V v∧Below w.heap.size w w'):
  DCalls C f args [] r []:=by
 refine⟨hf,fun w h ow ρ ws hargs hHR hg=> ?_⟩;have hA:=ha _ _ _ _ _ hargs;refine(hc ws hA w hg.nb fun b hb=>(hg.eq b hb).1).mono fun e w' ⟨v,h1,hv,h2⟩=> ?_
 have hlt:∀{b:Nat} {o:Obj},w.heap[b]? =some o→b < w.heap.size:=fun{b o} q=>by
  rcases Nat.lt_or_ge b w.heap.size with h | h
  ·exact h
  ·rw[Array.getElem?_eq_none h]at q;cases q
 have hst : Stable w h w' h := ⟨fun _ => Nat.le_refl _, fun b i hi => by
     have hb:b < w.heap.size:=by
       rcases Nat.lt_or_ge b w.heap.size with q | q
       · exact q
       · rw[hHR.hz b q]at hi;omega
     simp only[World.cell?,h2.block b hb],fun b cs T fz q=>⟨cs,fz,by rw[h2.block b (hlt q)];exact q,rfl⟩⟩
 refine⟨v,h,ow,[],h1,⟨hst,h2.size,h2.os,h2.tape,h2.output,fun b hb ho=>⟨h2.block b hb,rfl,ho⟩⟩,?_,hr _ _ _ _ _ hv⟩;refine⟨by simpa using hHR.len,fun id box b q1 q2=>by simp at q1,fun g hg=>Nat.lt_of_lt_of_le (hHR.lt g hg) h2.size,fun b hb=>hHR.hz b (Nat.le_trans h2.size hb)⟩
end Go.Proofs.Dm
set_option maxHeartbeats 4000000
set_option maxRecDepth 100000
namespace Go.Proofs
open Go Go.RowKit
namespace Dm.Ju
open Dm Dm.Sc Go.Proofs.Tryz
attribute [local simp] takes handsOn isTmp Op.operands Call.operands
theorem cloneN_ok {W0 nb}:DCalls ⟨Tryz.prog,W0,nb⟩ 115 [tk []] [] (tk []) []:=
 dcalls_foreign2 (fun ws=>∃a c,ws= [.slice a 0 c]∧(a=none→c=0)) (fun v=>∃a c,v= .slice a 0 c∧(a=none→c=0)) ⟨_,Tryz.func115,by kernel_rfl,rfl⟩
  (fun w h ρ O ws r=>by
   simp only[tk,List.map_nil,RepDs,RepD,Rep]at r;obtain⟨v,rest,rfl,r1,rfl⟩:=r;rcases r1 with ⟨_,a,c,rfl,hac⟩ | ⟨g,off,cap,rfl,_⟩
   ·exact⟨a,c,rfl,hac⟩
   ·exact⟨_,cap,rfl,fun q=>by cases q⟩)
  (fun w h ρ O v hv=>by
   simp only[tk,List.map_nil,RepD,Rep];exact .inl ⟨trivial,hv⟩)
  (fun ws hA w _ _=>by
   obtain⟨a,c,rfl,hac⟩:=hA;exact Tryz.clone_empty a c hac w)
theorem clone_ok {W0 nb l} (hne:l≠ []) (hl:l.length < 100000000):DCalls ⟨Tryz.prog,W0,nb⟩ 115 [tk l] [] (.arr 0 0 5 l.length) [tbox l]:=by
 obtain⟨t,l,rfl⟩:∃t l',l=t::l':=by
  cases l with
  | nil=>exact absurd rfl hne
  | cons t l'=>exact⟨t,l',rfl⟩
 refine dcalls_end Tryz.func115 rfl (by kernel_rfl) 8 Tryz.ntmps115 #[.tmp 2] rfl (Nat.le_of_ble_eq_true rfl) ?_;have ha1:(l.length + 1)* 48≤140737488355328:=by simp at hl;omega
 have ha2:l.length≤9223372036854775806:=by simp at hl;omega
 simp[tk,ha1,ha2];have e:flatP (encT t::l.map encT)=tbox (t::l):=rfl;simp only[e];exact .all (by simp) (.refl _) (by simp) (by simp) (by simp) (by simp) (by simp)
def wordsL (l:List Tok):List Tok:=l.filter fun t=> !(t.kind==6)
theorem semiAt_spec:∀(l:List Tok) (k:Nat),(semiAt l k= -1∧wordsL l=l)∨∃i,semiAt l k=((k + i:Nat):Int)∧i < l.length∧wordsL (l.take (i + 1))=l.take i
 | [],k=> .inl ⟨rfl,rfl⟩
 | t::l,k=>by
  simp only[semiAt];cases h:t.kind==6 with
  | true=>
   rw[if_pos rfl];exact .inr ⟨0,rfl,by simp,by simp[wordsL,h]⟩
  | false=>
   simp only[Bool.false_eq_true,if_false];rcases semiAt_spec l (k + 1)with ⟨h1,h2⟩ | ⟨i,h1,h2,h3⟩
   ·refine .inl ⟨h1,?_⟩;simp only[wordsL,List.filter_cons,h,Bool.not_false,if_true];rw[←wordsL,h2]
   ·refine .inr ⟨i + 1,by rw[h1];congr 1;omega,by simp;omega,?_⟩;simp only[List.take_succ_cons,wordsL,List.filter_cons,h,Bool.not_false,if_true];rw[←wordsL,h3]
theorem wordsL_len (l:List Tok):(wordsL l).length≤l.length:=List.length_filter_le _ _
def delI (l:List Tok) (m:Nat) (st:St):Prop:=∃(i j:Nat) (L:List Tok),L.length=l.length∧i < j∧j≤l.length∧m=l.length - j∧L.take i=wordsL (l.take j)∧L.drop j=l.drop j∧st.hp= [tbox L]∧st.tm 0= .arr 0 0 5 l.length∧st.tm 1= .fn 116 []∧st.tm 5=i64 (i:Nat)∧st.tm 6=i64 (j:Nat)
def delJ (l:List Tok) (st:St):Prop:=∃(i:Nat) (L:List Tok),L.length=l.length∧i < l.length∧L.take i=wordsL l∧st.hp= [tbox L]∧st.tm 0= .arr 0 0 5 l.length∧st.tm 5=i64 (i:Nat)
theorem delete_ok {W0 nb l} (hne:l≠ []) (hl:l.length < 100000000):DCalls ⟨Tryz.prog,W0,nb⟩ 114 [.arr 0 0 5 l.length,.fn 116 []] [tbox l] (tk (wordsL l)) [[]]:=by
 have hn0:0 < l.length:=List.length_pos_iff.2 hne;refine dcalls_end Tryz.func114 rfl (by kernel_rfl) 42 Tryz.ntmps114 #[.tmp 4] rfl (Nat.le_of_ble_eq_true rfl) ?_;simp;refine CallGoal.same (index_ok hl) ?_;rcases semiAt_spec l 0 with ⟨h1,h2⟩ | ⟨i,h1,h2,h3⟩
 ·rw[h1,h2];simp;refine EndGoal.by (Gh.freeze 4 0 5 l.length (l.map encT) (by simp) (by simp;rfl) (by omega) (by intro x hx;obtain⟨r,_,rfl⟩:=List.mem_map.1 hx;rfl) (by simp)) ?_
  simp;exact .keep (by simp) (.refl _) (by simp) (by simp) (by simp) (by simp)
 ·rw[h1,Nat.zero_add];have hne1:((i:Int)== -1)=false:=beq_eq_false_iff_ne.2 (by omega);have hw:=w64_id (n:=(i:Int)+ 1) (by omega) (by omega);simp only[w64]at hw;simp[hne1,hw];refine LoopGoal.cut (delJ l) ?_ ?_
  ·refine⟨delI l,l.length -(i + 1),.here ⟨i,i + 1,l,rfl,by omega,by omega,rfl,h3.symm,rfl,by simp,by simp,by simp,by simp,by simp⟩,?_⟩;rintro m ⟨tm,hp⟩ ⟨i,j,L,hL,hij,hj,rfl,ht,hd,h0,g0,g1,g5,g6⟩;simp only at h0 g0 g1 g5 g6;subst h0;rcases Nat.lt_or_ge j l.length with hlt | hge
   ·have hat:=tbox_at L j (by omega);have hb:j * 5 + 5≤L.length * 5:=by omega
    have hLne:L≠ []:=by rintro rfl;simp at hL;omega
    have hLj:L[j]=l[j]:=by
     have e1:(L.drop j)[0]? =(l.drop j)[0]? :=by rw[hd]
     simp only[List.getElem?_drop,Nat.add_zero]at e1;rw[List.getElem?_eq_getElem (by omega),List.getElem?_eq_getElem hlt]at e1;exact Option.some.inj e1
    have hd1:L.drop (j + 1)=l.drop (j + 1):=by
     have:=congrArg (List.drop 1) hd
     rwa [List.drop_drop,List.drop_drop]at this
    have hwj:wordsL (l.take (j + 1))=wordsL (l.take j)++(if l[j].kind==6 then []else [l[j]]):=by
     rw[List.take_succ_eq_append_getElem hlt,wordsL,List.filter_append]
     congr 1
     cases hq:l[j].kind==6 <;> simp[hq]
    have hw1:=w64_id (n:=(j:Int)+ 1) (by omega) (by omega);have hw2:=w64_id (n:=(i:Int)+ 1) (by omega) (by omega);simp only[w64]at hw1 hw2;simp[g0,g1,g5,g6,hlt,hat,hb,hLne,encT];refine CallGoal.same (isSemi_ok (t:=L[j])) ?_;rw[hLj];simp;cases hq:l[j].kind==6 with
    | true=>
     rw[hq,if_pos rfl,List.append_nil]at hwj;simp[g6,hw1];refine .drop (l.length -(j + 1)) (by omega) 1 (by simp) (by simp) (by simp) ⟨i,j + 1,L,hL,by omega,by omega,rfl,by rw[ht,hwj],hd1,by simp[dropSt],by simp[dropSt,dropD,g0],by simp[dropSt,dropD,g1],by simp[dropSt,dropD,g5],by simp[dropSt,dropD,hw1]⟩
    | false=>
     rw[hq]at hwj;simp only[Bool.false_eq_true,if_false]at hwj;have hi:i < L.length:=by omega
     have hbi:i * 5 + 5≤l.length * 5:=by omega
     have hset:=tbox_set L i l[j] hi;simp only[encT,List.map_cons,List.map_nil,List.append_assoc,List.cons_append,List.nil_append]at hset;simp[g0,g1,g5,g6,hw1,hw2,hi,hbi,hLne,hL,show i < l.length by omega];rw[hset];refine .drop (l.length -(j + 1)) (by omega) 1 (by simp) (by simp) (by simp) ⟨i + 1,j + 1,L.set i l[j],by simp[hL],by omega,by omega,rfl,?_,?_,by simp[dropSt],by simp[dropSt,dropD,g0],by simp[dropSt,dropD,g1],by simp[dropSt,dropD,hw2],by simp[dropSt,dropD,hw1]⟩
     ·rw[hwj,←ht,List.take_succ_eq_append_getElem (by simpa using hi),List.take_set_of_le (Nat.le_refl _)];simp
     ·rw[List.drop_set_of_lt (by omega),hd1]
   ·have:j=l.length:=by omega
    subst this;simp[g0,g1,g5,g6];exact⟨i,L,hL,hij,by rw[ht,List.take_length],by simp,by simp[g0],by simp[g5]⟩
  ·rintro⟨tm,hp⟩ ⟨i,L,hL,hi,ht,h0,g0,g5⟩;simp only at h0 g0 g5;subst h0;have hLne:L≠ []:=by rintro rfl;simp at hL;omega
   have hbi:i * 5 +(l.length - i)* 5≤L.length * 5:=by omega
   have hni:¬l.length - i=0:=by omega
   simp[g0,g5,hLne,hbi,hni,Nat.le_of_lt hi];generalize (List.replicate (l.length - i) _).flatten ++ List.drop (i * 5 +(l.length - i)* 5) (tbox L)=T;have hlen:(wordsL l).length=i:=by rw[←ht,List.length_take];omega
   have e:(List.take (i * 5) (tbox L)++ T).take (i * 5)=tbox (wordsL l):=by
    rw[tbox_take,ht,List.take_append_of_le_length (by simp[hlen]),List.take_of_length_le (by simp[hlen])]
   refine EndGoal.by (Gh.cutBox 0 (i * 5) _ rfl) ?_
   simp only[e,List.set_cons_zero];refine EndGoal.by (Gh.freeze 4 0 5 i ((wordsL l).map encT) (by simp) (by simp;rfl) (by omega) (by intro x hx;obtain⟨r,_,rfl⟩:=List.mem_map.1 hx;rfl) (by simp[hlen])) ?_
   simp;exact .keep (by simp) (.refl _) (by simp) (by simp) (by simp) (by simp)
end Dm.Ju
end Go.Proofs
set_option maxHeartbeats 4000000
set_option maxRecDepth 100000
namespace Go.Proofs
open Go Go.RowKit
namespace Dm.Ju
open Dm Dm.Sc Go.Proofs.Tryz
attribute [local simp] takes handsOn isTmp Op.operands Call.operands
theorem deleteN_ok {W0 nb}:DCalls ⟨Tryz.prog,W0,nb⟩ 114 [tk [],.fn 116 []] [] (tk []) []:=by
 refine dcalls_end Tryz.func114 rfl (by kernel_rfl) 42 Tryz.ntmps114 #[.tmp 4] rfl (Nat.le_of_ble_eq_true rfl) ?_;simp;refine CallGoal.same indexN_ok ?_;simp;exact .keep (by simp) (.refl _) (by simp) (by simp) (by simp) (by simp)
theorem words_ok {W0 nb l} (hl:l.length < 100000000):DCalls ⟨Tryz.prog,W0,nb⟩ 71 [tk l] [] (tk (wordsL l)) []:=by
 cases l with
 | nil=>
  refine dcalls_end Tryz.func71 rfl (by kernel_rfl) 6 Tryz.ntmps71 #[.tmp 2] rfl (Nat.le_of_ble_eq_true rfl) ?_;simp;refine CallGoal.same cloneN_ok ?_;simp;refine CallGoal.same deleteN_ok ?_;simp[wordsL];exact .keep (by simp) (.refl _) (by simp) (by simp) (by simp) (by simp)
 | cons t l=>
  have hc:=clone_ok (W0:=W0) (nb:=nb) (l:=t::l) (by simp) hl;have hd:=delete_ok (W0:=W0) (nb:=nb) (l:=t::l) (by simp) hl;generalize t::l=L at *;refine dcalls_end Tryz.func71 rfl (by kernel_rfl) 6 Tryz.ntmps71 #[.tmp 2] rfl (Nat.le_of_ble_eq_true rfl) ?_;simp;refine CallGoal.same hc ?_;simp;refine CallGoal.same hd ?_;simp;exact .keep (by simp) (.refl _) (by simp) (by simp) (by simp) (by simp)
def eqT (a b:Tok):Bool:=a.kind==b.kind&&a.text.toList==b.text.toList
theorem eq_ok {W0 nb a b}:DCalls ⟨Tryz.prog,W0,nb⟩ 72 [.agg ((encT a).map .p),.agg ((encT b).map .p)] [] (.p (.bool (eqT a b))) []:=by
 refine dcalls_end Tryz.func72 rfl (by kernel_rfl) 17 Tryz.ntmps72 #[.tmp 4] rfl (Nat.le_of_ble_eq_true rfl) ?_;simp[encT,eqT];cases h:a.kind==b.kind <;> simp[h]
 all_goals exact .keep (by simp[h]) (.refl _) (by simp) (by simp) (by simp) (by simp)
def eqTs:List Tok→List Tok→Bool
 | [],[]=>true
 | a::al,b::bl=>eqT a b&&eqTs al bl
 | _,_=>false
theorem eqTs_len:∀(a b:List Tok),a.length≠b.length→eqTs a b=false
 | [],[],h=>absurd rfl h
 | [],_::_,_=>rfl
 | _::_,[],_=>rfl
 | a::al,b::bl,h=>by
  simp only[eqTs,eqTs_len al bl (by simpa using h),Bool.and_false]
theorem equal_ok {W0 nb a b} (ha:a.length < 100000000):DCalls ⟨Tryz.prog,W0,nb⟩ 70 [tk a,tk b,.fn 72 []] [] (.p (.bool (eqTs a b))) []:=by
 obtain⟨R,hR⟩:∃R,eqTs a b=R:=⟨_,rfl⟩
 rw[hR];refine dcalls_end Tryz.func70 rfl (by kernel_rfl) 32 Tryz.ntmps70 #[.tmp 6] rfl (Nat.le_of_ble_eq_true rfl) ?_;simp[tk]
 by_cases hl:a.length=b.length
 ·have hne:((a.length:Int) !=b.length)=false:=by simp[hl]
  simp only[←hl];simp;refine⟨fun m st=>∃i,eqTs (a.drop i) (b.drop i)=R∧m=a.length - i∧i≤a.length∧st.hp= []∧st.tm 1= .p (.sl 5 (b.map encT))∧st.tm 2= .fn 72 []∧st.tm 15= .p (.sl 5 (a.map encT))∧st.tm 16=i64 a.length∧st.tm 17=i64 (i:Nat),a.length,.here ⟨0,hR,by simp,by simp,by simp,by simp,by simp,by simp,by simp,by simp⟩,?_⟩;rintro m ⟨tm,hp⟩ ⟨i,h,rfl,hi,h0,g1,g2,g15,g16,g17⟩;simp only at h0 g1 g2 g15 g16 g17;subst h0;simp[g16,g17];rcases Nat.lt_or_ge i a.length with hlt | hge
  ·have hlt2:i < b.length:=by omega
   have hd1:a.drop i=a[i]::a.drop (i + 1):=List.drop_eq_getElem_cons hlt;have hd2:b.drop i=b[i]::b.drop (i + 1):=List.drop_eq_getElem_cons hlt2;rw[hd1,hd2]at h;simp only[eqTs]at h;have hw:=w64_id (n:=(i:Int)+ 1) (by omega) (by omega);simp only[w64]at hw;simp[hlt,hlt2,g1,g2,g15,g16,g17,encT];refine CallGoal.same (eq_ok (a:=a[i]) (b:=b[i])) ?_;simp;cases hq:eqT a[i] b[i]with
   | true=>
    rw[hq,Bool.true_and]at h;simp[g17,hw];exact .drop (a.length -(i + 1)) (by omega) 0 (by simp) (by simp) (by simp) ⟨i + 1,h,rfl,by omega,by simp[dropSt],by simp[dropSt,dropD,g1],by simp[dropSt,dropD,g2],by simp[dropSt,dropD,g15],by simp[dropSt,dropD,g16],by simp[dropSt,dropD,hw]⟩
   | false=>
    rw[hq,Bool.false_and]at h;subst h;simp;exact .keep (by simp) (.refl _) (by simp) (by simp) (by simp) (by simp)
  ·have:i=a.length:=by omega
   subst this;have hb0:b.drop a.length= []:=List.drop_eq_nil_of_le (by omega);simp[hb0,eqTs]at h;subst h;simp;exact .keep (by simp) (.refl _) (by simp) (by simp) (by simp) (by simp)
 ·have hne:((a.length:Int) !=b.length)=true:=by simp;omega
  rw[eqTs_len a b hl]at hR;subst hR;simp[hne];exact .keep (by simp) (.refl _) (by simp) (by simp) (by simp) (by simp)
end Dm.Ju
end Go.Proofs
