/- Part of the proof: contracts of the functions, walked by the D-machine. No condition. -/
import Derived.Test.YtmlhdhpjcipcdaaGreatDoorDa
import Derived.Deep.LoopGhost
set_option linter.unusedVariables false
set_option linter.unusedSimpArgs false
namespace Go.Proofs.Dm
open Go Go.RowKit
def srcC (z:Nat) (s:St) (y:Operand):Option (List DV×Nat):=
 match evalD s y with
 | some (.arr id off z' n)=>match s.hp[id]? with
  | some box=>if z'=z∧0 < n∧off + n * z≤box.length∧box≠ []∧hasOwns ((box.drop off).take (n * z))=false∧solids ((box.drop off).take (n * z))=true then some ((box.drop off).take (n * z),n)else none
  | none=>none
 | some .nil=>some ([],0)
 | some d=>match elems d with
  | some (z',ys)=>if z'=z then some (flatP ys,ys.length)else none
  | none=>none
 | none=>none
theorem srcC_ok {C w0 h0 ow0 r0 n s a w h ow ρ} (r:Rel C w0 h0 ow0 r0 n s a w h ow ρ) {z:Nat} {y:Operand} {src:List DV} {m:Nat} (e:srcC z s y=some (src,m)):
  ∃b c vs,a.eval y= .slice b m c∧vs.length=m * z∧(b=none→m=0)∧(∀ad,b=some ad→0 < m→∀j u,vs[j]? =some u→w.cell? (ad.add j)=some u)∧
   (∀O k,RepDs w h ρ src O k vs)∧∀u∈vs,u.oneCell'=true:=by
 unfold srcC at e;split at e
 ·rename_i id off z' n' hy;split at e
  ·rename_i box hb;split at e
   ·rename_i hc;obtain⟨rfl,h0,hoff,hne,hown,hsol⟩:=hc;injection e with e;injection e with e1 e2;subst e1;subst e2
    have hy':=evalD_rep r hy;simp only[RepD]at hy';obtain⟨b,hρ,⟨q,_⟩ | ⟨cap,cs0,T0,f0,q1,q2,q3,q4⟩⟩:=hy'
    ·omega
    obtain⟨p1,p2,cs,T,hh,hl0,hrr⟩:=r.hr.box id box b hb hρ hne;have hdt:((cs.toList.take box.length).drop off).take (n' * z')=(cs.toList.drop off).take (n' * z'):=by
     rw[List.drop_take,List.take_take];congr 1;omega
    have hsub:=repDs_part hrr off (n' * z');rw[hdt]at hsub;have hany:∀O k,RepDs w h ρ ((box.drop off).take (n' * z')) O k ((cs.toList.drop off).take (n' * z')):=fun O k=>hsub.free_any hown O k
    refine⟨_,cap,(cs.toList.drop off).take (n' * z'),q2,by simp;omega,(fun q=>by cases q),fun ad had _ j u hj=> ?_,hany,fun u hu=> ?_⟩
    ·injection had with had;subst had
     rw[addr_add];rw[List.getElem?_take]at hj;split at hj
     ·rw[List.getElem?_drop,Array.getElem?_toList]at hj;simp[World.cell?,hh,hj]
     ·cases hj
    ·obtain⟨i,hi⟩:=List.mem_iff_getElem?.1 hu;have hil:i <((box.drop off).take (n' * z')).length:=by
      have:=(hany (fun _ _=>False) 0).length;rw[←this];exact(List.getElem?_eq_some_iff.1 hi).1
     obtain⟨v',k1,k2⟩:=(hany (fun _ _=>False) 0).get i _ (List.getElem?_eq_getElem hil);rw[k1]at hi;injection hi with hi;subst hi
     exact solid_one (solids_get hsol i _ (List.getElem?_eq_getElem hil)) k2
   ·cases e
  ·cases e
 ·rename_i hy;injection e with e;injection e with e1 e2;subst e1;subst e2
  have hy':=evalD_rep r hy;simp only[RepD]at hy';exact⟨none,0,[],hy',by simp,fun _=>rfl,(fun ad had=>by cases had),fun O k=>by simp only[RepDs],by simp⟩
 ·rename_i d _ _ hy;split at e
  ·rename_i z' ys he;split at e
   ·rename_i hz;subst hz;injection e with e;injection e with e1 e2;subst e1;subst e2
    have hr:=elems_rep he (evalD_rep r hy);simp only[Rep]at hr;rcases hr with ⟨rfl,b,c,hv,hbc⟩ | ⟨g,off,cap,hv,hcap,hh,hzz,rr⟩
    ·exact⟨b,c,[],hv,by simp,fun _=>rfl,fun ad had h0=>by simp at h0,fun O k=>by simp[flatP,RepDs],by simp⟩
    ·obtain⟨vs,k1,k2,k3,k4⟩:=rows_vals hzz rr;exact⟨_,cap,vs,hv,k1,(fun q=>by cases q),fun ad had _ j u hj=>by injection had with had;subst had;rw[addr_add];exact k2 j u hj,
      fun O k=>flatP_rep (by rw[rowsLen ys _ hzz,k1]) k3 O k,k4⟩
   ·cases e
  ·cases e
 ·cases e
def copyD (P:Program) (o:Oper) (c:Call) (s:St):Option St:=
 match c.args.toList,c.argTypes.toList with
 | [x,y],[t,t']=>match tslice P t with
  | some e=>match tsz P e,evalD s x with
   | some z,some (.arr id off z' n)=>match s.hp[id]?,srcC z s y with
    | some box,some (src,m)=>if min m n=0 then some (s.put o.dst (.p (.int .i64 0)))else if z'=z∧0 < z∧0 < min m n∧off + n * z≤box.length∧box≠ []∧hasOwns src=false then
      some ({s with hp:=s.hp.set id (box.take off ++ src.take (min m n * z)++ box.drop (off + min m n * z))}.put o.dst (.p (.int .i64 (min m n:Nat))))else none
    | _,_=>none
   | _,_=>none
  | none=>none
 | _,_=>none
theorem copyD_ok {C w0 h0 ow0 r0 n o c s s'} (hop:o.op= .call c) (hcal:c.callee= .builtin .copy) (hd:dstOk n o.dst=true) (e:copyD C.P o c s=some s'):StepOK C w0 h0 ow0 r0 n o s s':=by
 intro a w h ow ρ r K Q hK;obtain⟨callee,args,types⟩:=c;dsimp only at hcal;subst hcal;unfold copyD at e;split at e
 ·rename_i x y t t' ha ht';dsimp only at ha ht';obtain rfl:args= #[x,y]:=by rw[←Array.toArray_toList (xs:=args),ha]
  obtain rfl:types= #[t,t']:=by rw[←Array.toArray_toList (xs:=types),ht']
  split at e
  ·rename_i el hts;split at e
   ·rename_i z id off z' k hz hx;split at e
    ·rename_i box src m hb hsrc;split at e
     ·rename_i hz0;injection e with e;subst e
      obtain⟨b2,c2,vs,hvy,hvl,hbn,hcell,hrep,hone⟩:=srcC_ok r hsrc;have hx':=evalD_rep r hx;simp only[RepD]at hx';have hload:∀(q:Addr),(loadCells q 0).run C.P w= .ok #[] w:=fun q=>by simpa using run_loadCells_list (P:=C.P) w q [] (by simp)
      have hmin:Nat.min m k=0:=hz0;have hu:=tslice_spec hts;have main:∀(ax:Option Addr) (c:Nat),a.eval x= .slice ax k c→o.wp C.P a w K Q:=by
       intro ax c hvx;have hrun:(execOp a.eval o).run C.P w= .ok (.value (.int .i64 0)) w:=by
        simp only[execOp,hop,resolve,invoke,Sem.run_bind];cases b2 <;> cases ax <;> simp[builtin,Builtin.copy_,hvx,hvy,run_underlying hu,Builtin.lenOf,Builtin.firstCells,tsz_spec hz,hload,hmin,goInt,storeCells]
       unfold Oper.wp;rw[hrun];exact hK _ _ _ _ _ (r.put o.dst hd fun O=>by simp only[RepD,Rep])
      obtain⟨b,hρ,⟨rfl,ax,c,hv,_⟩ | ⟨cap,cs0,T0,f0,q1,q2,q3,q4⟩⟩:=hx'
      ·exact main ax c hv
      ·exact main _ cap q2
     split at e
     ·rename_i hc;obtain⟨rfl,h0z,hmin,hoff,hne,hown⟩:=hc;injection e with e;subst e
      obtain⟨b2,c2,vs,hvy,hvl,hbn,hcell,hrep,hone⟩:=srcC_ok r hsrc;have hx':=evalD_rep r hx;simp only[RepD]at hx';obtain⟨b,hρ,⟨q,_⟩ | ⟨cap,cs0,T0,f0,q1,q2,q3,q4⟩⟩:=hx'
      ·omega
      obtain⟨p1,p2,cs,T,hh,hl0,hrr⟩:=r.hr.box id box b hb hρ hne;obtain⟨ad,rfl⟩:∃ad,b2=some ad:=by
       cases b2 with
       | none=>have:=hbn rfl;omega
       | some ad=>exact⟨ad,rfl⟩
      have hmk:min m k * z'≤k * z':=Nat.mul_le_mul_right _ (Nat.min_le_right _ _);have hmm:min m k * z'≤m * z':=Nat.mul_le_mul_right _ (Nat.min_le_left _ _);have hload:=run_loadCells_list (P:=C.P) w ad (vs.take (min m k * z')) (fun j u hj=>hcell ad rfl (by omega) j u (by
       rw[List.getElem?_take]at hj;split at hj
       ·exact hj
       ·cases hj))
      have hvtl:(vs.take (min m k * z')).length=min m k * z':=by simp;omega
      rw[hvtl]at hload;have hst:=run_storeCells_at C.P b off T (vs.take (min m k * z')) 0 cs w hh (by rw[hvtl];omega) (fun u hu=>hone u (List.mem_of_mem_take hu));have hrun:(execOp a.eval o).run C.P w= .ok (.value (.int .i64 (min m k:Nat))) (w.setRow b (cs.toList.take off ++ vs.take (min m k * z')++ cs.toList.drop (off + min m k * z')).toArray):=by
       simp only[Nat.add_zero,hvtl]at hst;have hu:=tslice_spec hts;simp only[execOp,hop,resolve,invoke,Sem.run_bind];simp[builtin,Builtin.copy_,q2,hvy,run_underlying hu,Builtin.lenOf,Builtin.firstCells,tsz_spec hz,hload,hst,goInt]
      unfold Oper.wp;rw[hrun];show K (a.put o.dst _) _;have hst2:=r.stored (z:=min m k * z') (ds:=src.take (min m k * z')) (vs:=vs.take (min m k * z')) hb hρ hh (by
       have:=(hrep (fun _ _=>False) 0).length;simp;omega) (by omega) hne (fun x=>x) (fun i=>rfl) (fun p=>rfl) (RepDs.of_get (by
       have:=(hrep (fun _ _=>False) 0).length;simp;omega) fun i d u hd hu=> ?_) {s with hp:=s.hp.set id (box.take off ++ src.take (min m k * z')++ box.drop (off + min m k * z'))} rfl r.dom (fun i=> .inr ⟨rfl,fun p=>rfl⟩)
      ·have hmap:(fun g=>(ow g).map (fun x=>x))=ow:=by funext g;cases ow g <;> rfl
       exact hK _ _ _ _ _ (hst2.put o.dst hd fun O=>by simp only[RepD,Rep])
      ·rw[List.getElem?_take]at hd hu;split at hd
       ·rename_i hi;rw[if_pos hi]at hu;obtain⟨v',k1,k2⟩:=(hrep (fun _ _=>False) 0).get i d hd;rw[k1]at hu;injection hu with hu;subst hu
        exact RepD.free _ _ _ _ (hasOwns_get hown i d hd) k2
       ·cases hd
     ·cases e
    ·cases e
   ·cases e
  ·cases e
 ·cases e
def clearD (P:Program) (o:Oper) (c:Call) (s:St):Option St:=
 match c.args.toList,c.argTypes.toList with
 | [x],[t]=>match tslice P t with
  | some e=>match tsz P e,zeroCells P e,evalD s x with
   | some z,some zc,some (.arr id off z' n)=>match s.hp[id]? with
    | some box=>if n=0 then some (s.put o.dst (.tup []))else if z'=z∧0 < z∧zc.length=z∧off + n * z≤box.length∧box≠ []∧hasOwns zc=false∧solids zc=true then
      some ({s with hp:=s.hp.set id (box.take off ++(List.replicate n zc).flatten ++ box.drop (off + n * z))}.put o.dst (.tup []))else none
    | none=>none
   | _,_,_=>none
  | none=>none
 | _,_=>none
theorem clearD_ok {C w0 h0 ow0 r0 n o c s s'} (hop:o.op= .call c) (hcal:c.callee= .builtin .clear) (hd:dstOk n o.dst=true) (e:clearD C.P o c s=some s'):StepOK C w0 h0 ow0 r0 n o s s':=by
 intro a w h ow ρ r K Q hK;obtain⟨callee,args,types⟩:=c;dsimp only at hcal;subst hcal;unfold clearD at e;split at e
 ·rename_i x t ha ht';dsimp only at ha ht';obtain rfl:args= #[x]:=by rw[←Array.toArray_toList (xs:=args),ha]
  obtain rfl:types= #[t]:=by rw[←Array.toArray_toList (xs:=types),ht']
  split at e
  ·rename_i el hts;split at e
   ·rename_i z zc id off z' k hz hzc hx;split at e
    ·rename_i box hb;have hx':=evalD_rep r hx;simp only[RepD]at hx';have hu:=tslice_spec hts;obtain⟨zv,hzv,hzr⟩:=zeroCells_rep hzc;split at e
     ·rename_i hk0;subst hk0;injection e with e;subst e
      have main:∀(ax:Option Addr) (c:Nat),a.eval x= .slice ax 0 c→o.wp C.P a w K Q:=by
       intro ax c hvx;have hrun:(execOp a.eval o).run C.P w= .ok (.value (.tuple #[])) w:=by
        simp only[execOp,hop,resolve,invoke,Sem.run_bind];cases ax <;> simp[builtin,Builtin.clear_,hvx,run_underlying hu]
       unfold Oper.wp;rw[hrun];exact hK _ _ _ _ _ (r.put o.dst hd fun O=>by simp[RepD,RepDs])
      obtain⟨b,hρ,⟨_,ax,c,hv,_⟩ | ⟨cap,cs0,T0,f0,q1,q2,q3,q4⟩⟩:=hx'
      ·exact main ax c hv
      ·exact main _ cap q2
     split at e
     ·rename_i hk0 hc;obtain⟨rfl,h0z,hzl,hoff,hne,hown,hsol⟩:=hc;injection e with e;subst e
      obtain⟨b,hρ,⟨q,_⟩ | ⟨cap,cs0,T0,f0,q1,q2,q3,q4⟩⟩:=hx'
      ·exact absurd q hk0
      obtain⟨p1,p2,cs,T,hh,hl0,hrr⟩:=r.hr.box id box b hb hρ hne;have hzcl:zv.cells.toList.length=z':=by rw[(hzr (w:=w) (h:=h) (ρ:=ρ) (fun _ _=>False)).length,hzl]
      have hzs:zv.cells.size=z':=by simpa using hzcl
      obtain⟨vs,hvs⟩:∃vs,(Builtin.zeroCells zv.cells k).toList=vs:=⟨_,rfl⟩
      have hvl:vs.length=k * z':=by
       rw[←hvs];simp[Builtin.zeroCells,hzs]
      have hget:∀j,j < k * z'→∃v,vs[j]? =some v∧zv.cells.toList[j% z']? =some v:=by
       intro j hj;have hjm:j% z' < zv.cells.size:=by rw[hzs];exact Nat.mod_lt _ h0z
       refine⟨zv.cells[j% z'],?_,by simp[hjm]⟩;rw[←hvs,Array.getElem?_toList];simp only[Builtin.zeroCells];simp[Array.getElem?_map,hj,hzs];rw[getElem!_def,Array.getElem?_eq_getElem hjm]
      have hbl:((List.replicate k zc).flatten).length=k * z':=by
       simp[List.length_flatten,hzl]
      have hrep:RepDs w h ρ (List.replicate k zc).flatten (fun _ _=>False) 0 vs:=by
       refine RepDs.of_get (by rw[hvl,hbl]) fun j dd v hdj hvj=> ?_
       have hj:j < k * z':=by rw[←hbl];exact(List.getElem?_eq_some_iff.1 hdj).1
       rw[flat_rep_get zc z' hzl _ j hj]at hdj;obtain⟨v1,g1,g2⟩:=hget j hj;rw[g1]at hvj;injection hvj with hvj;subst hvj
       obtain⟨v',p1,p2⟩:=(hzr (w:=w) (h:=h) (ρ:=ρ) (fun _ _=>False)).get (j% z') dd hdj;rw[g2]at p1;injection p1 with p1;subst p1
       exact RepD.free _ _ _ _ (hasOwns_get hown _ _ hdj) p2
      have hone:∀u∈vs,u.oneCell'=true:=by
       intro u hu;obtain⟨j,hj⟩:=List.mem_iff_getElem?.1 hu;have hjl:j < k * z':=by rw[←hvl];exact(List.getElem?_eq_some_iff.1 hj).1
       obtain⟨v1,g1,g2⟩:=hget j hjl;rw[g1]at hj;injection hj with hj;subst hj
       have hjm:j% z' < zc.length:=by rw[hzl];exact Nat.mod_lt _ h0z
       obtain⟨v',p1,p2⟩:=(hzr (w:=w) (h:=h) (ρ:=ρ) (fun _ _=>False)).get (j% z') _ (List.getElem?_eq_getElem hjm);rw[g2]at p1;injection p1 with p1;subst p1
       exact solid_one (solids_get hsol _ _ (List.getElem?_eq_getElem hjm)) p2
      have hst:=run_storeCells_at C.P b off T vs 0 cs w hh (by rw[hvl];omega) hone;have hrun:(execOp a.eval o).run C.P w= .ok (.value (.tuple #[])) (w.setRow b (cs.toList.take off ++ vs ++ cs.toList.drop (off + k * z')).toArray):=by
       simp only[Nat.add_zero,hvl]at hst;simp only[execOp,hop,resolve,invoke,Sem.run_bind];obtain⟨k',rfl⟩:∃k',k=k' + 1:=⟨k - 1,by omega⟩
       simp[builtin,Builtin.clear_,q2,run_underlying hu,tzero_spec hzv,hvs,hst]
      unfold Oper.wp;rw[hrun];show K (a.put o.dst _) _;have hst2:=r.stored (z:=k * z') (ds:=(List.replicate k zc).flatten) (vs:=vs) hb hρ hh hbl (by omega) hne (fun x=>x) (fun i=>rfl) (fun p=>rfl) (RepDs.of_get (by rw[hvl,hbl]) fun i d u hd hu=>by
       obtain⟨v',k1,k2⟩:=hrep.get i d hd;rw[k1]at hu;injection hu with hu;subst hu
       have:hasOwn d=false:=by
        have hj:i < k * z':=by rw[←hbl];exact(List.getElem?_eq_some_iff.1 hd).1
        rw[flat_rep_get zc z' hzl _ i hj]at hd;exact hasOwns_get hown _ _ hd
       exact RepD.free _ _ _ _ this k2) {s with hp:=s.hp.set id (box.take off ++(List.replicate k zc).flatten ++ box.drop (off + k * z'))} rfl r.dom (fun i=> .inr ⟨rfl,fun p=>rfl⟩)
      have hmap:(fun g=>(ow g).map (fun x=>x))=ow:=by funext g;cases ow g <;> rfl
      exact hK _ _ _ _ _ (hst2.put o.dst hd fun O=>by simp[RepD,RepDs])
     ·cases e
    ·cases e
   ·cases e
  ·cases e
 ·cases e
theorem append_new {P:Program} {t e:TypeId} {z by_:Nat} {zv:Value} {i:TypeInfo} (hu:P.underlying t=some (.slice e)) (hi:P.info? e=some i) (hi2:i.size=z) (hi3:i.bytes=by_) (hi4:i.zero=some zv) (hzz:zv.cells.size=z)
  {w:World} (ty:TypeId) (a:Option Addr) (n c:Nat) (olds:List Value) (hlo:olds.length=n * z) (ha:a=none→n=0∧c=0)
  (holds:∀ad,a=some ad→∀j u,olds[j]? =some u→w.cell? (ad.add j)=some u) (ad:Addr) (m c':Nat) (news:List Value) (hl:news.length=m * z) (hnews:∀j u,news[j]? =some u→w.cell? (ad.add j)=some u)
  (hg:c < n + m) (hm:0 < m) (hb:(n + m)* by_≤140737488355328) (hmx:n + m≤maxLen):
  ∃cap w' cur,(Builtin.append_ #[t,t] ty #[.slice a n c,.slice (some ad) m c']).run P w= .ok (.slice (some ⟨w.heap.size,0,none⟩) (n + m) cap) w'∧n + m≤cap∧
   w'.heap[w.heap.size]? =some (.cells cur e (0,0))∧cur.size=cap * z∧cur.toList.take ((n + m)* z)=olds ++ news∧w.grownBy w' none∧cap≤maxLen:=by
 subst hi2;subst hi3;have hsmall:n + m≤9223372036854775807:=by simp only[maxLen]at hmx;omega
 have hlen:(olds ++ news).length=(n + m)* i.size:=by rw[List.length_append,hlo,hl,Nat.add_mul]
 have fin : ∀ (old : Nat), old < n + m →
     n + m≤grownCap w (n + m) old e∧(olds.toArray ++ news.toArray ++ Builtin.zeroCells zv.cells (grownCap w (n + m) old e -(n + m))).size=grownCap w (n + m) old e * i.size∧
     (olds.toArray ++ news.toArray ++ Builtin.zeroCells zv.cells (grownCap w (n + m) old e -(n + m))).toList.take ((n + m)* i.size)=olds ++ news∧
     w.grownBy (w.drew.alloc (.cells (olds.toArray ++ news.toArray ++ Builtin.zeroCells zv.cells (grownCap w (n + m) old e -(n + m))) e)) none:=by
   intro old ho
   have hge:=grownCap_ge w (n + m) old e
   refine⟨hge,?_,?_,⟨rfl,rfl,rfl,by simp,fun k hk _=>heap_alloc_old w.drew _ hk⟩⟩
   · simp only[Array.size_append,List.size_toArray,size_zeroCells,hzz,hlo,hl,←Nat.add_mul]
     congr 1
     omega
   · simp only[Array.toList_append,List.append_assoc]
     rw[←List.append_assoc,←hlen]
     exact List.take_left
 cases a with
 | none=>
  obtain⟨rfl,rfl⟩:=ha rfl;have hx:olds= []:=List.eq_nil_of_length_eq_zero (by simpa using hlo);subst hx;have hr:=run_append_nil (P:=P) w t ty e i zv hu hi hi4 ad m c' news hl hnews (by omega) (by omega) (by simp only[Nat.zero_add]at hb;omega);obtain⟨f1,f2,f3,f4⟩:=fin 0 (by omega);simp only[Nat.zero_add,List.nil_append,Array.empty_append]at f1 f2 f3 f4⊢;exact⟨_,_,_,hr,f1,heap_alloc_new w.drew _,f2,f3,f4,by simpa using grownCap_le_maxLen w (0 + m) 0 e hmx⟩
 | some b=>
  have hr:=run_append_grow (P:=P) w t ty e i zv hu hi hi4 b n c olds hlo (holds b rfl) ad m c' news hl hnews hg (by omega) (growslice_fits hg hb);obtain⟨f1,f2,f3,f4⟩:=fin c hg;exact⟨_,_,_,hr,f1,heap_alloc_new w.drew _,f2,f3,f4,grownCap_le_maxLen w (n + m) c e hmx⟩
theorem append_fit {P:Program} {t e:TypeId} {z:Nat} (hu:P.underlying t=some (.slice e)) (hz:tsz P e=some z) (ty:TypeId) (w:World) (b n c:Nat) (T:TypeId) (cs:Array Value) (hh:w.heap[b]? =some (.cells cs T (0,0)))
  (ad:Addr) (m c':Nat) (news:List Value) (hl:news.length=m * z) (hnews:∀j u,news[j]? =some u→w.cell? (ad.add j)=some u) (h1:∀u∈news,u.oneCell'=true) (hroom:n + m≤c) (hfit:c * z≤cs.size):
  (Builtin.append_ #[t,t] ty #[.slice (some ⟨b,0,none⟩) n c,.slice (some ad) m c']).run P w=
   .ok (.slice (some ⟨b,0,none⟩) (n + m) c) (w.setRow b (cs.toList.take (n * z)++ news ++ cs.toList.drop (n * z + m * z)).toArray):=by
 have hf:(Builtin.firstCells z m (.slice (some ad) m c')).run P w= .ok news.toArray w:=run_firstCells_some (P:=P) w z m ad m c' news hl hnews;have hle:(n + m)* z≤c * z:=Nat.mul_le_mul_right _ hroom;rw[Nat.add_mul]at hle;have hst:=run_storeCells_at P b (n * z) T news 0 cs w hh (by rw[hl];omega) h1;simp only[Nat.add_zero,hl]at hst;have hadd:(⟨b,0,none⟩:Addr).add (n * z)=⟨b,n * z,none⟩:=by rw[addr_add];simp
 simp[Builtin.append_,run_underlying hu,tsz_spec hz,Builtin.lenOf,hroom,hf,hadd,hst]
def appendB (e z by_:Nat) (d:Tmp) (x y:Operand) (s:St):Option St:=
 match evalD s x,srcC z s y with
 | some (.mt e' z'),some (src,m)=>match x with
  | .tmp ts=>if e'=e∧z'=z∧0 < m∧m * by_≤140737488355328∧m≤maxLen then some {((s.put (some ts) .un).put (some d) (.arr s.hp.length 0 z m))with hp:=s.hp ++ [src]}else none
  | _=>none
 | some (.own e' z' []),some (src,m)=>match x with
  | .tmp ts=>if e'=e∧z'=z∧0 < m∧m * by_≤140737488355328∧m≤maxLen then some {((s.put (some ts) .un).put (some d) (.arr s.hp.length 0 z m))with hp:=s.hp ++ [src]}else none
  | _=>none
 | some (.arr id off z' n),some (src,m)=>match s.hp[id]? with
  | some box=>if off=0∧z'=z∧0 < n∧0 < m∧box.length=n * z∧box≠ []∧hasOwns box=false∧hasOwns src=false∧(n + m)* by_≤140737488355328∧n + m≤maxLen then
    some {s.put (some d) (.arr s.hp.length 0 z (n + m))with hp:=s.hp.set id [] ++ [box ++ src]}else none
  | none=>none
 | some (.cp z' xs),some (src,m)=>if xs= []∧z'=z∧0 < m∧m * by_≤140737488355328∧m≤maxLen∧(appMore z s y).isNone=true then
   some {s.put (some d) (.arr s.hp.length 0 z m)with hp:=s.hp ++ [src]}else
   (match appMore z s y with
   | some ys=>if z'=z∧(xs.length + ys.length)* by_≤140737488355328∧xs.length + ys.length≤maxLen then some (s.put (some d) (.p (.sl z (xs ++ ys))))else none
   | none=>none)
 | some .nil,some (src,m)=>if 0 < m∧m * by_≤140737488355328∧m≤maxLen then some {s.put (some d) (.arr s.hp.length 0 z m)with hp:=s.hp ++ [src]}else none
 | _,_=>none
def appendA (P:Program) (o:Oper) (c:Call) (s:St):Option St:=
 match c.args.toList,c.argTypes.toList,o.dst with
 | [x,y],[t,t'],some d=>match tslice P t with
  | some e=>match tsz P e,tbytes P e,tzero P e with
   | some z,some by_,some zv=>if t=t'∧0 < z∧zv.cells.size=z then appendB e z by_ d x y s else none
   | _,_,_=>none
  | none=>none
 | _,_,_=>none
end Go.Proofs.Dm
namespace Go.Proofs.Dm
open Go Go.RowKit
theorem Rel.weak {C w0 h0 ow0 r0 n s a w h ow ρ} (r:Rel C w0 h0 ow0 r0 n s a w h ow ρ) (s':St) (hhp:s'.hp=s.hp) (hw:∀i,Wk (s.tm i) (s'.tm i)) (hdom:∀i,n≤i→s'.tm i= .un):
  Rel C w0 h0 ow0 r0 n s' a w h ow ρ:=
 ⟨r.glob,r.fr,by rw[hhp];exact r.hr,r.defers,r.size,fun i=>RepD.wk (hw i) (r.tm i),hdom,r.pre⟩
theorem own_vals {w h O e z v} (r:OwnRep w h O e z [] v):w.ownsRow 0 e z v 0 []∧∀g,v.ownBlock=some g→h g=0∧O g []:=by
 obtain⟨vals,h0,ho,hx,hr,h1,hg⟩:=r;have:vals= []:=List.eq_nil_of_length_eq_zero (by simpa using ho.1);subst this;exact⟨ho,fun g hgg=>by have:=hg g hgg;simpa using this⟩
theorem append_any {P:Program} {t e:TypeId} {z by_:Nat} {zv:Value} {i:TypeInfo} (hu:P.underlying t=some (.slice e)) (hi:P.info? e=some i) (hi2:i.size=z) (hi3:i.bytes=by_) (hi4:i.zero=some zv) (hzz:zv.cells.size=z)
  {w:World} (ty:TypeId) (b n c:Nat) (T:TypeId) (cs:Array Value) (hh:w.heap[b]? =some (.cells cs T (0,0))) (hnc:n≤c) (hcs:c * z≤cs.size)
  (ad:Addr) (m c':Nat) (news:List Value) (hl:news.length=m * z) (hnews:∀j u,news[j]? =some u→w.cell? (ad.add j)=some u) (h1:∀u∈news,u.oneCell'=true)
  (hm:0 < m) (hb:(n + m)* by_≤140737488355328) (hmx:n + m≤maxLen):
  ∃cap w' g cur T',(Builtin.append_ #[t,t] ty #[.slice (some ⟨b,0,none⟩) n c,.slice (some ad) m c']).run P w= .ok (.slice (some ⟨g,0,none⟩) (n + m) cap) w'∧n + m≤cap∧
   w'.heap[g]? =some (.cells cur T' (0,0))∧cap * z≤cur.size∧cur.toList.take ((n + m)* z)=cs.toList.take (n * z)++ news∧(g=w.heap.size∨g=b∧T'=T∧cur.size=cs.size)∧
   (∀k,k < w.heap.size→k≠g→w'.heap[k]? =w.heap[k]?)∧w.heap.size≤w'.heap.size∧w'.os=w.os∧w'.tape=w.tape∧w'.output=w.output:=by
 have hz:tsz P e=some z:=by simp[tsz,hi,hi2]
 have hnz:n * z≤cs.size:=Nat.le_trans (Nat.mul_le_mul_right _ hnc) hcs
 by_cases hroom:n + m≤c
 ·have hr:=append_fit (P:=P) hu hz ty w b n c T cs hh ad m c' news hl hnews h1 hroom hcs;have hle:(n + m)* z≤c * z:=Nat.mul_le_mul_right _ hroom;rw[Nat.add_mul]at hle;have hsz:(cs.toList.take (n * z)++ news ++ cs.toList.drop (n * z + m * z)).toArray.size=cs.size:=by simp;omega
  refine⟨c,_,b,_,T,hr,hroom,setRow_heap w b cs _ T _ hh,by rw[hsz];exact hcs,?_,.inr ⟨rfl,rfl,hsz⟩,fun k _ hk=>setRow_other w b k _ hk,by simp[World.setRow],rfl,rfl,rfl⟩;rw[Nat.add_mul];show(cs.toList.take (n * z)++ news ++ cs.toList.drop (n * z + m * z)).take (n * z + m * z)=_;have:(cs.toList.take (n * z)++ news).length=n * z + m * z:=by simp;omega
  rw[←this];exact List.take_left
 ·obtain⟨cap,w',cur,q1,q2,q3,q4,q5,q6,q7⟩:=append_new (P:=P) hu hi hi2 hi3 hi4 hzz (w:=w) ty (some ⟨b,0,none⟩) n c (cs.toList.take (n * z)) (by simp;omega) (fun q=>by cases q)
   (fun ad0 had j u hj=>by
    injection had with had;subst had
    rw[addr_add];rw[List.getElem?_take]at hj;split at hj
    ·rw[Array.getElem?_toList]at hj;simp[World.cell?,hh,hj]
    ·cases hj) ad m c' news hl hnews (by omega) hm hb hmx
  exact⟨cap,w',_,cur,e,q1,q2,q3,by rw[q4];exact Nat.le_refl _,q5,.inl rfl,fun k hk _=>q6.block k hk (by simp),q6.size,q6.os,q6.tape,q6.output⟩
theorem appendA_ok {C w0 h0 ow0 r0 n o c s s'} (hop:o.op= .call c) (hcal:c.callee= .builtin .append) (hd:dstOk n o.dst=true) (e:appendA C.P o c s=some s'):StepOK C w0 h0 ow0 r0 n o s s':=by
 intro a w h ow ρ r K Q hK;obtain⟨callee,args,types⟩:=c;dsimp only at hcal;subst hcal;unfold appendA at e;split at e
 ·rename_i x y t t' d ha ht' hdst;dsimp only at ha ht';obtain rfl:args= #[x,y]:=by rw[←Array.toArray_toList (xs:=args),ha]
  obtain rfl:types= #[t,t']:=by rw[←Array.toArray_toList (xs:=types),ht']
  split at e
  ·rename_i el hts;split at e
   ·rename_i z by_ zv hz hby hzv;split at e
    ·rename_i hc0;obtain⟨rfl,h0z,hzz⟩:=hc0;have hu:=tslice_spec hts;obtain⟨i,hi1,hi2⟩:=Option.map_eq_some_iff.1 hz;obtain⟨i',hi1',hi3⟩:=Option.map_eq_some_iff.1 hby;obtain⟨i'',hi1'',hi4⟩:=Option.bind_eq_some_iff.1 hzv;rw[hi1]at hi1' hi1'';injection hi1' with q;subst q
     injection hi1'' with q;subst q
     have go:∀v w',(Builtin.append_ #[t,t] o.type #[a.eval x,a.eval y]).run C.P w= .ok v w'→K (a.put (some d) v) w'→o.wp C.P a w K Q:=by
      intro v w' q1 q2;unfold Oper.wp;have hrun:(execOp a.eval o).run C.P w= .ok (.value v) w':=by simp[execOp,hop,resolve,invoke,builtin,q1]
      rw[hrun];show K (a.put o.dst v) w';rw[hdst];exact q2
     have hdd:d < n:=by rw[hdst]at hd;simpa [dstOk]using hd
     have fresh : ∀ (own? : Option Tmp) (ab : Option Addr) (c0 : Nat) (src : List DV) (m : Nat), a.eval x = .slice ab 0 c0 → (ab = none → c0 = 0) → c0 < m → srcC z s y = some (src, m) → 0 < m → m * by_ ≤ 140737488355328 → m ≤ maxLen →
         Good C w0 h0 ow0 r0 n ({((s.put own? .un).put (some d) (.arr s.hp.length 0 z m))with hp:=s.hp ++ [src]}) K→o.wp C.P a w K Q:=by
       intro own? ab c0 src m hvx hab hcm hsrc h0m hb hmx hK
       obtain⟨b2,c2,vs,hvy,hvl,hbn,hcell,hrep,hone⟩:=srcC_ok r hsrc
       obtain⟨ad,rfl⟩:∃ad,b2=some ad:=by
         cases b2 with
         | none=>have:=hbn rfl;omega
         | some ad=>exact⟨ad,rfl⟩
       obtain⟨cap,w',cur,q1,q2,q3,q4,q5,q6,q7⟩:=append_new (P:=C.P) hu hi1 hi2 hi3 hi4 hzz (w:=w) o.type ab 0 c0 [] (by simp) (fun q=>⟨rfl,hab q⟩) (fun _ _ j u hj=>by simp at hj) ad m c2 vs hvl (hcell ad rfl h0m) (by omega) h0m (by simpa using hb) (by omega)
       have hsl:src.length=vs.length:=(hrep (fun _ _=>False) 0).length.symm
       refine go _ _ (by rw[hvx,hvy];exact q1) (hK _ _ _ _ _ (r.arrived own? none d hdd w.heap.size (cs:=cur) (T:=el) (.inl (Nat.le_refl _)) (fun b hb _=>q6.block b hb (by simp)) q6.size (Array.getElem?_eq_some_iff.1 q3).1 q6.os q6.tape q6.output (fun id q=>by cases q)
         (fun cs0 T0 f0 q=>by have:=(Array.getElem?_eq_some_iff.1 q).1;omega) q3 (by rw[q4,hsl,hvl];exact Nat.mul_le_mul_right _ (by omega)) (fun O k=> ?_) (r.hr.hz _ (Nat.le_refl _)) (.inr ⟨cap,by omega,by simp,by omega⟩)))
       have:src.length=(0 + m)* z:=by rw[hsl,hvl];simp
       rw[this,q5,List.nil_append];exact hrep O k
     have behind : ∀ (own? : Option Tmp) (old? : Option Nat) (b k c0 : Nat) (T : TypeId) (cs : Array Value) (box src : List DV) (m : Nat), a.eval x = .slice (some ⟨b, 0, none⟩) k c0 → w.heap[b]? = some (.cells cs T (0, 0)) → k ≤ c0 → c0 * z ≤ cs.size → srcC z s y = some (src, m) → 0 < m →
         (k + m)* by_≤140737488355328→k + m≤maxLen→h b=0→((∃ts,own? =some ts∧ow b=some (.tmp [ts]))∨∃id,old? =some id∧ow b=some (.box id))→(∀id,old? =some id→id < s.hp.length)→box.length=k * z→(∀O q,RepDs w h ρ box O q (cs.toList.take (k * z)))→
         Good C w0 h0 ow0 r0 n ({((s.put own? .un).put (some d) (.arr s.hp.length 0 z (k + m)))with hp:=killB s.hp old? ++ [box ++ src]}) K→o.wp C.P a w K Q:=by
       intro own? old? b k c0 T cs box src m hvx hh hkc hcs hsrc h0m hb hmx hmark hwho hold hbox hbrep hK
       obtain⟨b2,c2,vs,hvy,hvl,hbn,hcell,hrep,hone⟩:=srcC_ok r hsrc
       obtain⟨ad,rfl⟩:∃ad,b2=some ad:=by
         cases b2 with
         | none=>have:=hbn rfl;omega
         | some ad=>exact⟨ad,rfl⟩
       obtain⟨cap,w',g,cur,T',q1,q2,q3,q4,q5,q6,q7,q8,q9,q10,q11⟩:=append_any (P:=C.P) hu hi1 hi2 hi3 hi4 hzz (w:=w) o.type b k c0 T cs hh hkc hcs ad m c2 vs hvl (hcell ad rfl h0m) hone h0m hb hmx
       have hsl:src.length=vs.length:=(hrep (fun _ _=>False) 0).length.symm
       have hle:(k + m)* z≤cap * z:=Nat.mul_le_mul_right _ q2
       have hbl:(box ++ src).length=(k + m)* z:=by rw[List.length_append,hbox,hsl,hvl,Nat.add_mul]
       have hmg:h g=0:=by
         rcases q6 with e | ⟨e,_⟩
         · rw[e];exact r.hr.hz _ (Nat.le_refl _)
         · rw[e];exact hmark
       refine go _ _ (by rw[hvx,hvy];exact q1) (hK _ _ _ _ _ (r.arrived own? old? d hdd g (cs:=cur) (T:=T') ?_ q7 q8 (Array.getElem?_eq_some_iff.1 q3).1 q9 q10 q11 hold
         (fun cs0 T0 f0 q=> ?_) q3 (by rw[hbl];omega) (fun O q=> ?_) hmg (.inr ⟨cap,q2,rfl,q4⟩)))
       · rcases q6 with e | ⟨e,_⟩
         · exact .inl (by omega)
         · rw[e];exact .inr hwho
       · rcases q6 with e | ⟨e,e1,e2⟩
         · have:=(Array.getElem?_eq_some_iff.1 q).1;omega
         · rw[e,hh]at q;injection q with q;injection q with q q' _;rw[←q,←q',e1];exact⟨e2.symm,rfl⟩
       · rw[hbl,q5]
         exact RepDs.append (hbrep O q) (hrep O _)
     unfold appendB at e;split at e
     ·
      rename_i e' z' src m hx hsrc;split at e
      ·rename_i ts;split at e
       ·rename_i hc;obtain⟨rfl,rfl,h0m,hb,hmx⟩:=hc;injection e with e;subst e
        have hx':=evalD_rep r hx;simp only[RepD]at hx';obtain⟨ho,hg⟩:=own_vals hx';rcases ho.2 with ⟨hv,_⟩ | ⟨g,cap,cur,hv,_,hh,hnc,hcm,hcs,htake⟩
        ·exact fresh (some ts) none 0 src m hv (fun _=>rfl) h0m hsrc h0m hb hmx hK
        ·have hgb:=hg g (by rw[hv];rfl);have:=behind (some ts) none g 0 cap e' cur [] src m hv hh hnc (by omega) hsrc h0m (by simpa using hb) (by omega) hgb.1 (.inl ⟨ts,rfl,hgb.2⟩) (fun id q=>by cases q) (by simp) (fun O q=>by simp[RepDs]);simp only[Nat.zero_add,killB,List.nil_append]at this;exact this hK
       ·cases e
      ·cases e
     ·
      rename_i e' z' src m hx hsrc;split at e
      ·rename_i ts;split at e
       ·rename_i hc;obtain⟨rfl,rfl,h0m,hb,hmx⟩:=hc;injection e with e;subst e
        have hx':=evalD_rep r hx;simp only[RepD]at hx';obtain⟨ho,hg⟩:=own_vals hx';rcases ho.2 with ⟨hv,_⟩ | ⟨g,cap,cur,hv,_,hh,hnc,hcm,hcs,htake⟩
        ·exact fresh (some ts) none 0 src m hv (fun _=>rfl) h0m hsrc h0m hb hmx hK
        ·have hgb:=hg g (by rw[hv];rfl);have:=behind (some ts) none g 0 cap e' cur [] src m hv hh hnc (by omega) hsrc h0m (by simpa using hb) (by omega) hgb.1 (.inl ⟨ts,rfl,hgb.2⟩) (fun id q=>by cases q) (by simp) (fun O q=>by simp[RepDs]);simp only[Nat.zero_add,killB,List.nil_append]at this;exact this hK
       ·cases e
      ·cases e
     ·
      rename_i id off z' k src m hx hsrc;split at e
      ·rename_i box hb;split at e
       ·rename_i hc;obtain⟨rfl,rfl,h0k,h0m,hbl,hne,hown,hown2,hbd,hmx⟩:=hc;injection e with e;subst e
        have hx':=evalD_rep r hx;simp only[RepD]at hx';obtain⟨b,hρ,⟨q,_⟩ | ⟨cap,cs0,T0,f0,q1,q2,q3,q4⟩⟩:=hx'
        ·omega
        obtain⟨p1,p2,cs,T,hh,hl0,hrr⟩:=r.hr.box id box b hb hρ hne;rw[hh]at q3;injection q3 with q3;injection q3 with q3 _ _;subst q3
        refine behind none (some id) b k cap T cs box src m q2 hh q1 (by omega) hsrc h0m hbd hmx p2 (.inr ⟨id,rfl,p1⟩) (fun id' q=>by injection q with q;subst q;exact(List.getElem?_eq_some_iff.1 hb).1) hbl (fun O q=> ?_) hK;rw[←hbl];exact hrr.free_any hown O q
       ·cases e
      ·cases e
     ·
      rename_i z' xs src m hx hsrc;have hx':=evalD_rep r hx;simp only[RepD]at hx';obtain⟨hxr,ax,hvx⟩:=hx';split at e
      ·rename_i hc;obtain⟨rfl,rfl,h0m,hb,hmx,_⟩:=hc;injection e with e;subst e
       exact fresh none ax 0 src m (by simpa using hvx) (fun _=>rfl) h0m hsrc h0m hb hmx hK
      ·split at e
       ·rename_i ys hmore;split at e
        ·rename_i hc;obtain⟨rfl,hb,hmx⟩:=hc;injection e with e;subst e
         have hy:Rep w h (.sl z' ys) (a.eval y):=by
          unfold appMore at hmore;split at hmore
          ·rename_i hy;injection hmore with hmore;subst hmore
           have:=evalD_rep r hy;simp only[RepD]at this;simp only[Rep];exact .inl ⟨trivial,none,0,this,fun _=>rfl⟩
          ·rename_i d' _ hy;split at hmore
           ·rename_i z2 ys' he;split at hmore
            ·rename_i hzz';injection hmore with hmore;subst hmore;subst hzz'
             exact elems_rep he (evalD_rep r hy)
            ·cases hmore
           ·cases hmore
          ·cases hmore
         have hy0:=hy;simp only[Rep]at hy;have nothing:ys= []→o.wp C.P a w K Q:=by
          intro q;subst q;obtain⟨ay,cy,hvy,_,_⟩:=rep_slice hy0;refine go _ _ (by rw[hvx,hvy];exact run_append_none hu hz o.type ax _ _ (Nat.le_refl _) ay cy w) (hK _ _ _ _ _ (r.put (some d) (by rw[←hdst];exact hd) fun O=> ?_));simp only[RepD,List.append_nil];rw[←hvx];exact hxr
         rcases hy with ⟨q,_⟩ | ⟨gy,offy,capy,hvy,hcy,hhy,hzy,hry⟩
         ·exact nothing q
         by_cases hm0:ys= []
         ·exact nothing hm0
         have h0m:0 < ys.length:=by
          rcases ys with _ | _
          ·exact absurd rfl hm0
          ·simp
         obtain⟨news,hnl,hnews,hnr,hn1⟩:=rows_vals hzy hry;have holds:∃olds:List Value,olds.length=xs.length * z'∧(ax=none→xs.length=0∧xs.length=0)∧(∀ad,ax=some ad→∀j u,olds[j]? =some u→w.cell? (ad.add j)=some u)∧RepRows w h xs (fun j=>olds[j]?)∧(∀u∈olds,u.oneCell'=true)∧(∀q∈xs,q.length=z'):=by
          simp only[Rep]at hxr;rcases hxr with ⟨rfl,_⟩ | ⟨g,off,cap,hv,hcap,hh,hzx,rr⟩
          ·exact⟨[],by simp,fun _=>⟨rfl,rfl⟩,(fun _ _ j u hj=>by simp at hj),by simp only[RepRows],by simp,by simp⟩
          ·obtain⟨olds,k1,k2,k3,k4⟩:=rows_vals hzx rr;rw[hvx]at hv;injection hv with e1 e2 e3;subst e1
           exact⟨olds,k1,(fun q=>by cases q),fun ad had j u hj=>by injection had with had;subst had;rw[addr_add];exact k2 j u hj,k3,k4,hzx⟩
         obtain⟨olds,k1,k2,k3,k4,k5,k6⟩:=holds;obtain⟨cap,w',cur,q1,q2,q3,q4,q5,q6,q7⟩:=append_new (P:=C.P) hu hi1 hi2 hi3 hi4 hzz (w:=w) o.type ax xs.length xs.length olds k1 k2 k3 ⟨gy,offy,none⟩ ys.length capy news hnl
          (fun j u hj=>by rw[addr_add];exact hnews j u hj) (by omega) h0m hb hmx
         refine go _ _ (by rw[hvx,hvy];exact q1) ?_;have happ:=r.appended none d hdd (v:= .slice none 0 0) (v':= .slice (some ⟨w.heap.size,0,none⟩) (xs.length + ys.length) cap) (w':=w') (e:=el) (z:=z') (xs':=xs ++ ys) (vals':=olds ++ news)
          (fun g hg=>by simp[Value.ownBlock]at hg) q6 (fun b j hj=> ?_) (fun b cs T f q=>⟨cs,f,by rw[q6.block b (Array.getElem?_eq_some_iff.1 q).1 (by simp)];exact q,rfl⟩) h0z ?_ (fun q hq=> ?_) (RepRows.append (by rw[rowsLen xs _ k6,k1]) k4 hnr) (fun u hu=> ?_) (.inr (.inr rfl))
          (fun g hg=>by
           have:w.heap.size=g:=by simpa [Value.ownBlock]using hg
           rw[r.hr.hz g (by omega)];exact Nat.zero_le _)
         ·have hK':=hK;refine hK _ _ _ _ _ (happ.weak _ rfl (fun i=> ?_) (fun i hi=> ?_))
          ·simp only[St.put];split
           ·exact .fr _ _ _
           ·exact .refl _
          ·simp only[St.put];rw[if_neg (fun e=>by rw[e]at hi;exact absurd hi (Nat.not_le_of_gt hdd))];exact r.dom i hi
         ·have hlt:b < w.heap.size:=by
           rcases Nat.lt_or_ge b w.heap.size with q | q
           ·exact q
           ·rw[r.hr.hz b q]at hj;omega
          simp only[World.cell?,q6.block b hlt (by simp)]
         ·refine⟨by simp[k1,hnl,Nat.add_mul],.inr ⟨w.heap.size,cap,cur,by simp,by omega,q3,by simpa using q2,?_,q4,?_⟩⟩
          ·exact q7
          ·have:(olds ++ news).length=(xs.length + ys.length)* z':=by simp[k1,hnl,Nat.add_mul]
           simpa using q5
         ·rcases List.mem_append.1 hq with q | q
          ·exact k6 _ q
          ·exact hzy _ q
         ·rcases List.mem_append.1 hu with q | q
          ·exact k5 u q
          ·exact hn1 u q
        ·cases e
       ·cases e
     ·
      rename_i src m hx hsrc;have hx':=evalD_rep r hx;simp only[RepD]at hx';split at e
      ·rename_i hc;obtain⟨h0m,hb,hmx⟩:=hc;injection e with e;subst e
       exact fresh none none 0 src m hx' (fun _=>rfl) h0m hsrc h0m hb hmx hK
      ·cases e
     ·cases e
    ·cases e
   ·cases e
  ·cases e
 ·cases e
end Go.Proofs.Dm
namespace Go.Proofs.Dm
open Go Go.RowKit
theorem buildSliceD_ok {C w0 h0 ow0 r0 n o t len} {parts:Array (Nat×Operand)} {s s'} (hop:o.op= .buildSlice t len parts) (hd:dstOk n o.dst=true) (e:buildSliceD C.P o t len parts.toList s=some s'):
  StepOK C w0 h0 ow0 r0 n o s s':=by
 intro a w h ow ρ r K Q hK;unfold buildSliceD at e;split at e
 ·rename_i el d hts hdst;split at e
  ·rename_i z zv hz hzv;split at e
   ·rename_i rows hrows;split at e
    ·rename_i hc;obtain⟨hl,h24,h0z,hzz⟩:=hc;injection e with e;subst e
     let cells0:Array Value:=(Array.range (len * z)).map (((if len * z=0 then #[]else zv.cells):Array Value)[·%((if len * z=0 then #[]else zv.cells):Array Value).size]!)
     obtain⟨vals,q1,q2,q3,q4,q5⟩:=rows_fill r parts.toList 0 rows cells0 hrows (by simp[cells0,hl]);simp only[Nat.zero_mul,List.take_zero,List.nil_append]at q1;have hparts:(parts.map fun(i,x)=>(i,a.eval x)).toList=parts.toList.map fun p=>(p.1,a.eval p.2):=by
      rw[Array.toList_map]
     have hrun:(execOp a.eval o).run C.P w= .ok (.value (.slice (some ⟨w.heap.size,0,none⟩) len len)) (w.alloc (.cells vals.toArray el)):=by
      have h24':¬(len * z > 2 ^ 24):=by omega
      simp only[execOp,hop,Instr.buildSlice,Sem.run_bind,run_underlying (tslice_spec hts),Result.andThen_ok,tsz_spec hz,if_neg h24',Sem.run_pure]
      by_cases hzero:len * z=0
      ·simp only[if_pos hzero,pure_bind,Sem.run_bind,Sem.run_pure,Result.andThen_ok];rw[hparts];simp only[cells0,if_pos hzero]at q1;rw[q1];simp only[Sem.run_bind,newRow,newObj,Sem.run,Sem.run_pure,Result.andThen_ok];rfl
      ·simp only[if_neg hzero,Sem.run_bind,Sem.run_pure,tzero_spec hzv,Result.andThen_ok];rw[hparts];simp only[cells0,if_neg hzero]at q1;rw[q1];simp only[Sem.run_bind,newRow,newObj,Sem.run,Sem.run_pure,Result.andThen_ok];rfl
     unfold Oper.wp;rw[hrun];show K (a.put o.dst _) _;rw[hdst]at hd⊢;have hown:(w.alloc (.cells vals.toArray el)).ownsRow 0 el z (.slice (some ⟨w.heap.size,0,none⟩) len len) rows.length vals:=by
      refine⟨by rw[q2],.inr ⟨w.heap.size,len,vals.toArray,by rw[hl],by omega,heap_alloc_new w _,by omega,?_,by simp[q2,hl],?_⟩⟩
      ·simp only[maxLen];have:len * 1≤len * z:=Nat.mul_le_mul_left _ h0z;omega
      ·rw[List.take_of_length_le (by simp[q2])]
     have hgrow:w.grownBy (w.alloc (.cells vals.toArray el)) (Value.slice none 0 0).ownBlock:=⟨rfl,rfl,rfl,by simp,fun k hk _=>heap_alloc_old w _ hk⟩
     have hstab:∀b i,i < h b→(w.alloc (.cells vals.toArray el)).cell? ⟨b,i,none⟩=w.cell? ⟨b,i,none⟩:=by
      intro b i hi;have hlt:b < w.heap.size:=by
       rcases Nat.lt_or_ge b w.heap.size with q | q
       ·exact q
       ·rw[r.hr.hz b q]at hi;omega
      simp only[World.cell?,heap_alloc_old w _ hlt]
     have:=r.appended none d (by simpa [dstOk]using hd) (v:= .slice none 0 0) (fun g hg=>by simp[Value.ownBlock]at hg) hgrow hstab (fun b cs T f q=>⟨cs,f,by rw[heap_alloc_old w _ (Array.getElem?_eq_some_iff.1 q).1];exact q,rfl⟩) h0z hown q3 q4 q5 (.inr (.inr rfl))
      (fun g hg=>by
       have:w.heap.size=g:=by simpa [Value.ownBlock]using hg
       rw[r.hr.hz g (by omega)];exact Nat.zero_le _)
     refine hK _ _ _ _ _ (this.weak (s.put (some d) (ownD el z rows)) rfl (fun i=> ?_) (fun i hi=> ?_))
     ·simp only[St.put];split
      ·exact ownD_wk _ _ _
      ·exact .refl _
     ·have hdn:d < n:=by simpa [dstOk]using hd
      simp only[St.put];rw[if_neg (fun e:i=d=>absurd (e▸hi) (Nat.not_le_of_gt hdn))];exact r.dom i hi
    ·cases e
   ·cases e
  ·cases e
 ·cases e
def tplacesL (P:Program):List Field→Option (List (Nat×Nat))
 | []=>some []
 | f::fs=>match tsz P f.type,tplacesL P fs with
  | some z,some r=>some ((f.offset,z)::r)
  | _,_=>none
def tplaces (P:Program) (t:TypeId):Option (List (Nat×Nat)):=match P.underlying t with
 | some (.struct fs)=>tplacesL P fs.toList
 | _=>none
theorem tplacesL_run {P:Program}:∀{fs:List Field} {r:List (Nat×Nat)},tplacesL P fs=some r→∀w,(fs.mapM fun f=>(do pure (f.offset,←sizeOf f.type):Sem (Nat×Nat))).run P w= .ok r w
 | [],r,e,w=>by simp only[tplacesL,Option.some.injEq]at e;subst e;simp
 | f::fs,r,e,w=>by
  simp only[tplacesL]at e;split at e
  ·rename_i z q h1 h2;injection e with e;subst e
   have ih:=tplacesL_run h2 w;simp only[List.mapM_cons,Sem.run_bind,Sem.run_pure,tsz_spec h1,Result.andThen_ok];rw[ih];rfl
  ·cases e
def fillD (s:St) (pl:List (Nat×Nat)):List (Nat×Operand)→List DV→Option (Tmp×Nat)→Option (List DV×Option (Tmp×Nat))
 | [],cells,w=>some (cells,w)
 |(i,x)::rest,cells,w=>match pl[i]?,evalD s x with
  | some (off,z),some v=>if hasOwn v then(match x,w,v with
    | .tmp t,none,.own e zz xs=>if z=1∧off < cells.length then fillD s pl rest (cells.take off ++ [.own e zz xs] ++ cells.drop (off + 1)) (some (t,off))else none
    | _,_,_=>none)
   else(match flat v with
    | some cs=>if cs.length=z∧off + z≤cells.length then fillD s pl rest (cells.take off ++ cs ++ cells.drop (off + z)) w else none
    | none=>none)
  | _,_=>none
def buildD (P:Program) (o:Oper) (t:TypeId) (parts:List (Nat×Operand)) (s:St):Option St:=
 match o.dst,tplaces P t,zeroCellsT P t with
 | some d,some pl,some z=>match fillD s pl parts z none with
  | some (cells,none)=>some (s.put (some d) (.agg (coerT P t cells)))
  | some (cells,some (ts,_))=>some ((s.put (some ts) .un).put (some d) (.agg (coerT P t cells)))
  | none=>none
 | _,_,_=>none
def bOwn (ow:Own) (k:Option (Tmp×Nat)):Nat→List Nat→Prop:=fun g p=>∃t off,k=some (t,off)∧p= [off]∧ow g=some (.tmp [t])
theorem fill_splice {P:Program} {place:Nat→Option (Nat×Nat)} {i off z:Nat} (hp:place i=some (off,z)) {v:Value} (hv:v.cells.size=z) {cells:Array Value} (hl:off + z≤cells.size) (rest:List (Nat×Value)):
  Instr.fill place cells ((i,v)::rest)=Instr.fill place (cells.toList.take off ++ v.cells.toList ++ cells.toList.drop (off + z)).toArray rest:=by
 have hfold:=foldl_cells v off cells (by rw[hv];exact hl);simp only[Instr.fill,hp];rw[if_neg (by simp[hv];omega)]
 congr 1
 rw[←hv,←hfold,Array.toArray_toList]
theorem flat_any {w h ρ d O v cs} (e:flat d=some cs) (hn:hasOwn d=false) (r:RepD w h ρ d O v) (O':Nat→List Nat→Prop) (k:Nat):RepDs w h ρ cs O' k v.cells.toList:=by
 obtain⟨O2,hr,hO2⟩:=flat_rep e (RepD.free _ _ (fun _ _=>False) _ hn r);refine RepDs.of_get hr.length fun i d v hd hv=> ?_
 obtain⟨v',q1,q2⟩:=hr.get i d hd;rw[q1]at hv;injection hv with hv;subst hv
 exact q2.rename fun g p ho=>(hO2 g (0 + i) p ho).elim
theorem fillD_ok {C w0 h0 ow0 r0 n s a w h ow ρ} (r:Rel C w0 h0 ow0 r0 n s a w h ow ρ) {pl:List (Nat×Nat)}:∀(parts:List (Nat×Operand)) (cells:List DV) (k:Option (Tmp×Nat)) (res:List DV) (k':Option (Tmp×Nat)) (vs:Array Value),
  fillD s pl parts cells k=some (res,k')→RepDs w h ρ cells (bOwn ow k) 0 vs.toList→
  ∃us:Array Value,Instr.fill (pl[·]?) vs (parts.map fun p=>(p.1,a.eval p.2))=some us∧RepDs w h ρ res (bOwn ow k') 0 us.toList∧(k=none∨k=k')
 | [],cells,k,res,k',vs,e,hr=>by
  simp only[fillD,Option.some.injEq,Prod.mk.injEq]at e;obtain⟨rfl,rfl⟩:=e;exact⟨vs,rfl,hr,.inr rfl⟩
 |(i,x)::rest,cells,k,res,k',vs,e,hr=>by
  have hlen:=hr.length;simp only[fillD]at e;split at e
  ·rename_i off z v hpl hv;have hv':=evalD_rep r hv;split at e
   ·split at e
    ·rename_i t e2 zz xs _;split at e
     ·rename_i hc;obtain⟨rfl,hoff⟩:=hc;have h1:(a.eval (.tmp t)).cells.size=1:=by
       have:=solid_one (d:= .own e2 zz xs) rfl hv';cases hval:a.eval (.tmp t)<;> first | rfl |(rw[hval]at this;simp[Value.oneCell']at this)
      have h2:(a.eval (.tmp t)).cells.toList= [a.eval (.tmp t)]:=by
       have:=solid_one (d:= .own e2 zz xs) rfl hv';cases hval:a.eval (.tmp t)<;> first | rfl |(rw[hval]at this;simp[Value.oneCell']at this)
      have hsz:vs.size=cells.length:=by simpa using hlen
      have hfs:=fill_splice (P:=C.P) (place:=(pl[·]?)) hpl h1 (cells:=vs) (by omega) (rest.map fun p=>(p.1,a.eval p.2));obtain⟨us,q1,q2,q3⟩:=fillD_ok r rest _ _ res k' (vs.toList.take off ++(a.eval (.tmp t)).cells.toList ++ vs.toList.drop (off + 1)).toArray e (by
       refine RepDs.of_get (by simp[h2];omega) fun j d u hd hu=> ?_
       rw[splice3_get cells [.own e2 zz xs] off 1 rfl (by omega) j]at hd;have hu:(vs.toList.take off ++(a.eval (.tmp t)).cells.toList ++ vs.toList.drop (off + 1))[j]? =some u:=hu;rw[splice3_get vs.toList _ off 1 (by simpa using h1) (by simp;omega) j]at hu;split at hd
       ·rename_i hj;rw[if_pos hj]at hu;have:j=off:=by omega
        subst this;simp only[Nat.sub_self,List.getElem?_cons_zero,Option.some.injEq]at hd;subst hd;rw[h2]at hu;simp only[Nat.sub_self,List.getElem?_cons_zero,Option.some.injEq]at hu;subst hu;simp only[RepD]at hv'⊢;obtain⟨vals,k1,k2,k3,k4,k5,k6⟩:=hv';exact⟨vals,k1,k2,k3,k4,k5,fun g hg=>⟨(k6 g hg).1,⟨t,j,rfl,by simp,(k6 g hg).2⟩⟩⟩
       ·rename_i hj;rw[if_neg hj]at hu;obtain⟨u',p1,p2⟩:=hr.get j d hd;rw[p1]at hu;injection hu with hu;subst hu
        exact p2.rename fun g p ho=>by obtain⟨_,_,q,_⟩:=ho;cases q)
      exact⟨us,by simp only[List.map_cons];rw[hfs];exact q1,q2,.inl rfl⟩
     ·cases e
    ·cases e
   ·rename_i hn;have hn:hasOwn v=false:=by simpa using hn
    split at e
    ·rename_i cs hf;split at e
     ·rename_i hc;obtain⟨hcl,hoff⟩:=hc;have hrep:=flat_any hf hn hv' (bOwn ow k) off;have hsz:vs.size=cells.length:=by simpa using hlen
      have hvsz:(a.eval x).cells.size=z:=by have:=hrep.length;simp at this;omega
      have hfs:=fill_splice (P:=C.P) (place:=(pl[·]?)) hpl hvsz (cells:=vs) (by omega) (rest.map fun p=>(p.1,a.eval p.2));obtain⟨us,q1,q2,q3⟩:=fillD_ok r rest _ _ res k' (vs.toList.take off ++(a.eval x).cells.toList ++ vs.toList.drop (off + z)).toArray e (by
       refine RepDs.of_get (by simp[hvsz];omega) fun j d u hd hu=> ?_
       rw[splice3_get cells cs off z hcl hoff j]at hd;have hu:(vs.toList.take off ++(a.eval x).cells.toList ++ vs.toList.drop (off + z))[j]? =some u:=hu;rw[splice3_get vs.toList _ off z (by simpa using hvsz) (by simp;omega) j]at hu;split at hd
       ·rename_i hj;rw[if_pos hj]at hu;obtain⟨u',p1,p2⟩:=hrep.get _ d hd;rw[p1]at hu;injection hu with hu;subst hu
        have e3:off +(j - off)=0 + j:=by omega
        rw[e3]at p2;exact p2
       ·rename_i hj;rw[if_neg hj]at hu;obtain⟨u',p1,p2⟩:=hr.get j d hd;rw[p1]at hu;injection hu with hu;subst hu
        exact p2)
      exact⟨us,by simp only[List.map_cons];rw[hfs];exact q1,q2,q3⟩
     ·cases e
    ·cases e
  ·cases e
def mvBuild (t d off:Nat):Pos→Pos
 | .tmp [i]=>if i=t then .tmp [d,off]else .tmp [i]
 | x=>x
theorem buildD_ok {C w0 h0 ow0 r0 n o t} {parts:Array (Nat×Operand)} {s s'} (hop:o.op= .build t parts) (hd:dstOk n o.dst=true) (e:buildD C.P o t parts.toList s=some s'):StepOK C w0 h0 ow0 r0 n o s s':=by
 intro a w h ow ρ r K Q hK;unfold buildD at e;split at e
 ·rename_i d pl zc hdst hpl hzc;obtain⟨zv,hzv,hzr⟩:=zeroCellsT_rep hzc;have hst:∃fs,C.P.underlying t=some (.struct fs)∧tplacesL C.P fs.toList=some pl:=by
   unfold tplaces at hpl;split at hpl
   ·rename_i fs h1;exact⟨fs,h1,hpl⟩
   ·cases hpl
  obtain⟨fs,hu,hplL⟩:=hst;have hplaces:(fs.mapM fun f=>(do pure (f.offset,←sizeOf f.type):Sem (Nat×Nat))).run C.P w= .ok pl.toArray w:=by
   have e1:(fs.mapM fun f=>(do pure (f.offset,←sizeOf f.type):Sem (Nat×Nat)))=List.toArray <$> fs.toList.mapM fun f=>(do pure (f.offset,←sizeOf f.type):Sem (Nat×Nat)):=by
    rw[Array.mapM_eq_mapM_toList]
   rw[e1,Sem.run_map,tplacesL_run hplL w,Result.andThen_ok]
  have hget:(fun i:Nat=>pl.toArray[i]?)=(fun i:Nat=>pl[i]?):=by funext i;simp
  have hparts:(parts.map fun(i,x)=>(i,a.eval x)).toList=parts.toList.map fun p=>(p.1,a.eval p.2):=by rw[Array.toList_map]
  have run:∀us,Instr.fill (pl[·]?) zv.cells (parts.toList.map fun p=>(p.1,a.eval p.2))=some us→(execOp a.eval o).run C.P w= .ok (.value (.agg us)) w:=by
   intro us q;simp only[execOp,hop,Instr.build,Sem.run_bind,tzero_spec hzv,Result.andThen_ok,run_underlying hu,hplaces];rw[hparts,hget,q];simp only[Sem.run_pure,Result.andThen_ok]
  split at e
  ·rename_i cells hfill;injection e with e;subst e
   obtain⟨us,q1,q2,q3⟩:=fillD_ok r parts.toList zc none cells none zv.cells hfill (hzr _);unfold Oper.wp;rw[run us q1];refine hK _ _ _ _ _ (r.put _ (by rw[←hdst];exact hd) fun O=> ?_)|> fun x=>by rw[←hdst]at x;exact x
   simp only[RepD];exact⟨us,rfl,RepDs.wk (coerT_wk _ _ _) (q2.rename fun g p ho=>by obtain⟨_,_,q,_⟩:=ho;cases q)⟩
  ·rename_i cells ts off hfill;injection e with e;subst e
   obtain⟨us,q1,q2,q3⟩:=fillD_ok r parts.toList zc none cells _ zv.cells hfill (hzr _);unfold Oper.wp;rw[run us q1];show K (a.put o.dst (.agg us)) w;rw[hdst]at hd⊢;simp only[dstOk,decide_eq_true_eq]at hd;have hd':d < a.tmps.size:=by rw[r.size];exact hd
   refine hK _ _ h (fun g=>(ow g).map (mvBuild ts d off)) ρ ?_;have hcell:∀g p,ow g=some (.cell p)→(ow g).map (mvBuild ts d off)=some (.cell p):=fun g p hg=>by simp[hg,mvBuild]
   refine r.names _ _ _ (fun g hg=>by simp[hg]) (fun g hg e=>hg (by simp[e])) (fun g i hg=>by simp[hg,mvBuild]) rfl hcell r.defers
    (by simpa [Act.put]using r.size) (fun i hi=> ?_) (fun i=> ?_)
   ·simp only[St.put];rw[if_neg (fun e=>by rw[e]at hi;exact absurd hi (Nat.not_le_of_gt hd))];split
    ·rfl
    ·exact r.dom i hi
   ·rw[getD_put a d _ i hd'];simp only[St.put]
    by_cases hid:i=d
    ·rw[if_pos hid,if_pos hid];simp only[RepD];refine⟨us,rfl,RepDs.wk (coerT_wk _ _ _) (q2.rename fun g p ho=> ?_)⟩;obtain⟨t',off',k1,k2,k3⟩:=ho;injection k1 with k1;injection k1 with k1 k4;subst k1;subst k4
     simp[k3,mvBuild,hid,k2]
    ·rw[if_neg hid,if_neg hid]
     by_cases hit:i=ts
     ·rw[if_pos hit];simp only[RepD]
     ·rw[if_neg hit];refine(r.tm i).rename fun g p ho=> ?_
      rw[ho];cases p with
      | nil=>simp[mvBuild,hit]
      | cons x xs=>simp[mvBuild]
  ·cases e
 ·cases e
def nilC:Operand→Bool
 | .const (.slice none 0 0)=>true
 | _=>false
def flatArg (P:Program) (c:Call):Bool:=match c.argTypes.toList with
 | [t,_]=>match tslice P t with
  | some e=>match tagg P e with
   | some true=>match tflat P e with
    | some ks=>ks.all (fun k=>k < 3)
    | none=>false
   | _=>true
  | none=>false
 | _=>false
def needA (P:Program) (s:St) (c:Call):Bool:=
 match c.args.toList with
 | [x,y]=>(match evalD s x with
  | some (.mt _ _)=>true
  | some (.arr _ _ _ _)=>true
  | some (.cp _ _)=>true
  | _=>false)||(match evalD s y with
  | some (.arr _ _ _ _)=>true
  | some (.p (.sl _ _))=>nilC x&&flatArg P c
  | _=>false)
 | _=>false
def stepD (P:Program) (n:Nat) (tk:Bool) (o:Oper) (s:St):Option St:=
 if dstOk n o.dst then
  match o.op with
  | .move x=>moveD P tk o x s
  | .assign x=>moveD P true o x s
  | .alloc t=>allocD P o t s
  | .box t x=>boxD P o t x s
  | .load t x=>loadD P tk o t x s
  | .store t x y=>storeD P o t x y s
  | .build t parts=>buildD P o t parts.toList s
  | .buildSlice t len parts=>buildSliceD P o t len parts.toList s
  | .makeSlice t l c=>makeSliceD P o t l c s
  | .call c=>match c.callee with
   | .builtin .append=>if needA P s c then appendA P o c s else appendD P o c s
   | .builtin .copy=>copyD P o c s
   | .builtin .clear=>clearD P o c s
   | _=>(callD P (evalD s) c).map (s.put o.dst)
  | op=>(pureD P (evalD s) op).map (s.put o.dst)
 else none
theorem stepD_ok {C w0 h0 ow0 r0 n tk o s s'} (e:stepD C.P n tk o s=some s'):StepOK C w0 h0 ow0 r0 n o s s':=by
 unfold stepD at e;split at e
 ·rename_i hd;split at e
  ·rename_i x hop;exact moveD_ok (.inl hop) hd e
  ·rename_i x hop;exact moveD_ok (.inr hop) hd e
  ·rename_i t hop;exact allocD_ok hop hd e
  ·rename_i t x hop;exact boxD_ok hop hd e
  ·rename_i t x hop;exact loadD_ok hop hd e
  ·rename_i t x y hop;exact storeD_ok hop e
  ·rename_i t parts hop;exact buildD_ok hop hd e
  ·rename_i t len parts hop;exact buildSliceD_ok hop hd e
  ·rename_i t l c hop;exact makeSliceD_ok hop hd e
  ·rename_i c hop;split at e
   ·rename_i hc;split at e
    ·exact appendA_ok hop hc hd e
    ·exact appendD_ok hop hd e
   ·rename_i hc;exact copyD_ok hop hc hd e
   ·rename_i hc;exact clearD_ok hop hc hd e
   ·obtain⟨d,h1,h2⟩:=Option.map_eq_some_iff.1 e;subst h2;exact pureStep_ok hd (by rw[hop];exact h1)
  ·obtain⟨d,h1,h2⟩:=Option.map_eq_some_iff.1 e;subst h2;exact pureStep_ok hd h1
 ·cases e
end Go.Proofs.Dm
namespace Go.Proofs.Dm
open Go Go.RowKit
mutual
def mapRef (f:Nat→Nat):DV→DV
 | .ref i o=> .ref (f i) o
 | .arr i o z n=> .arr (f i) o z n
 | .bn i T n=> .bn (f i) T n
 | .agg cs=> .agg (mapRefs f cs)
 | .tup cs=> .tup (mapRefs f cs)
 | .fn g cs=> .fn g (mapRefs f cs)
 | d=>d
def mapRefs (f:Nat→Nat):List DV→List DV
 | []=> []
 | d::ds=>mapRef f d::mapRefs f ds
end
mutual
def refsD:DV→List Nat
 | .ref i _=> [i]
 | .arr i _ _ _=> [i]
 | .bn i _ _=> [i]
 | .agg cs=>refsDs cs
 | .tup cs=>refsDs cs
 | .fn _ cs=>refsDs cs
 | _=> []
def refsDs:List DV→List Nat
 | []=> []
 | d::ds=>refsD d ++ refsDs ds
end
mutual
theorem RepD.mapRef {w h ρ ρ'} (f:Nat→Nat):∀(d:DV) (O:Nat→List Nat→Prop) (v:Value),(∀i∈refsD d,ρ'[f i]? =ρ[i]?)→RepD w h ρ d O v→RepD w h ρ' (Dm.mapRef f d) O v
 | .ref i o,O,v,q,r=>by
  simp only[RepD,Dm.mapRef]at r⊢;obtain⟨b,hb,hv⟩:=r;exact⟨b,by rw[q i (by simp[refsD])];exact hb,hv⟩
 | .agg cs,O,v,q,r=>by
  simp only[RepD,Dm.mapRef]at r⊢;obtain⟨vs,hv,hr⟩:=r;exact⟨vs,hv,RepDs.mapRefs f cs O 0 _ (fun i hi=>q i (by simpa only[refsD]using hi)) hr⟩
 | .tup cs,O,v,q,r=>by
  simp only[RepD,Dm.mapRef]at r⊢;obtain⟨vs,hv,hr⟩:=r;exact⟨vs,hv,RepDs.mapRefs f cs O 0 _ (fun i hi=>q i (by simpa only[refsD]using hi)) hr⟩
 | .fn g cs,O,v,q,r=>by
  simp only[RepD,Dm.mapRef]at r⊢;obtain⟨vs,hv,hr⟩:=r;exact⟨vs,hv,RepDs.mapRefs f cs O 0 _ (fun i hi=>q i (by simpa only[refsD]using hi)) hr⟩
 | .p x,O,v,q,r=>by simpa only[RepD,Dm.mapRef]using r
 | .nil,O,v,q,r=>by simpa only[RepD,Dm.mapRef]using r
 | .own e z xs,O,v,q,r=>by simpa only[RepD,Dm.mapRef]using r
 | .fr cs,O,v,q,r=>by simpa only[RepD,Dm.mapRef]using r
 | .un,O,v,q,r=>by simp only[RepD,Dm.mapRef]
 | .ud,O,v,q,r=>by simpa only[RepD,Dm.mapRef]using r
 | .arr i o z n,O,v,q,r=>by
  simp only[RepD,Dm.mapRef]at r⊢;obtain⟨b,hb,hv⟩:=r;exact⟨b,by rw[q i (by simp[refsD])];exact hb,hv⟩
 | .cp z xs,O,v,q,r=>by simpa only[RepD,Dm.mapRef]using r
 | .mt e z,O,v,q,r=>by simpa only[RepD,Dm.mapRef]using r
 | .bn i T n,O,v,q,r=>by
  simp only[RepD,Dm.mapRef]at r⊢;obtain⟨hv,b,cs,t,hb,hc⟩:=r;exact⟨hv,b,cs,t,by rw[q i (by simp[refsD])];exact hb,hc⟩
theorem RepDs.mapRefs {w h ρ ρ'} (f:Nat→Nat):∀(ds:List DV) (O:Nat→List Nat→Prop) (k:Nat) (vs:List Value),(∀i∈refsDs ds,ρ'[f i]? =ρ[i]?)→RepDs w h ρ ds O k vs→RepDs w h ρ' (Dm.mapRefs f ds) O k vs
 | [],O,k,vs,q,r=>by simpa only[RepDs,Dm.mapRefs]using r
 | d::ds,O,k,vs,q,r=>by
  simp only[RepDs,Dm.mapRefs]at r⊢;obtain⟨v,rest,hv,h1,h2⟩:=r;exact⟨v,rest,hv,RepD.mapRef f d _ v (fun i hi=>q i (by simp[refsDs,hi])) h1,RepDs.mapRefs f ds O (k + 1) rest (fun i hi=>q i (by simp[refsDs,hi])) h2⟩
end
mutual
theorem RepD.refs_ok {w h ρ}:∀(d:DV) (O:Nat→List Nat→Prop) (v:Value),RepD w h ρ d O v→∀i∈refsD d,∃b,ρ[i]? =some b
 | .ref j o,O,v,r,i,hi=>by
  simp only[refsD,List.mem_singleton]at hi;subst hi;simp only[RepD]at r;obtain⟨b,hb,_⟩:=r;exact⟨b,hb⟩
 | .agg cs,O,v,r,i,hi=>by simp only[RepD]at r;obtain⟨vs,_,hr⟩:=r;exact RepDs.refs_ok cs _ _ _ hr i (by simpa only[refsD]using hi)
 | .tup cs,O,v,r,i,hi=>by simp only[RepD]at r;obtain⟨vs,_,hr⟩:=r;exact RepDs.refs_ok cs _ _ _ hr i (by simpa only[refsD]using hi)
 | .fn g cs,O,v,r,i,hi=>by simp only[RepD]at r;obtain⟨vs,_,hr⟩:=r;exact RepDs.refs_ok cs _ _ _ hr i (by simpa only[refsD]using hi)
 | .p x,O,v,r,i,hi=>by simp[refsD]at hi
 | .nil,O,v,r,i,hi=>by simp[refsD]at hi
 | .own e z xs,O,v,r,i,hi=>by simp[refsD]at hi
 | .fr cs,O,v,r,i,hi=>by simp[refsD]at hi
 | .un,O,v,r,i,hi=>by simp[refsD]at hi
 | .ud,O,v,r,i,hi=>by simp[refsD]at hi
 | .arr j o z n,O,v,r,i,hi=>by
  simp only[refsD,List.mem_singleton]at hi;subst hi;simp only[RepD]at r;obtain⟨b,hb,_⟩:=r;exact⟨b,hb⟩
 | .cp z xs,O,v,r,i,hi=>by simp[refsD]at hi
 | .mt e z,O,v,r,i,hi=>by simp[refsD]at hi
 | .bn j T n,O,v,r,i,hi=>by
  simp only[refsD,List.mem_singleton]at hi;subst hi;simp only[RepD]at r;obtain⟨_,b,_,_,hb,_⟩:=r;exact⟨b,hb⟩
theorem RepDs.refs_ok {w h ρ}:∀(ds:List DV) (O:Nat→List Nat→Prop) (k:Nat) (vs:List Value),RepDs w h ρ ds O k vs→∀i∈refsDs ds,∃b,ρ[i]? =some b
 | [],O,k,vs,r,i,hi=>by simp[refsDs]at hi
 | d::ds,O,k,vs,r,i,hi=>by
  simp only[RepDs]at r;obtain⟨v,rest,rfl,h1,h2⟩:=r;simp only[refsDs,List.mem_append]at hi;rcases hi with hi | hi
  ·exact RepD.refs_ok d _ _ h1 i hi
  ·exact RepDs.refs_ok ds _ _ _ h2 i hi
end
def DCalls (C:Ctx) (f:FuncId) (args:List DV) (bs:List (List DV)) (r:DV) (bs':List (List DV)):Prop:=
 (∃fn,C.P.funcs[f]? =some fn∧(fn.name== "runtime.NumGoroutine")=false∧fn.body.isNone=false)∧
 ∀w h ow ρ vs,RepDs w h ρ args (fun g p=>ow g=some (.tmp p)) 0 vs→HR w h ρ ow bs→Glob C w ow→
  Calls C.P f vs.toArray w fun e w'=>∃v h' ow' ex,e= .returned v∧Fr w h ow w' h' ow'∧HR w' h' (ρ ++ ex) ow' bs'∧RepD w' h' (ρ ++ ex) r (fun g p=>ow' g=some (.res p)) v
theorem DCalls.wk {C f args bs r bs'} (d:DCalls C f args bs r bs') {args0 r'} (ka:Wks args0 args) (kr:Wk r r'):DCalls C f args0 bs r' bs':=by
 refine⟨d.1,fun w h ow ρ vs ha hb hg=> ?_⟩;refine(d.2 w h ow ρ vs (RepDs.wk ka ha) hb hg).mono fun e w' ⟨v,h',ow',ex,h1,h2,h3,h4⟩=>⟨v,h',ow',ex,h1,h2,h3,RepD.wk kr h4⟩
def calleeD (s:St) (x:Operand):Option (FuncId×List DV):=
 match evalD s x with
 | some (.fn f cap)=>some (f,fzs cap)
 | _=>none
def argsD (s:St) (all:List Operand):List Operand→Option (List DV)
 | []=>some []
 | x::xs=>match evalD s x,argsD s all xs with
  | some d,some ds=>some ((if hasOwn d then(match x with
    | .tmp t=>if(all.filter fun y=>match y with | .tmp u=>u==t | _=>false).length=1 then d else fz d
    | _=>fz d)else d)::ds)
  | _,_=>none
def given (s:St):List Operand→List Tmp
 | []=> []
 | .tmp t::xs=>if hasOwn (s.tm t)then t::given s xs else given s xs
 | _::xs=>given s xs
def addNew (l:List Nat):List Nat→List Nat
 | []=>l
 | x::xs=>addNew (if l.contains x then l else l ++ [x]) xs
def boxRefs (hp:List (List DV)):List Nat→List Nat
 | []=> []
 | i::is=>(match hp[i]? with
  | some b=>refsDs b
  | none=> [])++ boxRefs hp is
def reach (hp:List (List DV)) (ds:List DV):List Nat:=
 let a:=addNew [] (refsDs ds)
 let b:=addNew a (boxRefs hp a)
 addNew b (boxRefs hp b)
def subHp (hp:List (List DV)):List Nat→Option (List (List DV))
 | []=>some []
 | i::is=>match hp[i]?,subHp hp is with
  | some b,some bs=>some (b::bs)
  | _,_=>none
def idxIn (ids:List Nat) (i:Nat):Nat:=ids.idxOf i
def backId (ids:List Nat) (n m:Nat) (j:Nat):Nat:=match ids[j]? with
 | some i=>i
 | none=>if j < m then n +(j - ids.length)else 0
def writeBack (hp:List (List DV)):List Nat→List (List DV)→List (List DV)
 | i::is,b::bs=>writeBack (hp.set i b) is bs
 | _,bs=>hp ++ bs
def St.kills (s:St) (ts:List Tmp):St:={s with tm:=fun i=>if ts.contains i then .un else s.tm i}
def afterCall (s:St) (dst:Option Tmp) (gone:List Tmp) (ids:List Nat) (r:DV) (bs':List (List DV)):St:=
 ({s.kills gone with hp:=writeBack s.hp ids (bs'.map (mapRefs (backId ids s.hp.length bs'.length)))}:St).put dst (mapRef (backId ids s.hp.length bs'.length) r)
def closedIn (ids:List Nat) (l:List Nat):Bool:=l.all fun i=>ids.contains i
def callTo (C:Ctx) (n:Nat) (o:Oper) (c:Call) (x:Operand) (s s':St):Prop:=
 dstOk n o.dst=true∧∃f cap ds sub args r bs',calleeD s x=some (f,cap)∧argsD s c.args.toList c.args.toList=some ds∧
  subHp s.hp (reach s.hp (ds ++ cap))=some sub∧closedIn (reach s.hp (ds ++ cap)) (boxRefs s.hp (reach s.hp (ds ++ cap)))=true∧(reach s.hp (ds ++ cap)).Nodup∧
  Wks (mapRefs (idxIn (reach s.hp (ds ++ cap))) (ds ++ cap)) args∧DCalls C f args (sub.map (mapRefs (idxIn (reach s.hp (ds ++ cap))))) r bs'∧
  s'=afterCall s o.dst (given s c.args.toList) (reach s.hp (ds ++ cap)) r bs'
theorem subHp_spec {hp:List (List DV)}:∀{ids:List Nat} {sub:List (List DV)},subHp hp ids=some sub→sub.length=ids.length∧∀(j i:Nat),ids[j]? =some i→∃b:List DV,hp[i]? =some b∧sub[j]? =some b
 | [],sub,e=>by simp only[subHp,Option.some.injEq]at e;subst e;simp
 | i::is,sub,e=>by
  simp only[subHp]at e;split at e
  ·rename_i b bs h1 h2;injection e with e;subst e
   obtain⟨q1,q2⟩:=subHp_spec h2;refine⟨by simp[q1],fun j i' hj=> ?_⟩;cases j with
   | zero=>simp at hj;subst hj;exact⟨b,h1,by simp⟩
   | succ j=>simp at hj;obtain⟨b',p1,p2⟩:=q2 j i' hj;exact⟨b',p1,by simpa using p2⟩
  ·cases e
theorem boxRefs_spec {hp:List (List DV)}:∀{ids:List Nat} {i:Nat} {b:List DV},i∈ids→hp[i]? =some b→∀j∈refsDs b,j∈boxRefs hp ids
 | [],i,b,hi,_,j,hj=>by simp at hi
 | x::xs,i,b,hi,hb,j,hj=>by
  simp only[boxRefs,List.mem_append];rcases List.mem_cons.1 hi with e | e
  ·subst e;rw[hb];exact .inl hj
  ·exact .inr (boxRefs_spec e hb j hj)
theorem addNew_mem:∀{xs l:List Nat} {i:Nat},(i∈l∨i∈xs)→i∈addNew l xs
 | [],l,i,h=>by simpa [addNew]using h
 | x::xs,l,i,h=>by
  simp only[addNew];apply addNew_mem;rcases h with h | h
  ·left;split
   ·exact h
   ·simp[h]
  ·rcases List.mem_cons.1 h with e | e
   ·left;subst e;split
    ·rename_i hc;simpa using hc
    ·simp
   ·right;exact e
theorem reach_mem {hp:List (List DV)} {ds:List DV} {i:Nat} (h:i∈refsDs ds):i∈reach hp ds:=by
 unfold reach;exact addNew_mem (.inl (addNew_mem (.inl (addNew_mem (.inr h)))))
theorem refsDs_append:∀(a b:List DV),refsDs (a ++ b)=refsDs a ++ refsDs b
 | [],b=>rfl
 | d::a,b=>by simp[refsDs,refsDs_append a b]
theorem idx_get {ids:List Nat} {i:Nat} (h:i∈ids):ids[idxIn ids i]? =some i:=by
 unfold idxIn;rw[List.getElem?_eq_getElem (List.idxOf_lt_length_of_mem h),List.getElem_idxOf]
end Go.Proofs.Dm
namespace Go.Proofs.Dm
open Go Go.RowKit
def isTmp (t:Tmp):Operand→Bool
 | .tmp u=>u==t
 | _=>false
theorem argsD_spec {s:St} {all:List Operand}:∀{xs:List Operand} {ds:List DV},argsD s all xs=some ds→ds.length=xs.length∧
  ∀(k:Nat) (x:Operand) (d:DV),xs[k]? =some x→ds[k]? =some d→∃d0,evalD s x=some d0∧
   ((hasOwn d=false∧((d=d0∧hasOwn d0=false)∨d=fz d0))∨(d=d0∧∃t,x= .tmp t∧hasOwn (s.tm t)=true∧(all.filter (isTmp t)).length=1))
 | [],ds,e=>by simp only[argsD,Option.some.injEq]at e;subst e;simp
 | x::xs,ds,e=>by
  simp only[argsD]at e;split at e
  ·rename_i d0 ds' h1 h2;injection e with e;subst e
   obtain⟨q1,q2⟩:=argsD_spec h2;refine⟨by simp[q1],fun k y d hy hd=> ?_⟩;cases k with
   | succ k=>exact q2 k y d (by simpa using hy) (by simpa using hd)
   | zero=>
    simp only[List.getElem?_cons_zero,Option.some.injEq]at hy hd;subst hy;subst hd;refine⟨d0,h1,?_⟩;have hfz:hasOwn (fz d0)=false:=by
     have:(∀d:DV,hasOwn (fz d)=false)∧(∀ds:List DV,hasOwns (fzs ds)=false):=by
      refine⟨fun d=> ?_,fun ds=> ?_⟩
      ·exact fz_noOwn d
      ·exact fzs_noOwn ds
     exact this.1 d0
    split
    ·rename_i ho;split
     ·rename_i t;split
      ·rename_i hc;simp only[evalD,Option.some.injEq]at h1;refine .inr ⟨rfl,t,rfl,by rw[h1];exact ho,?_⟩;rw[←hc];congr 1
      ·exact .inl ⟨hfz,.inr rfl⟩
     ·exact .inl ⟨hfz,.inr rfl⟩
    ·rename_i ho;have ho:hasOwn d0=false:=by simpa using ho
     exact .inl ⟨ho,.inl ⟨rfl,ho⟩⟩
  ·cases e
where
 fz_noOwn:∀d:DV,hasOwn (fz d)=false
  | .own _ _ _=>rfl
  | .agg cs=>by simp only[fz,hasOwn];exact fzs_noOwn cs
  | .tup cs=>by simp only[fz,hasOwn];exact fzs_noOwn cs
  | .fn _ cs=>by simp only[fz,hasOwn];exact fzs_noOwn cs
  | .p _=>rfl
  | .nil=>rfl
  | .ref _ _=>rfl
  | .fr _=>rfl
  | .un=>rfl
  | .ud=>rfl
  | .arr _ _ _ _=>rfl
  | .cp _ _=>rfl
  | .mt _ _=>rfl
  | .bn _ _ _=>rfl
 fzs_noOwn:∀ds:List DV,hasOwns (fzs ds)=false
  | []=>rfl
  | d::ds=>by simp only[fzs,hasOwns,fz_noOwn d,fzs_noOwn ds,Bool.or_false]
theorem given_mem {s:St}:∀{xs:List Operand} {t:Tmp},t∈given s xs↔(.tmp t∈xs∧hasOwn (s.tm t)=true)
 | [],t=>by simp[given]
 | x::xs,t=>by
  cases x with
  | tmp u=>
   simp only[given];split
   ·rename_i h;simp only[List.mem_cons,given_mem (xs:=xs),Operand.tmp.injEq];constructor
    ·rintro(e | ⟨e1,e2⟩)
     ·subst e;exact⟨.inl rfl,h⟩
     ·exact⟨.inr e1,e2⟩
    ·rintro⟨e | e,e2⟩
     ·exact .inl e
     ·exact .inr ⟨e,e2⟩
   ·rename_i h;simp only[given_mem (xs:=xs),List.mem_cons,Operand.tmp.injEq];constructor
    ·rintro⟨e1,e2⟩;exact⟨.inr e1,e2⟩
    ·rintro⟨e | e,e2⟩
     ·subst e;exact absurd e2 h
     ·exact⟨e,e2⟩
  | const v=>simp only[given,given_mem (xs:=xs)];simp
  | global g=>simp only[given,given_mem (xs:=xs)];simp
  | func f=>simp only[given,given_mem (xs:=xs)];simp
theorem findIdx_unique {α:Type} {p:α→Bool}:∀{l:List α} {k:Nat} {x:α},l[k]? =some x→p x=true→(l.filter p).length=1→l.findIdx? p=some k
 | [],k,x,h,_,_=>by simp at h
 | y::l,0,x,h,hp,hl=>by simp at h;subst h;simp[List.findIdx?_cons,hp]
 | y::l,k + 1,x,h,hp,hl=>by
  simp at h;have hy:p y=false:=by
   rcases hq:p y with _ | _
   ·rfl
   ·rw[List.filter_cons_of_pos (by simpa using hq)]at hl;have hm:x∈l.filter p:=List.mem_filter.2 ⟨List.mem_of_getElem? h,hp⟩;have:(l.filter p).length=0:=by simp only[List.length_cons]at hl;omega
    rw[List.eq_nil_of_length_eq_zero this]at hm;cases hm
  rw[List.filter_cons_of_neg (by simp[hy])]at hl;simp[List.findIdx?_cons,hy,findIdx_unique h hp hl]
theorem mapRefs_len (f:Nat→Nat):∀(ds:List DV),(mapRefs f ds).length=ds.length
 | []=>rfl
 | d::ds=>by simp[mapRefs,mapRefs_len f ds]
def mapIn (s:St) (args:List Operand) (ids:List Nat):Pos→Option Pos
 | .tmp (t::p)=>if hasOwn (s.tm t)then(args.findIdx? (isTmp t)).map fun k=> .tmp (k::p)else none
 | .cell (i::p)=>if ids.contains i then some (.cell (idxIn ids i::p))else none
 | .box i=>if ids.contains i then some (.box (idxIn ids i))else none
 | _=>none
def mapOut (dst:Option Tmp) (ids:List Nat) (n m:Nat):Pos→Pos
 | .res p=>match dst with
  | some d=> .tmp (d::p)
  | none=> .res []
 | .cell (j::p)=> .cell (backId ids n m j::p)
 | .box j=> .box (backId ids n m j)
 | _=> .res []
theorem idx_of_get {ids:List Nat} (hn:ids.Nodup) {j i:Nat} (h:ids[j]? =some i):idxIn ids i=j:=by
 obtain⟨hj,e⟩:=List.getElem?_eq_some_iff.1 h;unfold idxIn;subst e;exact hn.idxOf_getElem j hj
theorem writeBack_len:∀{hp:List (List DV)} {ids:List Nat} {bs:List (List DV)},ids.length≤bs.length→(writeBack hp ids bs).length=hp.length +(bs.length - ids.length)
 | hp,[],bs,h=>by cases bs <;> simp[writeBack]
 | hp,i::is,[],h=>by simp at h
 | hp,i::is,b::bs,h=>by simp only[writeBack];rw[writeBack_len (by simpa using h)];simp
theorem writeBack_get:∀{hp:List (List DV)} {ids:List Nat} {bs:List (List DV)},ids.Nodup→(∀i∈ids,i < hp.length)→ids.length≤bs.length→∀(i:Nat),
  (writeBack hp ids bs)[i]? =if i < hp.length then(if i∈ids then bs[idxIn ids i]? else hp[i]?)else bs[ids.length +(i - hp.length)]?
 | hp,[],bs,hn,hl,hb,i=>by
  have:writeBack hp [] bs=hp ++ bs:=by cases bs <;> rfl
  rw[this]
  by_cases h:i < hp.length
  ·rw[if_pos h,List.getElem?_append_left h];simp
  ·rw[if_neg h,List.getElem?_append_right (by omega)];simp
 | hp,x::xs,[],hn,hl,hb,i=>by simp at hb
 | hp,x::xs,b::bs,hn,hl,hb,i=>by
  simp only[writeBack];obtain⟨hx,hn'⟩:=List.nodup_cons.1 hn;rw[writeBack_get hn' (fun j hj=>by simpa using hl j (by simp[hj])) (by simpa using hb)];simp only[List.length_set]
  by_cases h:i < hp.length
  ·rw[if_pos h,if_pos h]
   by_cases hxs:i∈xs
   ·have hne:i≠x:=fun e=>hx (by rw[←e];exact hxs)
    rw[if_pos hxs,if_pos (by simp[hxs])];unfold idxIn;have hb:(x==i)=false:=by
     rw[beq_eq_false_iff_ne];exact fun e=>hne e.symm
    rw[List.idxOf_cons,hb];simp
   ·rw[if_neg hxs]
    by_cases hix:i=x
    ·subst hix;rw[if_pos (by simp),List.getElem?_set_self h];unfold idxIn;simp
    ·rw[if_neg (by simp[hix,hxs]),List.getElem?_set_ne (fun e=>hix e.symm)]
  ·rw[if_neg h,if_neg h];simp only[List.length_cons];have:xs.length + 1 +(i - hp.length)=(xs.length +(i - hp.length))+ 1:=by omega
   rw[this,List.getElem?_cons_succ]
theorem callTo_ok {C w0 h0 ow0 r0 n o} {c:Call} {x s s'} (hop:o.op= .call c) (hcal:c.callee= .value x) (hcall:callTo C n o c x s s'):StepOK C w0 h0 ow0 r0 n o s s':=by
 intro a w h ow ρ r K Q hK;obtain⟨hd,f,cap,ds,sub,args,res,bs',hcallee,hargs,hsub,hclosed,hnodup,hwk,hdc,hs'⟩:=hcall;generalize hids:reach s.hp (ds ++ cap)=ids at *;obtain⟨⟨fn,hfn,hname,hbody⟩,hdc⟩:=hdc;have hcal':∃cv cap0,evalD s x=some (.fn f cap0)∧cap=fzs cap0∧a.eval x= .func (.func f) #[] cv∧(∀O k,RepDs w h ρ cap O k cv.toList):=by
  unfold calleeD at hcallee;split at hcallee
  ·rename_i f' cap0 hx;injection hcallee with q;injection q with q1 q2;subst q1;subst q2
   have hr:=evalD_rep r hx;simp only[RepD]at hr;obtain⟨vs,hv,hr⟩:=hr;exact⟨vs,cap0,hx,rfl,hv,fun O k=>hr.fz_any O k⟩
  ·cases hcallee
 obtain⟨cv,cap0,hx,rfl,hv,hcv⟩:=hcal';obtain⟨hdl,hdspec⟩:=argsD_spec hargs;have hrun:(execOp a.eval o).run C.P w= .ok (.enter f (c.args.map a.eval ++ cv)) w:=by
  have hb:¬(fn.body.isNone=true):=by rw[hbody];simp
  simp only[execOp,hop,resolve,hcal,hv,Deferred.ofValue,Sem.run_bind,Sem.run_pure,Result.andThen_ok,invoke,callFunc,program,Sem.run,hfn,hname,Bool.false_eq_true,if_false,if_neg hb,Array.empty_append]
 obtain⟨hsl,hsubspec⟩:=subHp_spec hsub;have hidlt:∀i∈ids,i < s.hp.length:=by
  intro i hi;obtain⟨j,hj⟩:=List.mem_iff_getElem?.1 hi;obtain⟨b,q1,_⟩:=hsubspec j i hj;exact(List.getElem?_eq_some_iff.1 q1).1
 have hρget:∀i∈ids,ρ[i]? =some (ρ.getD i 0):=by
  intro i hi;have hlt:i < ρ.length:=by rw[←r.hr.len];exact hidlt i hi
  rw[List.getElem?_eq_getElem hlt,List.getD_eq_getElem?_getD,List.getElem?_eq_getElem hlt];rfl
 let ρc:List Nat:=ids.map fun i=>ρ.getD i 0
 let owc:Own:=fun g=>(ow g).bind (mapIn s c.args.toList ids)
 have hρc:∀i∈ids,ρc[idxIn ids i]? =ρ[i]? :=by
  intro i hi;simp only[ρc,List.getElem?_map,idx_get hi,Option.map_some,hρget i hi]
 have hA:RepDs w h ρ (ds ++ fzs cap0) (fun g p=>owc g=some (.tmp p)) 0 ((c.args.map a.eval).toList ++ cv.toList):=by
  refine RepDs.append (RepDs.of_get (by simp[hdl]) fun k d v hk hvk=> ?_) (hcv _ _);have hkx:k < c.args.toList.length:=by rw[←hdl];exact(List.getElem?_eq_some_iff.1 hk).1
  obtain⟨d0,q1,q2⟩:=hdspec k _ d (List.getElem?_eq_getElem hkx) hk;rw[Array.toList_map,List.getElem?_map,List.getElem?_eq_getElem hkx]at hvk;simp only[Option.map_some,Option.some.injEq]at hvk;subst hvk;have hr0:=evalD_rep r q1;rcases q2 with ⟨hno,⟨rfl,hno'⟩ | rfl⟩ | ⟨rfl,t,hxt,hot,huniq⟩
  ·exact RepD.free _ _ _ _ hno hr0
  ·exact RepD.fz _ _ _ _ hr0
  ·rw[hxt]at hr0⊢;refine hr0.rename fun g p ho=> ?_
   have ho:ow g=some (.tmp (t::p)):=ho;have hfi:=findIdx_unique (p:=isTmp t) (List.getElem?_eq_getElem hkx) (by rw[hxt];simp[isTmp]) huniq;simp only[owc,ho,Option.bind_some,mapIn,hot,if_true,hfi,Option.map_some,Nat.zero_add]
 have hA':RepDs w h ρc args (fun g p=>owc g=some (.tmp p)) 0 ((c.args.map a.eval).toList ++ cv.toList):=
  RepDs.wk hwk (RepDs.mapRefs _ _ _ _ _ (fun i hi=>hρc i (by rw[←hids];exact reach_mem hi)) hA)
 have hB:HR w h ρc owc (sub.map (mapRefs (idxIn ids))):=by
  refine⟨by simp[ρc,hsl],fun j bx b g1 g2 hne=> ?_,fun g hg=>r.hr.lt g (fun e=>hg (by simp[owc,e])),r.hr.hz⟩;simp only[ρc,List.getElem?_map]at g1 g2;obtain⟨i,hi1,hi2⟩:=Option.map_eq_some_iff.1 g2;obtain⟨bx0,hb1,hb2⟩:=hsubspec j i hi1;have hi:i∈ids:=List.mem_of_getElem? hi1;rw[hb2]at g1;simp only[Option.map_some,Option.some.injEq]at g1;subst g1;have hρi:ρ[i]? =some b:=by rw[hρget i hi,hi2]
  obtain⟨p1,p2,cs,T,hh,hl0,hrr⟩:=r.hr.box i bx0 b hb1 hρi (fun e=>hne (by rw[e];rfl));have hj:idxIn ids i=j:=idx_of_get hnodup hi1;refine⟨by simp[owc,p1,mapIn,hi,hj],p2,cs,T,hh,by rw[mapRefs_len];exact hl0,?_⟩;rw[mapRefs_len];refine RepDs.mapRefs _ _ _ _ _ (fun i' hi'=>hρc i' ?_) (hrr.rename fun g p ho=>by simp[owc,ho,mapIn,hi,hj]);have:=boxRefs_spec (ids:=ids) hi hb1 i' hi';have hc:=List.all_eq_true.1 hclosed i' this;simpa using hc
 have hG:Glob C w owc:=⟨r.glob.nb,fun b hb=>⟨(r.glob.eq b hb).1,by simp[owc,(r.glob.eq b hb).2]⟩⟩
 have hC:=hdc w h owc ρc _ hA' hB hG;unfold Oper.wp;rw[hrun];show Calls C.P f (c.args.map a.eval ++ cv) w _;have harr:(c.args.map a.eval ++ cv)=((c.args.map a.eval).toList ++ cv.toList).toArray:=by simp
 rw[harr];refine hC.mono fun e w' ⟨v,h',owc',ex,he,hfr,hhr,hrv⟩=> ?_
 subst he;show K (a.put o.dst v) w';have hmine:∀g,owc' g≠none→¬(g < w.heap.size∧owc g=none):=fun g hg hc=>hg (hfr.keep g hc.1 hc.2).2.2
 let ow':Own:=fun g=>if g < w.heap.size∧owc g=none then ow g else(owc' g).map (mapOut o.dst ids s.hp.length bs'.length)
 have hlen:ids.length≤bs'.length:=by rw[hhr.len];simp[ρc]
 have hρlen:s.hp.length=ρ.length:=r.hr.len;have hρb:∀j,j < bs'.length→(ρ ++ ex)[backId ids s.hp.length bs'.length j]? =(ρc ++ ex)[j]? :=by
  intro j hjm;unfold backId;split
  ·rename_i i hj;have hi:i∈ids:=List.mem_of_getElem? hj;have hjl:=(List.getElem?_eq_some_iff.1 hj).1;rw[List.getElem?_append_left (by rw[←hρlen];exact hidlt i hi),List.getElem?_append_left (by simpa [ρc]using hjl)];simp only[ρc,List.getElem?_map,hj,Option.map_some,hρget i hi]
  ·rename_i hj;have hjl:ids.length≤j:=List.getElem?_eq_none_iff.1 hj;rw[if_pos hjm,List.getElem?_append_right (by omega),List.getElem?_append_right (by simpa [ρc]using hjl)]
   congr 1
   simp[ρc];omega
 have hrng:∀j,(∃b,(ρc ++ ex)[j]? =some b)→j < bs'.length:=by
  rintro j ⟨b,hb⟩;have:=(List.getElem?_eq_some_iff.1 hb).1;rw[hhr.len];exact this
 have hst:Stable w h w' h':=hfr.st;have hkeepO:∀(P:Nat→List Nat→Prop),(∀g p,P g p→ow g≠none∧owc g=none)→∀g p,P g p→w'.heap[g]? =w.heap[g]? ∧h' g=h g∧ow' g=ow g:=by
  intro P hP g p hp;obtain⟨k1,k2⟩:=hP g p hp;have hlt:=r.hr.lt g k1;obtain⟨e1,e2,e3⟩:=hfr.keep g hlt k2;exact⟨e1,e2,by simp only[ow'];rw[if_pos ⟨hlt,k2⟩]⟩
 have hpre:∀(i b:Nat),ρ[i]? =some b→(ρ ++ ex)[i]? =some b:=fun i b hi=>by
  rw[List.getElem?_append_left (List.getElem?_eq_some_iff.1 hi).1];exact hi
 have hout:∀g q,owc' g=some q→ow' g=some (mapOut o.dst ids s.hp.length bs'.length q):=by
  intro g q hq;simp only[ow'];rw[if_neg (hmine g (by rw[hq];simp)),hq];rfl
 have hfr':Fr w h ow w' h' ow':=⟨hst,hfr.size,hfr.os,hfr.tape,hfr.output,fun b hb ho=>by
  have hoc:owc b=none:=by simp[owc,ho]
  obtain⟨e1,e2,e3⟩:=hfr.keep b hb hoc;exact⟨e1,e2,by simp only[ow'];rw[if_pos ⟨hb,hoc⟩];exact ho⟩⟩
 have hwlen:=writeBack_len (hp:=s.hp) (ids:=ids) (bs:=bs'.map (mapRefs (backId ids s.hp.length bs'.length))) (by simpa using hlen);refine hK _ _ h' ow' (ρ ++ ex) ?_;rw[hs'];have hHR:HR w' h' (ρ ++ ex) ow' (writeBack s.hp ids (bs'.map (mapRefs (backId ids s.hp.length bs'.length)))):=by
  refine⟨?_,fun i bx b g1 g2 hne=> ?_,fun g hg=> ?_,hhr.hz⟩
  ·rw[hwlen];have:=hhr.len;simp[ρc]at this;simp;omega
  ·rw[writeBack_get hnodup hidlt (by simpa using hlen)]at g1
   have fromC : ∀ j (bx0 : List DV), bs'[j]? = some bx0 → i = backId ids s.hp.length bs'.length j → bx = mapRefs (backId ids s.hp.length bs'.length) bx0 →
       ow' b=some (.box i)∧h' b=0∧∃cs T,w'.heap[b]? =some (.cells cs T (0,0))∧bx.length≤cs.size∧RepDs w' h' (ρ ++ ex) bx (fun g p=>ow' g=some (.cell (i::p))) 0 (cs.toList.take bx.length):=by
     intro j bx0 hj hij hbx
     subst hbx
     have hjb:(ρc ++ ex)[j]? =some b:=by rw[←hρb j (List.getElem?_eq_some_iff.1 hj).1,←hij];exact g2
     obtain⟨p1,p2,cs,T,hh,hl0,hrr⟩:=hhr.box j bx0 b hj hjb (fun e=>hne (by rw[e];rfl))
     refine⟨by rw[hout b _ p1,hij];rfl,p2,cs,T,hh,by rw[mapRefs_len];exact hl0,?_⟩
     rw[mapRefs_len]
     exact RepDs.mapRefs _ _ _ _ _ (fun i' hi'=>hρb i' (hrng i' (RepDs.refs_ok _ _ _ _ hrr i' hi'))) (hrr.rename fun g p ho=>by rw[hout g _ ho,hij];rfl)
   split at g1
   ·rename_i hilt;split at g1
    ·rename_i hi;rw[List.getElem?_map]at g1;obtain⟨bx0,q1,q2⟩:=Option.map_eq_some_iff.1 g1;exact fromC _ bx0 q1 (by unfold backId;rw[idx_get hi]) q2.symm
    ·rename_i hi;have hρi:ρ[i]? =some b:=by
      rw[List.getElem?_append_left (by omega)]at g2;exact g2
     obtain⟨p1,p2,cs,T,hh,hl0,hrr⟩:=r.hr.box i bx b g1 hρi hne;have hb:=hkeepO (fun g _=>g=b) (fun g p e=>by rw[e];exact⟨by rw[p1];simp,by simp[owc,p1,mapIn,hi]⟩) b [] rfl;refine⟨by rw[hb.2.2];exact p1,by rw[hb.2.1];exact p2,cs,T,by rw[hb.1];exact hh,hl0,?_⟩;refine RepDs.step hst hpre bx _ _ 0 _ (fun g p ho=> ?_) hrr;have:=hkeepO (fun g p=>ow g=some (.cell (i::p))) (fun g p e=>⟨by rw[e];simp,by simp[owc,e,mapIn,hi]⟩) g p ho;exact⟨this.1,this.2.1,by rw[this.2.2];exact ho⟩
   ·rename_i hilt;rw[List.getElem?_map]at g1;obtain⟨bx0,q1,q2⟩:=Option.map_eq_some_iff.1 g1;refine fromC _ bx0 q1 ?_ q2.symm;unfold backId;rw[List.getElem?_eq_none_iff.2 (by omega)];simp only[];rw[if_pos (List.getElem?_eq_some_iff.1 q1).1];omega
  ·by_cases hc:g < w.heap.size∧owc g=none
   ·exact Nat.lt_of_lt_of_le hc.1 hfr.size
   ·simp only[ow']at hg;rw[if_neg hc]at hg;exact hhr.lt g (fun e=>hg (by simp[e]))
 have hgone:∀i,((s.kills (given s c.args.toList)).tm i= .un)∨((s.kills (given s c.args.toList)).tm i=s.tm i∧∀g p,ow g=some (.tmp (i::p))→owc g=none):=by
  intro i;simp only[St.kills]
  by_cases hi:(given s c.args.toList).contains i=true
  ·rw[if_pos hi];exact .inl rfl
  ·rw[if_neg hi];refine .inr ⟨rfl,fun g p ho=> ?_⟩;simp only[owc,ho,Option.bind_some,mapIn];split
   ·rename_i hown;have:(c.args.toList.findIdx? (isTmp i))=none:=by
     rw[List.findIdx?_eq_none_iff];intro y hy;rcases hq:isTmp i y with _ | _
     ·rfl
     ·exfalso
      apply hi;have hyt:y= .tmp i:=by
       cases y <;> simp[isTmp]at hq
       rw[hq]
      rw[hyt]at hy;simpa using(given_mem (s:=s)).2 ⟨hy,hown⟩
    rw[this];rfl
   ·rfl
 have htm:∀i,RepD w' h' (ρ ++ ex) ((s.kills (given s c.args.toList)).tm i) (fun g p=>ow' g=some (.tmp (i::p))) (a.tmps.getD i undef):=by
  intro i;rcases hgone i with e | ⟨e,q⟩
  ·rw[e];simp only[RepD]
  ·rw[e];refine RepD.step hst hpre _ _ _ _ (fun g p ho=> ?_) (r.tm i);have:=hkeepO (fun g p=>ow g=some (.tmp (i::p))) (fun g p e=>⟨by rw[e];simp,q g p e⟩) g p ho;exact⟨this.1,this.2.1,by rw[this.2.2];exact ho⟩
 have hdom:∀i,n≤i→(s.kills (given s c.args.toList)).tm i= .un:=by
  intro i hi;simp only[St.kills];split
  ·rfl
  ·exact r.dom i hi
 have hpre':∃ex',ρ ++ ex=r0 ++ ex':=by
  obtain⟨ex0,hex⟩:=r.pre;exact⟨ex0 ++ ex,by rw[hex,List.append_assoc]⟩
 unfold afterCall;rcases hdst:o.dst with _ | d
 ·simp only[St.put,Act.put];exact⟨r.glob.fr hfr',r.fr.trans hfr',hHR,r.defers,r.size,htm,hdom,hpre'⟩
 ·rw[hdst]at hd;simp only[dstOk,decide_eq_true_eq]at hd;have hd':d < a.tmps.size:=by rw[r.size];exact hd
  refine⟨r.glob.fr hfr',r.fr.trans hfr',hHR,r.defers,by simpa [Act.put]using r.size,fun i=> ?_,fun i hi=> ?_,hpre'⟩
  ·rw[getD_put a d _ i hd'];simp only[St.put]
   by_cases hid:i=d
   ·rw[if_pos hid,if_pos hid];refine RepD.mapRef _ _ _ _ (fun i' hi'=>hρb i' (hrng i' (RepD.refs_ok _ _ _ hrv i' hi'))) (hrv.rename fun g p ho=> ?_);rw[hout g _ ho,hdst,hid];rfl
   ·rw[if_neg hid,if_neg hid];exact htm i
  ·simp only[St.put];rw[if_neg (fun e=>by rw[e]at hi;exact absurd hi (Nat.not_le_of_gt hd))];exact hdom i hi
end Go.Proofs.Dm
namespace Go.Proofs.Dm
open Go Go.RowKit
def handsOn (t:Tmp) (o:Oper):Bool:=
 if o.op.operands.any (isTmp t)then
  match o.op with
  | .assign _=>true
  | .store _ a _=> !(isTmp t a)
  | .build _ _=>true
  | .buildSlice _ _ _=>true
  | .call c=>match c.callee,c.args.toList with
   | .builtin .append,[x,y]=>isTmp t x&& !(isTmp t y)
   | _,_=>false
  | _=>false
 else true
def lenOf (t:Tmp) (o:Oper):Bool:=match o.op with
 | .call c=>match c.callee,c.args.toList with
  | .builtin .len,[x]=>isTmp t x
  | _,_=>false
 | _=>false
def takes (ops:List Oper) (o:Oper):Bool:=
 match o.dst with
 | some t=>ops.all (fun q=>lenOf t q || handsOn t q)&&ops.any (fun q=>q.op.operands.any (isTmp t)&& !(lenOf t q))
 | none=>false
def guardD (ops:Array Oper) (o:Oper) (s:St):Option Bool:=
 match o.guard with
 | none=>some true
 | some (j,want)=>match(ops[j]?).bind (·.dst)with
  | some t=>match s.tm t with
   | .p (.bool b)=>some (b==want)
   | .ud=>some false
   | _=>none
  | none=>none
theorem guardD_ok {C w0 h0 ow0 r0 n s a w h ow ρ} (r:Rel C w0 h0 ow0 r0 n s a w h ow ρ) {ops:Array Oper} {o:Oper} {b:Bool} (e:guardD ops o s=some b):Region.wanted o (yielded ops a.tmps)=b:=by
 unfold guardD at e;unfold Region.wanted;split at e
 ·rename_i hg;injection e with e;subst e;rw[hg]
 ·rename_i j want hg;rw[hg];split at e
  ·rename_i t ht;split at e
   ·rename_i b' hb;injection e with e;subst e
    have:=r.tm t;rw[hb]at this;simp only[RepD,Rep]at this;have hlt:t < n:=by
     rcases Nat.lt_or_ge t n with q | q
     ·exact q
     ·rw[r.dom t q]at hb;cases hb
    have hget:a.tmps[t]? =some (.bool b'):=by
     have hl:t < a.tmps.size:=by rw[r.size];exact hlt
     rw[Array.getD_eq_getD_getElem?,Array.getElem?_eq_getElem hl]at this;rw[Array.getElem?_eq_getElem hl];simpa using this
    simp only[yielded,ht,Option.bind_some,hget];cases b' <;> cases want <;> rfl
   ·rename_i hb;injection e with e;subst e
    have:=r.tm t;rw[hb]at this;simp only[RepD]at this;have hlt:t < n:=by
     rcases Nat.lt_or_ge t n with q | q
     ·exact q
     ·rw[r.dom t q]at hb;cases hb
    have hget:a.tmps[t]? =some undef:=by
     have hl:t < a.tmps.size:=by rw[r.size];exact hlt
     rw[Array.getD_eq_getD_getElem?,Array.getElem?_eq_getElem hl]at this;rw[Array.getElem?_eq_getElem hl];simpa using this
    simp only[yielded,ht,Option.bind_some,hget];cases want <;> rfl
   ·cases e
  ·cases e
def opTo (C:Ctx) (n:Nat) (tk:Bool) (o:Oper) (s s':St):Prop:=
 match o.op with
 | .call c=>match c.callee with
  | .value x=>callTo C n o c x s s'
  | _=>stepD C.P n tk o s=some s'
 | _=>stepD C.P n tk o s=some s'
theorem opTo_ok {C w0 h0 ow0 r0 n tk o s s'} (e:opTo C n tk o s s'):StepOK C w0 h0 ow0 r0 n o s s':=by
 unfold opTo at e;split at e
 ·rename_i c hop;split at e
  ·rename_i x hc;exact callTo_ok hop hc e
  ·exact stepD_ok e
 ·exact stepD_ok e
def opsTo (C:Ctx) (n:Nat) (ops:Array Oper):List Oper→St→St→Prop
 | [],s,s'=>s=s'
 | o::rest,s,s'=>∃g,guardD ops o s=some g∧dstOk n o.dst=true∧∃s1,(if g then opTo C n (takes ops.toList o) o s s1 else s1=s.put o.dst .ud)∧opsTo C n ops rest s1 s'
theorem opsTo_ok {C w0 h0 ow0 r0 n} {ops:Array Oper} {Q:Exit→Act→World→Prop}:∀(l:List Oper) (s s':St),opsTo C n ops l s s'→(Good C w0 h0 ow0 r0 n s' (Q .normal))→
  Good C w0 h0 ow0 r0 n s (fun a w=>wpList C.P ops Q l a w)
 | [],s,s',e,hK=>by
  simp only[opsTo]at e;subst e;intro a w h ow ρ r;exact hK a w h ow ρ r
 | o::rest,s,s',e,hK=>by
  obtain⟨g,hg,hd,s1,h1,h2⟩:=e;have ih:=opsTo_ok rest s1 s' h2 hK;intro a w h ow ρ r;have hw:=guardD_ok r hg;unfold wpList;cases g with
  | true=>
   rw[if_pos hw];simp only[if_true]at h1;exact .inl (opTo_ok h1 a w h ow ρ r _ Q ih)
  | false=>
   rw[if_neg (by rw[hw];simp)];simp only[Bool.false_eq_true,if_false]at h1;subst h1;exact ih _ _ _ _ _ (r.put o.dst hd fun O=>by simp only[RepD])
end Go.Proofs.Dm
namespace Go.Proofs.Dm
open Go Go.RowKit
def upd (t:Nat→DV) (d:Nat) (v:DV):Nat→DV:=fun i=>if i=d then v else t i
theorem upd_same (t:Nat→DV) (d:Nat) (v:DV):upd t d v d=v:=by simp[upd]
theorem upd_ne (t:Nat→DV) (d i:Nat) (v:DV) (h:(i==d)=false):upd t d v i=t i:=by simp[upd];intro e;simp[e]at h
def ini:List DV→Nat→DV
 | [],_=> .un
 | a::_,0=>a
 | _::as,n + 1=>ini as n
theorem ini_eq:∀(l:List DV),(fun i=>l.getD i .un)=ini l
 | []=>by funext i;simp[ini]
 | a::as=>by
  funext i
  cases i with
  | zero=>simp[ini]
  | succ n=>
   have:=congrFun (ini_eq as) n;simp only[ini,←this];simp
def IfGoal (t:Bool) (a b:St→Prop) (s:St):Prop:=if t=true then a s else b s
theorem IfGoal_true (a b:St→Prop) (s:St):IfGoal true a b s=a s:=by simp[IfGoal]
theorem IfGoal_false (a b:St→Prop) (s:St):IfGoal false a b s=b s:=by simp[IfGoal]
theorem IfGoal.intro {t:Bool} {a b:St→Prop} {s:St} (h1:t=true→a s) (h2:t=false→b s):IfGoal t a b s:=by
 cases t
 ·rw[IfGoal_false];exact h2 rfl
 ·rw[IfGoal_true];exact h1 rfl
def CallGoal (C:Ctx) (f:FuncId) (a:List DV) (sub:List (List DV)) (k:St→Prop) (s:St) (dst:Option Tmp) (gone:List Tmp) (ids:List Nat):Prop:=
 ∃args r bs',Wks a args∧DCalls C f args sub r bs'∧k (afterCall s dst gone ids r bs')
theorem CallGoal.intro {C:Ctx} {f:FuncId} {a:List DV} {sub:List (List DV)} {k:St→Prop} {s:St} {dst:Option Tmp} {gone:List Tmp} {ids:List Nat} {args r bs'}
  (hd:DCalls C f args sub r bs') (hw:Wks a args) (hk:k (afterCall s dst gone ids r bs')):CallGoal C f a sub k s dst gone ids:=⟨args,r,bs',hw,hd,hk⟩
def nodupB:List Nat→Bool
 | []=>true
 | x::xs=> !(xs.contains x)&&nodupB xs
theorem nodupB_spec:∀{l:List Nat},nodupB l=true→l.Nodup
 | [],_=>List.nodup_nil
 | x::xs,h=>by
  simp only[nodupB,Bool.and_eq_true,Bool.not_eq_true']at h;exact List.nodup_cons.2 ⟨by intro hm;have:=h.1;simp[hm]at this,nodupB_spec h.2⟩
def callPrep2 (hp:List (List DV)) (f:FuncId) (dc:List DV) (gone:List Tmp) (ids:List Nat):Option (FuncId×List DV×List Nat×List (List DV)×List Tmp):=
 match subHp hp ids with
 | some sub=>if closedIn ids (boxRefs hp ids)&&nodupB ids then some (f,mapRefs (idxIn ids) dc,ids,sub.map (mapRefs (idxIn ids)),gone)else none
 | none=>none
def callPrep (s:St) (x:Operand) (args:List Operand):Option (FuncId×List DV×List Nat×List (List DV)×List Tmp):=
 match calleeD s x,argsD s args args with
 | some (f,cap),some ds=>callPrep2 s.hp f (ds ++ cap) (given s args) (reach s.hp (ds ++ cap))
 | _,_=>none
def opWp (C:Ctx) (n:Nat) (tk:Bool) (o:Oper) (k:St→Prop) (s:St):Prop:=
 match o.op with
 | .call c=>match c.callee with
  | .value x=>match callPrep s x c.args.toList with
   | some (f,a,ids,sub,gone)=>CallGoal C f a sub k s o.dst gone ids
   | none=>False
  | _=>match stepD C.P n tk o s with
   | some s'=>k s'
   | none=>False
 | _=>match stepD C.P n tk o s with
  | some s'=>k s'
  | none=>False
theorem opWp_to {C n tk o k s} (hd:dstOk n o.dst=true) (e:opWp C n tk o k s):∃s',opTo C n tk o s s'∧k s':=by
 unfold opWp at e;unfold opTo;cases hop:o.op with
 | call c=>
  rw[hop]at e;dsimp only at e⊢;cases hc:c.callee with
  | value x=>
   rw[hc]at e;dsimp only at e⊢;split at e
   ·rename_i f a ids sub gone hp;obtain⟨args,r,bs',hw,hdc,hk⟩:=e;unfold callPrep at hp;split at hp
    ·rename_i f' cap ds h1 h2;unfold callPrep2 at hp;split at hp
     ·rename_i sub' h3;split at hp
      ·rename_i h4;simp only[Bool.and_eq_true]at h4;simp only[Option.some.injEq,Prod.mk.injEq]at hp;obtain⟨rfl,rfl,rfl,rfl,rfl⟩:=hp;exact⟨_,⟨hd,f',cap,ds,sub',args,r,bs',h1,h2,h3,h4.1,nodupB_spec h4.2,hw,hdc,rfl⟩,hk⟩
      ·cases hp
     ·cases hp
    ·cases hp
   ·exact e.elim
  | _=>
   rw[hc]at e;dsimp only at e⊢;split at e
   ·rename_i s' hs;exact⟨s',hs,e⟩
   ·exact e.elim
 | _=>
  rw[hop]at e;dsimp only at e⊢;split at e
  ·rename_i s' hs;exact⟨s',hs,e⟩
  ·exact e.elim
def opsWp (C:Ctx) (n:Nat) (ops:List Oper):List Oper→(St→Prop)→St→Prop
 | [],k,s=>k s
 | o::rest,k,s=>match o.guard with
  | none=>dstOk n o.dst=true∧opWp C n (takes ops o) o (opsWp C n ops rest k) s
  | some (j,want)=>match(ops[j]?).bind (·.dst)with
   | some t=>match s.tm t with
    | .p (.bool b)=>dstOk n o.dst=true∧IfGoal (b==want) (opWp C n (takes ops o) o (opsWp C n ops rest k)) (fun s=>opsWp C n ops rest k (s.put o.dst .ud)) s
    | .ud=>dstOk n o.dst=true∧opsWp C n ops rest k (s.put o.dst .ud)
    | _=>False
   | none=>False
theorem opsWp_to {C n} {ops:List Oper}:∀{l:List Oper} {k s},opsWp C n ops l k s→∃s',opsTo C n ops.toArray l s s'∧k s'
 | [],k,s,e=>⟨s,rfl,e⟩
 | o::rest,k,s,e=>by
  simp only[opsWp]at e;simp only[opsTo];split at e
  ·rename_i hg;obtain⟨hd,e⟩:=e;obtain⟨s1,h1,h2⟩:=opWp_to hd e;obtain⟨s',h3,h4⟩:=opsWp_to h2;exact⟨s',⟨true,by simp[guardD,hg],hd,s1,by simpa using h1,h3⟩,h4⟩
  ·rename_i j want hg;split at e
   ·rename_i t ht;split at e
    ·rename_i b hb;obtain⟨hd,e⟩:=e;have hgd:guardD ops.toArray o s=some (b==want):=by
      simp only[guardD,hg,List.getElem?_toArray,ht,hb]
     rcases hbw:(b==want)with _ | _
     ·rw[hbw,IfGoal_false]at e;obtain⟨s',h3,h4⟩:=opsWp_to e;exact⟨s',⟨false,by rw[hgd,hbw],hd,_,by simp,h3⟩,h4⟩
     ·rw[hbw,IfGoal_true]at e;obtain⟨s1,h1,h2⟩:=opWp_to hd e;obtain⟨s',h3,h4⟩:=opsWp_to h2;exact⟨s',⟨true,by rw[hgd,hbw],hd,s1,by simpa using h1,h3⟩,h4⟩
    ·rename_i hb;obtain⟨hd,e⟩:=e;have hgd:guardD ops.toArray o s=some false:=by
      simp only[guardD,hg,List.getElem?_toArray,ht,hb]
     obtain⟨s',h3,h4⟩:=opsWp_to e;exact⟨s',⟨false,hgd,hd,_,by simp,h3⟩,h4⟩
    ·exact e.elim
   ·exact e.elim
end Go.Proofs.Dm
namespace Go.Proofs.Dm
open Go Go.RowKit
def setO (hp:List (List DV)):Option (Nat×List DV)→List (List DV)
 | none=>hp
 | some (i,b)=>hp.set i b
def mu (dx:Nat) (v:DV) (ib:Option (Nat×List DV)) (s:St):St:=⟨upd s.tm dx v,setO s.hp ib⟩
theorem setO_len (hp:List (List DV)) (ib):(setO hp ib).length=hp.length:=by cases ib <;> simp[setO]
def offBox (ib:Option (Nat×List DV)) (i:Nat):Prop:=∀j b,ib=some (j,b)→j≠i
theorem setO_get {hp:List (List DV)} {ib} {i:Nat} (h:offBox ib i):(setO hp ib)[i]? =hp[i]? :=by
 cases ib with
 | none=>rfl
 | some p=>obtain⟨j,b⟩:=p;simp only[setO];rw[List.getElem?_set_ne (h j b rfl)]
theorem setO_set {hp:List (List DV)} {ib} {i:Nat} {b:List DV} (h:offBox ib i):(setO hp ib).set i b=setO (hp.set i b) ib:=by
 cases ib with
 | none=>rfl
 | some p=>obtain⟨j,c⟩:=p;simp only[setO];exact List.set_comm _ _ (h j c rfl)
theorem setO_append {hp:List (List DV)} {ib} {bs:List (List DV)} (h:∀j b,ib=some (j,b)→j < hp.length):setO hp ib ++ bs=setO (hp ++ bs) ib:=by
 cases ib with
 | none=>rfl
 | some p=>obtain⟨j,c⟩:=p;simp only[setO];rw[List.set_append_left _ _ (h j c rfl)]
def looksD (o:Oper):List Tmp:=o.op.operands.toList.filterMap fun | .tmp t=>some t | _=>none
theorem evalD_mu {dx v ib s} {x:Operand} (h:x≠ .tmp dx):evalD (mu dx v ib s) x=evalD s x:=by
 cases x with
 | tmp t=>
  have:t≠dx:=fun e=>h (by rw[e])
  simp[evalD,mu,upd,this]
 | const c=>rfl
 | global g=>rfl
 | func f=>rfl
theorem put_mu {dx v ib s} {d:Option Tmp} {u:DV} (h:d≠some dx):(mu dx v ib s).put d u=mu dx v ib (s.put d u):=by
 cases d with
 | none=>rfl
 | some d=>
  have:d≠dx:=fun e=>h (by rw[e])
  simp only[mu,St.put,upd,St.mk.injEq,and_true]
  funext i
  by_cases h1:i=d
  ·subst h1;simp[this,upd]
  ·by_cases h2:i=dx
   ·subst h2;simp[h1,upd]
   ·simp[h1,h2,upd]
theorem tm_mu {dx v ib s} {t:Nat} (h:t≠dx):(mu dx v ib s).tm t=s.tm t:=by simp[mu,upd,h]
theorem hp_mu {dx v ib s}:(mu dx v ib s).hp=setO s.hp ib:=rfl
theorem mapD_congr {ev ev':Operand→Option DV}:∀{xs:List Operand},(∀x∈xs,ev x=ev' x)→mapD ev xs=mapD ev' xs
 | [],_=>rfl
 | x::xs,h=>by simp only[mapD,h x (by simp),mapD_congr (xs:=xs) (fun y hy=>h y (by simp[hy]))]
theorem optInt_congr {ev ev':Operand→Option DV} {n:Int} {x:Option Operand} (h:∀y∈x,ev y=ev' y):optInt ev n x=optInt ev' n x:=by
 cases x with
 | none=>rfl
 | some y=>simp only[optInt,h y (by simp)]
theorem callD_congr {P:Program} {ev ev':Operand→Option DV} {c:Call} (h:∀x∈c.operands.toList,ev x=ev' x):callD P ev c=callD P ev' c:=by
 obtain⟨callee,args,types⟩:=c;have ha:∀x∈args.toList,ev x=ev' x:=fun x hx=>h x (by simp only[Call.operands,Array.toList_append,List.mem_append];exact .inr hx)
 unfold callD;split
 ·split
  ·rename_i x t hx _;rw[ha x (by dsimp only at hx;rw[hx];simp)]
  ·rfl
 ·split
  ·rename_i x y hx;rw[ha x (by dsimp only at hx;rw[hx];simp),ha y (by dsimp only at hx;rw[hx];simp)]
  ·rfl
 ·split
  ·rename_i x y hx;rw[ha x (by dsimp only at hx;rw[hx];simp),ha y (by dsimp only at hx;rw[hx];simp)]
  ·rfl
 ·rfl
theorem pureD_congr {P:Program} {ev ev':Operand→Option DV} {op:Op} (h:∀x∈op.operands.toList,ev x=ev' x):pureD P ev op=pureD P ev' op:=by
 cases op with
 | pick c a b=>simp only[pureD,h c (by simp[Op.operands]),h a (by simp[Op.operands]),h b (by simp[Op.operands])]
 | nilCheck x=>simp only[pureD,h x (by simp[Op.operands])]
 | binOp op t x y yt=>simp only[pureD,h x (by simp[Op.operands]),h y (by simp[Op.operands])]
 | unOp op t x=>cases op <;> simp only[pureD,h x (by simp[Op.operands])]
 | field t x i=>simp only[pureD,h x (by simp[Op.operands])]
 | fieldAddr t x i=>simp only[pureD,h x (by simp[Op.operands])]
 | indexAddr t x y=>simp only[pureD,h x (by simp[Op.operands]),h y (by simp[Op.operands])]
 | index t x y=>simp only[pureD,h x (by simp[Op.operands]),h y (by simp[Op.operands])]
 | slice t x lo hi mx=>
  cases mx with
  | some m=>
   simp only[pureD,slice3D,h x (by simp[Op.operands])];have e1:∀n,optInt ev n lo=optInt ev' n lo:=fun n=>optInt_congr fun y hy=>h y (by
    simp only[Option.mem_def]at hy;subst hy;simp[Op.operands])
   have e2:∀n,optInt ev n hi=optInt ev' n hi:=fun n=>optInt_congr fun y hy=>h y (by
    simp only[Option.mem_def]at hy;subst hy;simp[Op.operands])
   have e3:∀n,optInt ev n (some m)=optInt ev' n (some m):=fun n=>optInt_congr fun y hy=>h y (by
    simp only[Option.mem_def]at hy;injection hy with hy;subst hy;simp[Op.operands])
   simp only[e1,e2,e3]
  | none=>
   simp only[pureD,sliceD,h x (by simp[Op.operands])];have e1:∀n,optInt ev n lo=optInt ev' n lo:=fun n=>optInt_congr fun y hy=>h y (by
    simp only[Option.mem_def]at hy;subst hy;simp[Op.operands])
   have e2:∀n,optInt ev n hi=optInt ev' n hi:=fun n=>optInt_congr fun y hy=>h y (by
    simp only[Option.mem_def]at hy;subst hy;simp[Op.operands])
   simp only[e1,e2]
 | convert s d x=>simp only[pureD,h x (by simp[Op.operands])]
 | extract x i=>simp only[pureD,h x (by simp[Op.operands])]
 | makeFunc f first cap=>
  cases f <;> simp only[pureD]
  split
  ·rw[mapD_congr fun x hx=>h x (by simp only[Op.operands,Array.toList_append,List.mem_append];exact .inr hx)]
  ·rfl
 | call c=>simp only[pureD];exact callD_congr (by simpa only[Op.operands]using h)
 | _=>simp only[pureD]
theorem mem_looks {o:Oper} {t:Tmp}:t∈looksD o↔(.tmp t:Operand)∈o.op.operands.toList:=by
 simp only[looksD,List.mem_filterMap];constructor
 ·rintro⟨x,hx,e⟩;cases x <;> simp at e
  subst e;exact hx
 ·intro h;exact⟨_,h,rfl⟩
theorem ev_mu {dx v ib s} {o:Oper} (h:dx∉looksD o):∀x∈o.op.operands.toList,evalD (mu dx v ib s) x=evalD s x:=
 fun x hx=>evalD_mu fun e=>h (mem_looks.2 (by rw[←e];exact hx))
theorem moveD_mu {P tk o x dx v ib s s'} (hl:dx∉looksD o) (hd:o.dst≠some dx) (hx:x∈o.op.operands.toList) (e:moveD P tk o x s=some s'):moveD P tk o x (mu dx v ib s)=some (mu dx v ib s'):=by
 unfold moveD at e⊢;split at e
 ·rename_i t;have ht:t≠dx:=fun q=>hl (mem_looks.2 (by rw[←q];exact hx))
  rw[tm_mu ht];split at e
  ·rename_i ho;rw[if_pos ho];split at e
   ·rename_i htk;rw[if_pos htk];split at e
    ·rename_i d hdst;injection e with e;subst e
     have:(some t:Option Tmp)≠some dx:=fun q=>ht (by injection q)
     rw[put_mu this,put_mu (by rw[←hdst];exact hd)]
    ·cases e
   ·rename_i htk;rw[if_neg htk];injection e with e;subst e
    rw[put_mu hd]
  ·rename_i ho;rw[if_neg ho];injection e with e;subst e
   rw[put_mu hd]
 ·rename_i hx';have:=evalD_mu (dx:=dx) (v:=v) (ib:=ib) (s:=s) (x:=x) (fun q=>hx' dx q);split at e
  ·rename_i d he;injection e with e;subst e
   rw[this,he];simp only[put_mu hd]
  ·cases e
theorem newhp_mu {dx v ib s} {d:Option Tmp} {u:DV} {bs:List (List DV)} (hd:d≠some dx) (hb:∀j b,ib=some (j,b)→j < s.hp.length):
  ({(mu dx v ib s).put d u with hp:=(mu dx v ib s).hp ++ bs}:St)=mu dx v ib {s.put d u with hp:=s.hp ++ bs}:=by
 rw[put_mu hd];simp only[mu,St.mk.injEq,true_and];rw[setO_append hb]
theorem allocD_mu {P o t dx v ib s s'} (hd:o.dst≠some dx) (hb:∀j b,ib=some (j,b)→j < s.hp.length) (e:allocD P o t s=some s'):allocD P o t (mu dx v ib s)=some (mu dx v ib s'):=by
 unfold allocD at e⊢;split at e
 ·rename_i d box h1 h2;injection e with e;subst e
  have:(mu dx v ib s).hp.length=s.hp.length:=by rw[hp_mu,setO_len]
  rw[this]
  try dsimp only
  rw[newhp_mu (by rw[←h1];exact hd) hb]
 ·cases e
theorem boxD_mu {P o t x dx v ib s s'} (hx:x≠ .tmp dx) (hd:o.dst≠some dx) (hb:∀j b,ib=some (j,b)→j < s.hp.length) (e:boxD P o t x s=some s'):boxD P o t x (mu dx v ib s)=some (mu dx v ib s'):=by
 unfold boxD at e⊢;rw[evalD_mu hx];split at e
 ·rename_i d u h1 h2;split at e
  ·rename_i cs h3;injection e with e;subst e
   have:(mu dx v ib s).hp.length=s.hp.length:=by rw[hp_mu,setO_len]
   try rw[h1,h2]
   try rw[this]
   try dsimp only
   try rw[h3]
   try dsimp only
   rw[newhp_mu (by rw[←h1];exact hd) hb]
  ·cases e
 ·cases e
def touchD (o:Oper) (s:St):List Nat:=
 match o.op with
 | .load _ x=>match evalD s x with
  | some (.ref id _)=> [id]
  | _=> []
 | .store _ x _=>match evalD s x with
  | some (.ref id _)=> [id]
  | _=> []
 | _=> []
theorem loadD_mu {P tk o t x dx v ib s s'} (hx:x≠ .tmp dx) (hd:o.dst≠some dx) (hb:∀id off,evalD s x=some (.ref id off)→offBox ib id) (e:loadD P tk o t x s=some s'):loadD P tk o t x (mu dx v ib s)=some (mu dx v ib s'):=by
 unfold loadD at e⊢;rw[evalD_mu hx];split at e
 ·rename_i z g h1 h2
  try rw[h1,h2]
  try dsimp only
  split at e
  ·rename_i id off h3
   try rw[h3]
   try dsimp only
   rw[hp_mu,setO_get (hb id off h3)];split at e
   ·rename_i box h4
    try rw[h4]
    try dsimp only
    split at e
    ·rename_i h5;rw[if_pos h5];split at e
     ·rename_i h6;rw[if_pos h6];split at e
      ·rename_i d u h7 h8;injection e with e;subst e
       try rw[h7,h8]
       try dsimp only
       rw[put_mu (by rw[←h7];exact hd)];simp only[mu,Option.some.injEq,St.mk.injEq,true_and];exact setO_set (hb id off h3)
      ·cases e
     ·rename_i h6;rw[if_neg h6];obtain⟨u,h7,h8⟩:=Option.map_eq_some_iff.1 e;subst h8
      try rw[h7]
      simp only[Option.map_some,put_mu hd]
    ·cases e
   ·cases e
  ·rename_i cs h3
   try rw[h3]
   try dsimp only
   split at e
   ·rename_i h5;rw[if_pos h5];obtain⟨u,h7,h8⟩:=Option.map_eq_some_iff.1 e;subst h8
    try rw[h7]
    simp only[Option.map_some,put_mu hd]
   ·cases e
  ·cases e
 ·cases e
theorem storeD_mu {P o t x y dx v ib s s'} (hx:x≠ .tmp dx) (hy:y≠ .tmp dx) (hb:∀id off,evalD s x=some (.ref id off)→offBox ib id) (e:storeD P o t x y s=some s'):storeD P o t x y (mu dx v ib s)=some (mu dx v ib s'):=by
 unfold storeD at e⊢;rw[evalD_mu hx,evalD_mu hy];split at e
 ·rename_i z h1 h2
  try rw[h1,h2]
  try dsimp only
  split at e
  ·rename_i id off u h3 h4
   try rw[h3,h4]
   try dsimp only
   rw[hp_mu,setO_get (hb id off h3)];split at e
   ·rename_i cs box h5 h6
    try rw[h5,h6]
    try dsimp only
    split at e
    ·rename_i h7;rw[if_pos h7];split at e
     ·rename_i h8;rw[if_pos h8];split at e
      ·rename_i ty;injection e with e;subst e
       have:(some ty:Option Tmp)≠some dx:=fun q=>hy (by injection q with q;rw[q])
       try dsimp only
       rw[put_mu this];simp only[mu,Option.some.injEq,St.mk.injEq,true_and];exact setO_set (hb id off h3)
      ·cases e
     ·rename_i h8;rw[if_neg h8];injection e with e;subst e
      simp only[mu,Option.some.injEq,St.mk.injEq,true_and];exact setO_set (hb id off h3)
    ·cases e
   ·cases e
  ·cases e
 ·cases e
theorem fillD_mu {dx v ib s} {pl:List (Nat×Nat)}:∀{parts:List (Nat×Operand)} {cells k},(∀p∈parts,p.2≠ .tmp dx)→fillD (mu dx v ib s) pl parts cells k=fillD s pl parts cells k
 | [],cells,k,h=>rfl
 |(i,x)::rest,cells,k,h=>by
  simp only[fillD,evalD_mu (h (i,x) (by simp))];have ih:=fun c k=>fillD_mu (dx:=dx) (v:=v) (ib:=ib) (s:=s) (pl:=pl) (parts:=rest) (cells:=c) (k:=k) (fun p hp=>h p (by simp[hp]))
  simp only[ih]
theorem buildD_mu {P o t dx v ib s s'} {parts:List (Nat×Operand)} (hp:∀p∈parts,p.2≠ .tmp dx) (hd:o.dst≠some dx) (hk:∀(pl:List (Nat×Nat)) zc cells ts off,fillD s pl parts zc none=some (cells,some (ts,off))→ts≠dx)
  (e:buildD P o t parts s=some s'):buildD P o t parts (mu dx v ib s)=some (mu dx v ib s'):=by
 unfold buildD at e⊢;split at e
 ·rename_i d pl z h1 h2 h3
  try rw[h1,h2,h3]
  try dsimp only
  rw[fillD_mu hp];split at e
  ·rename_i cells h4;injection e with e;subst e
   try rw[h4]
   try dsimp only
   rw[put_mu (by rw[←h1];exact hd)]
  ·rename_i cells ts off h4;injection e with e;subst e
   try rw[h4]
   try dsimp only
   have:(some ts:Option Tmp)≠some dx:=fun q=>hk pl z cells ts off h4 (by injection q)
   rw[put_mu this,put_mu (by rw[←h1];exact hd)]
  ·cases e
 ·cases e
theorem rowsD_mu {P dx v ib s e z}:∀{parts:List (Nat×Operand)} {k},(∀p∈parts,p.2≠ .tmp dx)→rowsD P (mu dx v ib s) e z k parts=rowsD P s e z k parts
 | [],k,h=>rfl
 |(i,x)::rest,k,h=>by
  simp only[rowsD,evalD_mu (h (i,x) (by simp)),rowsD_mu (parts:=rest) (fun p hp=>h p (by simp[hp]))]
theorem buildSliceD_mu {P o t len dx v ib s s'} {parts:List (Nat×Operand)} (hp:∀p∈parts,p.2≠ .tmp dx) (hd:o.dst≠some dx) (e:buildSliceD P o t len parts s=some s'):
  buildSliceD P o t len parts (mu dx v ib s)=some (mu dx v ib s'):=by
 unfold buildSliceD at e⊢;split at e
 ·rename_i el d h1 h2
  try rw[h1,h2]
  try dsimp only
  split at e
  ·rename_i z zv h3 h4
   try rw[h3,h4]
   try dsimp only
   rw[rowsD_mu hp];split at e
   ·rename_i rows h5
    try rw[h5]
    try dsimp only
    split at e
    ·rename_i h6;injection e with e;subst e
     rw[if_pos h6,put_mu (by rw[←h2];exact hd)]
    ·cases e
   ·cases e
  ·cases e
 ·cases e
theorem appendD_mu {P o dx v ib s s'} {c:Call} (hl:∀x∈c.args.toList,x≠ .tmp dx) (hd:o.dst≠some dx) (e:appendD P o c s=some s'):appendD P o c (mu dx v ib s)=some (mu dx v ib s'):=by
 unfold appendD at e⊢;split at e
 ·rename_i hc
  try rw[hc]
  try dsimp only
  split at e
  ·rename_i x y t t' h1 h2
   try rw[h1,h2]
   try dsimp only
   have hx:x≠ .tmp dx:=hl x (by rw[h1];simp);have hy:y≠ .tmp dx:=hl y (by rw[h1];simp);split at e
   ·rename_i el h3
    try rw[h3]
    try dsimp only
    split at e
    ·rename_i z by_ zv d h4 h5 h6 h7
     try rw[h4,h5,h6,h7]
     try dsimp only
     have e1:appBase P el z (mu dx v ib s) x=appBase P el z s x:=by simp only[appBase,evalD_mu hx]
     have e2:appMoreT P t t' z by_ (mu dx v ib s) y=appMoreT P t t' z by_ s y:=by simp only[appMoreT,appMore,evalD_mu hy]
     rw[e1,e2];split at e
     ·rename_i xs own? ys h8 h9
      try rw[h8,h9]
      try dsimp only
      split at e
      ·rename_i h10;injection e with e;subst e
       rw[if_pos h10];have:own? ≠some dx:=by
        intro q;subst q;unfold appBase at h8;split at h8
        ·split at h8
         ·rename_i ts;split at h8
          ·injection h8 with h8;injection h8 with _ h8;injection h8 with h8
           exact hx (by rw[h8])
          ·cases h8
         ·cases h8
        ·injection h8 with h8;injection h8 with _ h8;cases h8
        ·cases h8
       rw[put_mu this,put_mu (by rw[←h7];exact hd)]
      ·cases e
     ·cases e
    ·cases e
   ·cases e
  ·cases e
 ·cases e
def argBoxes (s:St):List Operand→List Nat
 | []=> []
 | x::xs=>(match evalD s x with
  | some (.arr id _ _ _)=> [id]
  | _=> [])++ argBoxes s xs
theorem argBoxes_mem {s:St}:∀{xs:List Operand} {x:Operand} {id off z n:Nat},x∈xs→evalD s x=some (.arr id off z n)→id∈argBoxes s xs
 | y::ys,x,id,off,z,n,hx,e=>by
  simp only[argBoxes,List.mem_append];rcases List.mem_cons.1 hx with q | q
  ·subst q;rw[e];exact .inl (by simp)
  ·exact .inr (argBoxes_mem q e)
theorem argBoxes_congr {s t:St}:∀{xs:List Operand},(∀x∈xs,evalD t x=evalD s x)→argBoxes t xs=argBoxes s xs
 | [],h=>rfl
 | x::xs,h=>by simp only[argBoxes,h x (by simp),argBoxes_congr (xs:=xs) (fun y hy=>h y (by simp[hy]))]
theorem needA_congr {P:Program} {s t:St} {c:Call} (h:∀x∈c.args.toList,evalD t x=evalD s x):needA P t c=needA P s c:=by
 unfold needA;split
 ·rename_i x y hx;rw[h x (by rw[hx];simp),h y (by rw[hx];simp)]
 ·rfl
theorem makeSliceD_mu {P o t l c dx v ib s s'} (hl:l≠ .tmp dx) (hc:c≠ .tmp dx) (hd:o.dst≠some dx) (hb:∀j b,ib=some (j,b)→j < s.hp.length) (e:makeSliceD P o t l c s=some s'):makeSliceD P o t l c (mu dx v ib s)=some (mu dx v ib s'):=by
 unfold makeSliceD at e⊢;rw[evalD_mu hl,evalD_mu hc];split at e
 ·rename_i el d k1 nn k2 nn' h1 h2 h3 h4
  try rw[h1,h2,h3,h4]
  try dsimp only
  split at e
  ·rename_i z by_ zc h5 h6 h7
   try rw[h5,h6,h7]
   try dsimp only
   split at e
   ·rename_i h8;rw[if_pos h8];injection e with e;subst e
    have:(mu dx v ib s).hp.length=s.hp.length:=by rw[hp_mu,setO_len]
    rw[this];rw[newhp_mu (by rw[←h2];exact hd) hb]
   ·cases e
  ·cases e
 ·cases e
theorem srcC_mu {z dx v ib s y src m} (hy:y≠ .tmp dx) (hb:∀id off z n,evalD s y=some (.arr id off z n)→offBox ib id) (e:srcC z s y=some (src,m)):srcC z (mu dx v ib s) y=some (src,m):=by
 unfold srcC at e⊢;rw[evalD_mu hy];split at e
 ·rename_i id off z' n h1
  try rw[h1]
  try dsimp only
  rw[hp_mu,setO_get (hb id off z' n h1)];exact e
 ·exact e
 ·exact e
 ·cases e
theorem clearD_mu {P o dx v ib s s'} {c:Call} (hl:∀x∈c.args.toList,x≠ .tmp dx) (hd:o.dst≠some dx) (hb:∀i∈argBoxes s c.args.toList,offBox ib i) (e:clearD P o c s=some s'):clearD P o c (mu dx v ib s)=some (mu dx v ib s'):=by
 unfold clearD at e⊢;split at e
 ·rename_i x t h1 h2
  try rw[h1,h2]
  try dsimp only
  have hx:x≠ .tmp dx:=hl x (by rw[h1];simp);split at e
  ·rename_i el h3
   try rw[h3]
   try dsimp only
   rw[evalD_mu hx];split at e
   ·rename_i z zc id off z' n h4 h4' h5
    try rw[h4,h4',h5]
    try dsimp only
    have hoid:offBox ib id:=hb id (argBoxes_mem (by rw[h1];simp) h5);split at e
    ·rename_i box h6;rw[hp_mu,setO_get hoid,h6];dsimp only;split at e
     ·rename_i h8;rw[if_pos h8];injection e with e;subst e
      rw[put_mu hd]
     rename_i h80;rw[if_neg h80];split at e
     ·rename_i h8;rw[if_pos h8];injection e with e;subst e
      have:∀(b:List DV) (u:DV),({mu dx v ib s with hp:=(setO s.hp ib).set id b}:St).put o.dst u=mu dx v ib (({s with hp:=s.hp.set id b}:St).put o.dst u):=by
       intro b u;rw[←put_mu hd];simp only[mu];rw[setO_set hoid]
      rw[this]
     ·cases e
    ·cases e
   ·cases e
  ·cases e
 ·cases e
theorem copyD_mu {P o dx v ib s s'} {c:Call} (hl:∀x∈c.args.toList,x≠ .tmp dx) (hd:o.dst≠some dx) (hb:∀i∈argBoxes s c.args.toList,offBox ib i) (e:copyD P o c s=some s'):copyD P o c (mu dx v ib s)=some (mu dx v ib s'):=by
 unfold copyD at e⊢;split at e
 ·rename_i x y t t' h1 h2
  try rw[h1,h2]
  try dsimp only
  have hx:x≠ .tmp dx:=hl x (by rw[h1];simp);have hy:y≠ .tmp dx:=hl y (by rw[h1];simp);split at e
  ·rename_i el h3
   try rw[h3]
   try dsimp only
   rw[evalD_mu hx];split at e
   ·rename_i z id off z' n h4 h5
    try rw[h4,h5]
    try dsimp only
    have hoid:offBox ib id:=hb id (argBoxes_mem (by rw[h1];simp) h5);split at e
    ·rename_i box src m h6 h7;rw[hp_mu,setO_get hoid,h6,srcC_mu hy (fun id' off' z2 n2 q=>hb id' (argBoxes_mem (by rw[h1];simp) q)) h7];dsimp only;split at e
     ·rename_i h8;rw[if_pos h8];injection e with e;subst e
      rw[put_mu hd]
     rename_i h80;rw[if_neg h80];split at e
     ·rename_i h8;rw[if_pos h8];injection e with e;subst e
      have:∀(b:List DV) (u:DV),({mu dx v ib s with hp:=(setO s.hp ib).set id b}:St).put o.dst u=mu dx v ib (({s with hp:=s.hp.set id b}:St).put o.dst u):=by
       intro b u;rw[←put_mu hd];simp only[mu];rw[setO_set hoid]
      rw[this]
     ·cases e
    ·cases e
   ·cases e
  ·cases e
 ·cases e
theorem appendB_mu {e z by_ d x y dx v ib s s'} (hx:x≠ .tmp dx) (hy:y≠ .tmp dx) (hd:d≠dx) (hbx:∀id off z n,evalD s x=some (.arr id off z n)→offBox ib id) (hby:∀id off z n,evalD s y=some (.arr id off z n)→offBox ib id)
  (hl:∀j b,ib=some (j,b)→j < s.hp.length) (q:appendB e z by_ d x y s=some s'):appendB e z by_ d x y (mu dx v ib s)=some (mu dx v ib s'):=by
 have hdd:(some d:Option Tmp)≠some dx:=fun q=>hd (by injection q)
 have hlen:(mu dx v ib s).hp.length=s.hp.length:=by rw[hp_mu,setO_len]
 unfold appendB at q⊢;rw[evalD_mu hx];split at q
 ·rename_i e' z' src m h1 h2;rw[srcC_mu hy hby h2]
  try rw[h1]
  try dsimp only
  split at q
  ·rename_i ts;split at q
   ·rename_i h3
    try dsimp only
    rw[if_pos h3];injection q with q;subst q
    have hts:(some ts:Option Tmp)≠some dx:=fun q=>hx (by injection q with q;rw[q])
    rw[hlen,put_mu hts,put_mu hdd];simp only[mu];rw[setO_append hl]
   ·cases q
  ·cases q
 ·rename_i e' z' src m h1 h2;rw[srcC_mu hy hby h2]
  try rw[h1]
  try dsimp only
  split at q
  ·rename_i ts;split at q
   ·rename_i h3
    try dsimp only
    rw[if_pos h3];injection q with q;subst q
    have hts:(some ts:Option Tmp)≠some dx:=fun q=>hx (by injection q with q;rw[q])
    rw[hlen,put_mu hts,put_mu hdd];simp only[mu];rw[setO_append hl]
   ·cases q
  ·cases q
 ·rename_i id off z' n src m h1 h2;rw[srcC_mu hy hby h2]
  try rw[h1]
  try dsimp only
  have ho:=hbx id off z' n h1;rw[hp_mu,setO_get ho];split at q
  ·rename_i box h3;split at q
   ·rename_i h4;rw[if_pos h4];injection q with q;subst q
    have:(mu dx v ib s).put (some d) (.arr (setO s.hp ib).length 0 z (n + m))=mu dx v ib (s.put (some d) (.arr s.hp.length 0 z (n + m))):=by rw[setO_len,put_mu hdd]
    rw[this];simp only[mu];rw[setO_set ho,setO_append (fun j b hj=>by simpa using hl j b hj)]
   ·cases q
  ·cases q
 ·rename_i z' xs src m h1 h2;rw[srcC_mu hy hby h2]
  try rw[h1]
  try dsimp only
  have hm:appMore z (mu dx v ib s) y=appMore z s y:=by simp only[appMore,evalD_mu hy]
  rw[hm];split at q
  ·rename_i h3;rw[if_pos h3];injection q with q;subst q
   rw[hlen,put_mu hdd];simp only[mu];rw[setO_append hl]
  ·rename_i h3;rw[if_neg h3];split at q
   ·rename_i ys h4;split at q
    ·rename_i h5;rw[if_pos h5];injection q with q;subst q
     rw[put_mu hdd]
    ·cases q
   ·cases q
 ·rename_i src m h1 h2;rw[srcC_mu hy hby h2]
  try rw[h1]
  try dsimp only
  split at q
  ·rename_i h3;rw[if_pos h3];injection q with q;subst q
   rw[hlen,put_mu hdd];simp only[mu];rw[setO_append hl]
  ·cases q
 ·cases q
theorem appendA_mu {P o dx v ib s s'} {c:Call} (hl:∀x∈c.args.toList,x≠ .tmp dx) (hd:o.dst≠some dx) (hb:∀i∈argBoxes s c.args.toList,offBox ib i) (hib:∀j b,ib=some (j,b)→j < s.hp.length) (e:appendA P o c s=some s'):appendA P o c (mu dx v ib s)=some (mu dx v ib s'):=by
 unfold appendA at e⊢;split at e
 ·rename_i x y t t' d h1 h2 h3
  try rw[h1,h2,h3]
  try dsimp only
  split at e
  ·rename_i el h4
   try rw[h4]
   try dsimp only
   split at e
   ·rename_i z by_ zv h5 h6 h7
    try rw[h5,h6,h7]
    try dsimp only
    split at e
    ·rename_i h8;rw[if_pos h8];exact appendB_mu (hl x (by rw[h1];simp)) (hl y (by rw[h1];simp)) (fun q=>hd (by rw[h3,q])) (fun id off z n q=>hb id (argBoxes_mem (by rw[h1];simp) q)) (fun id off z n q=>hb id (argBoxes_mem (by rw[h1];simp) q)) hib e
    ·cases e
   ·cases e
  ·cases e
 ·cases e
end Go.Proofs.Dm
namespace Go.Proofs.Dm
open Go Go.RowKit
theorem argsD_mu {dx v ib s} {all:List Operand}:∀{xs:List Operand},(∀x∈xs,x≠ .tmp dx)→argsD (mu dx v ib s) all xs=argsD s all xs
 | [],h=>rfl
 | x::xs,h=>by simp only[argsD,evalD_mu (h x (by simp)),argsD_mu (xs:=xs) (fun y hy=>h y (by simp[hy]))]
theorem given_mu {dx v ib s}:∀{xs:List Operand},(∀x∈xs,x≠ .tmp dx)→given (mu dx v ib s) xs=given s xs
 | [],h=>rfl
 | x::xs,h=>by
  have ih:=given_mu (dx:=dx) (v:=v) (ib:=ib) (s:=s) (xs:=xs) (fun y hy=>h y (by simp[hy]));cases x with
  | tmp t=>
   have:t≠dx:=fun e=>h (.tmp t) (by simp) (by rw[e])
   simp only[given,tm_mu this,ih]
  | _=>simp only[given,ih]
theorem calleeD_mu {dx v ib s} {x:Operand} (h:x≠ .tmp dx):calleeD (mu dx v ib s) x=calleeD s x:=by simp only[calleeD,evalD_mu h]
theorem boxRefs_congr {hp hp':List (List DV)}:∀{ids:List Nat},(∀i∈ids,hp'[i]? =hp[i]?)→boxRefs hp' ids=boxRefs hp ids
 | [],h=>rfl
 | i::is,h=>by simp only[boxRefs,h i (by simp),boxRefs_congr (ids:=is) (fun j hj=>h j (by simp[hj]))]
theorem reach_congr {hp hp':List (List DV)} {ds:List DV} (h:∀i∈reach hp ds,hp'[i]? =hp[i]?):reach hp' ds=reach hp ds:=by
 unfold reach at h⊢;dsimp only at h⊢;have e1:boxRefs hp' (addNew [] (refsDs ds))=boxRefs hp (addNew [] (refsDs ds)):=boxRefs_congr fun i hi=>h i (addNew_mem (.inl (addNew_mem (.inl hi))))
 rw[e1];have e2:boxRefs hp' (addNew (addNew [] (refsDs ds)) (boxRefs hp (addNew [] (refsDs ds))))=boxRefs hp (addNew (addNew [] (refsDs ds)) (boxRefs hp (addNew [] (refsDs ds)))):=
  boxRefs_congr fun i hi=>h i (addNew_mem (.inl hi))
 rw[e2]
theorem subHp_congr {hp hp':List (List DV)}:∀{ids:List Nat},(∀i∈ids,hp'[i]? =hp[i]?)→subHp hp' ids=subHp hp ids
 | [],h=>rfl
 | i::is,h=>by simp only[subHp,h i (by simp),subHp_congr (ids:=is) (fun j hj=>h j (by simp[hj]))]
theorem writeBack_setO {ib:Option (Nat×List DV)}:∀{hp:List (List DV)} {ids:List Nat} {bs:List (List DV)},(∀i∈ids,offBox ib i)→(∀j b,ib=some (j,b)→j < hp.length)→
  writeBack (setO hp ib) ids bs=setO (writeBack hp ids bs) ib
 | hp,[],bs,h,hl=>by
  have:∀hp:List (List DV),writeBack hp [] bs=hp ++ bs:=fun hp=>by cases bs <;> rfl
  rw[this,this,setO_append hl]
 | hp,i::is,[],h,hl=>by simp only[writeBack,List.append_nil]
 | hp,i::is,b::bs,h,hl=>by
  simp only[writeBack];rw[setO_set (h i (by simp)),writeBack_setO (fun j hj=>h j (by simp[hj])) (by simpa using hl)]
theorem kills_mu {dx v ib s} {ts:List Tmp} (h:dx∉ts):(mu dx v ib s).kills ts=mu dx v ib (s.kills ts):=by
 simp only[mu,St.kills,upd,St.mk.injEq,and_true]
 funext i
 by_cases h1:i=dx
 ·subst h1;simp[h,upd]
 ·by_cases h2:ts.contains i=true <;> simp[h1,upd]
theorem callTo_mu {C n o c x dx v ib s s'} (hx:x≠ .tmp dx) (hxs:∀y∈c.args.toList,y≠ .tmp dx) (hd:o.dst≠some dx) (hl:∀j b,ib=some (j,b)→j < s.hp.length)
  (hr:∀f cap ds,calleeD s x=some (f,cap)→argsD s c.args.toList c.args.toList=some ds→∀i∈reach s.hp (ds ++ cap),offBox ib i) (e:callTo C n o c x s s'):
  callTo C n o c x (mu dx v ib s) (mu dx v ib s'):=by
 obtain⟨h0,f,cap,ds,sub,args,r,bs',h1,h2,h3,h4,h5,h6,h7,h8⟩:=e;have hoff:=hr f cap ds h1 h2;have hre:reach (mu dx v ib s).hp (ds ++ cap)=reach s.hp (ds ++ cap):=reach_congr fun i hi=>setO_get (hoff i hi)
 refine⟨h0,f,cap,ds,sub,args,r,bs',by rw[calleeD_mu hx];exact h1,by rw[argsD_mu hxs];exact h2,?_,?_,by rw[hre];exact h5,by rw[hre];exact h6,by rw[hre];exact h7,?_⟩
 ·rw[hre,←h3];exact subHp_congr fun i hi=>setO_get (hoff i hi)
 ·rw[hre,hp_mu,boxRefs_congr fun i hi=>setO_get (hoff i hi)];exact h4
 ·rw[hre,h8];have hg:dx∉given s c.args.toList:=fun q=>hxs _ ((given_mem.1 q).1) rfl
  unfold afterCall;rw[given_mu hxs,kills_mu hg,hp_mu,setO_len,writeBack_setO hoff hl,←put_mu hd];rfl
structure Lab where
 dst:Option Tmp
 looks:List Tmp
 gone:List Tmp
 rd:List Nat
 wr:List Nat
 simple:Bool
 ld:Option (Nat×Nat×Nat)
 mv:Bool
 call:Bool
 add:Bool
 sto:Bool
def stoB (o:Oper) (s:St):Bool:=match o.op with
 | .store _ _ y=>match evalD s y with
  | some v=> !(hasOwn v)
  | none=>false
 | _=>false
def callB (o:Oper):Bool:=match o.op with
 | .call c=>match c.callee with
  | .value _=>true
  | _=>false
 | _=>false
def adB (o:Oper) (s:St):Bool:=match o.op with
 | .alloc _=>true
 | .call c=>match c.callee with
  | .builtin .append=>match c.args.toList with
   | [x,_]=>match evalD s x with
    | some (.mt _ _)=>true
    | some (.arr _ _ _ _)=>true
    | _=>false
   | _=>false
  | _=>false
 | _=>false
def guardSlot (ops:List Oper) (o:Oper):List Tmp:=
 match o.guard with
 | none=> []
 | some (j,_)=>match(ops[j]?).bind (·.dst)with
  | some t=> [t]
  | none=> []
def looksG (ops:List Oper) (o:Oper):List Tmp:=guardSlot ops o ++ looksD o
def skips (ops:List Oper) (o:Oper) (s:St):Bool:=guardD ops.toArray o s==some false
def rdD (o:Oper) (s:St):List Nat:=
 match o.op with
 | .load _ x=>match evalD s x with
  | some (.ref id _)=> [id]
  | _=> []
 | .store _ x _=>match evalD s x with
  | some (.ref id _)=> [id]
  | _=> []
 | .call c=>match c.callee with
  | .value x=>match calleeD s x,argsD s c.args.toList c.args.toList with
   | some (_,cap),some ds=>reach s.hp (ds ++ cap)
   | _,_=> []
  | .builtin .append=>argBoxes s c.args.toList
  | .builtin .copy=>argBoxes s c.args.toList
  | .builtin .clear=>argBoxes s c.args.toList
  | _=> []
 | _=> []
def wrD (P:Program) (tk:Bool) (o:Oper) (s:St):List Nat:=
 match o.op with
 | .load t x=>match evalD s x with
  | some (.ref id off)=>match tsz P t,s.hp[id]? with
   | some z,some box=>if tk&&hasOwns ((box.drop off).take z)then [id]else []
   | _,_=> []
  | _=> []
 | _=>rdD o s
def anyOwn (s:St):List Tmp→Bool
 | []=>false
 | t::ts=>hasOwn (s.tm t)|| anyOwn s ts
def simpleD (tk:Bool) (o:Oper) (s:St):Bool:=
 match o.op with
 | .move _=> !tk || !(anyOwn s (looksD o))
 | .assign _=> !(anyOwn s (looksD o))
 | .build _ _=> !(anyOwn s (looksD o))
 | .buildSlice _ _ _=>true
 | .load _ _=>true
 | .alloc _=>false
 | .box _ _=>false
 | .store _ _ _=>false
 | .makeSlice _ _ _=>false
 | .call c=>match c.callee with
  | .builtin .append=>false
  | .builtin .copy=>false
  | .builtin .clear=>false
  | .builtin _=>true
  | _=>false
 | _=>true
def goneL (s:St):List Tmp→List Tmp
 | []=> []
 | t::ts=>if hasOwn (s.tm t)then t::goneL s ts else goneL s ts
def eats (o:Oper):Bool:=
 match o.op with
 | .move _=>true
 | .assign _=>true
 | .store _ _ _=>true
 | .build _ _=>true
 | .call c=>match c.callee with
  | .builtin .append=>true
  | .builtin _=>false
  | _=>true
 | _=>false
def eatsT (tk:Bool) (o:Oper):Bool:=
 match o.op with
 | .move _=>tk
 | _=>eats o
def goneD (tk:Bool) (o:Oper) (s:St):List Tmp:=if eatsT tk o then goneL s (looksD o)else []
def ldD (P:Program) (o:Oper) (s:St):Option (Nat×Nat×Nat):=
 match o.op with
 | .load t x=>match evalD s x,tsz P t with
  | some (.ref id off),some z=>some (id,off,z)
  | _,_=>none
 | _=>none
def mvD (tk:Bool) (o:Oper) (s:St):Bool:=
 match o.op with
 | .move (.tmp t)=>tk&&hasOwn (s.tm t)&&(match o.dst with
  | some d=>d !=t
  | none=>false)
 | _=>false
def labD (P:Program) (ops:List Oper) (o:Oper) (s:St):Lab:=
 if skips ops o s then⟨o.dst,looksG ops o,[],[],[],o.dst.isSome,none,false,false,false,false⟩
 else⟨o.dst,looksG ops o,goneD (takes ops o) o s,rdD o s,wrD P (takes ops o) o s,o.dst.isSome&&simpleD (takes ops o) o s,ldD P o s,mvD (takes ops o) o s,callB o,adB o s,stoB o s⟩
def gstep (C:Ctx) (n:Nat) (ops:List Oper) (o:Oper) (s s':St):Prop:=
 ∃g,guardD ops.toArray o s=some g∧dstOk n o.dst=true∧(if g then opTo C n (takes ops o) o s s' else s'=s.put o.dst .ud)
theorem goneL_mem {s:St}:∀{ts:List Tmp} {t:Tmp},t∈goneL s ts↔t∈ts∧hasOwn (s.tm t)=true
 | [],t=>by simp[goneL]
 | u::us,t=>by
  simp only[goneL];split
  ·rename_i h;simp only[List.mem_cons,goneL_mem (ts:=us)];constructor
   ·rintro(e | ⟨e1,e2⟩)
    ·subst e;exact⟨.inl rfl,h⟩
    ·exact⟨.inr e1,e2⟩
   ·rintro⟨e | e,e2⟩
    ·exact .inl e
    ·exact .inr ⟨e,e2⟩
  ·rename_i h;simp only[List.mem_cons,goneL_mem (ts:=us)];constructor
   ·rintro⟨e1,e2⟩;exact⟨.inr e1,e2⟩
   ·rintro⟨e | e,e2⟩
    ·subst e;exact absurd e2 h
    ·exact⟨e,e2⟩
theorem anyOwn_false {s:St}:∀{ts:List Tmp},anyOwn s ts=false→∀t∈ts,hasOwn (s.tm t)=false
 | [],h,t,ht=>by simp at ht
 | u::us,h,t,ht=>by
  simp only[anyOwn,Bool.or_eq_false_iff]at h;rcases List.mem_cons.1 ht with e | e
  ·subst e;exact h.1
  ·exact anyOwn_false h.2 t e
structure Keeps (s s':St) (dst:Option Tmp) (gone:List Tmp) (wr:List Nat):Prop where
 tm:∀u,dst≠some u→u∉gone→s'.tm u=s.tm u
 hp:∀j,j < s.hp.length→j∉wr→s'.hp[j]? =s.hp[j]?
 len:s.hp.length≤s'.hp.length
theorem keeps_put {s:St} {d:Option Tmp} {v:DV} {gone wr}:Keeps s (s.put d v) d gone wr:=by
 refine⟨fun u hu _=> ?_,fun j _ _=> ?_,?_⟩
 ·cases d with
  | none=>rfl
  | some d=>simp only[St.put];rw[if_neg (fun e=>hu (by rw[e]))]
 ·cases d <;> rfl
 ·cases d <;> exact Nat.le_refl _
theorem keeps_put2 {s:St} {t:Tmp} {d:Option Tmp} {u v:DV} {gone wr} (ht:t∈gone):Keeps s ((s.put (some t) u).put d v) d gone wr:=by
 refine⟨fun x hx hg=> ?_,fun j _ _=> ?_,?_⟩
 ·have:x≠t:=fun e=>hg (by rw[e];exact ht)
  cases d with
  | none=>simp only[St.put];rw[if_neg this]
  | some d=>simp only[St.put];rw[if_neg (fun e=>hx (by rw[e])),if_neg this]
 ·cases d <;> rfl
 ·cases d <;> exact Nat.le_refl _
theorem keeps_new {s s1:St} {dst gone wr} {bs:List (List DV)} (k:Keeps s s1 dst gone wr) (hhp:s1.hp=s.hp):Keeps s {s1 with hp:=s.hp ++ bs} dst gone wr:=
 ⟨k.tm,fun j hj _=>List.getElem?_append_left hj,by simp⟩
theorem appendB_keeps {e z by_ d x y s s' gone wr} (hg:∀t,x= .tmp t→hasOwn (s.tm t)=true→t∈gone) (hw:∀id off z n,evalD s x=some (.arr id off z n)→id∈wr) (q:appendB e z by_ d x y s=some s'):Keeps s s' (some d) gone wr:=by
 unfold appendB at q;split at q
 ·rename_i e' z' src m h1 h2;split at q
  ·rename_i ts;split at q
   ·injection q with q;subst q
    simp only[evalD,Option.some.injEq]at h1;exact keeps_new (keeps_put2 (hg ts rfl (by rw[h1];rfl))) rfl
   ·cases q
  ·cases q
 ·rename_i e' z' src m h1 h2;split at q
  ·rename_i ts;split at q
   ·injection q with q;subst q
    simp only[evalD,Option.some.injEq]at h1;exact keeps_new (keeps_put2 (hg ts rfl (by rw[h1];rfl))) rfl
   ·cases q
  ·cases q
 ·rename_i id off z' n src m h1 h2;split at q
  ·split at q
   ·injection q with q;subst q
    have k:=keeps_put (s:=s) (d:=some d) (v:= .arr s.hp.length 0 z (n + m)) (gone:=gone) (wr:=wr);refine⟨k.tm,fun j hj hwj=> ?_,by simp⟩;have:id≠j:=fun q=>hwj (by rw[←q];exact hw id off z' n h1)
    rw[List.getElem?_append_left (by simpa using hj),List.getElem?_set_ne this]
   ·cases q
  ·cases q
 ·rename_i z' xs src m h1 h2;split at q
  ·injection q with q;subst q
   exact keeps_new keeps_put rfl
  ·split at q
   ·split at q
    ·injection q with q;subst q;exact keeps_put
    ·cases q
   ·cases q
 ·rename_i src m h1 h2;split at q
  ·injection q with q;subst q
   exact keeps_new keeps_put rfl
  ·cases q
 ·cases q
theorem appendA_keeps {P o c s s' gone wr} (hg:∀t,(.tmp t:Operand)∈c.args.toList→hasOwn (s.tm t)=true→t∈gone) (hw:∀id∈argBoxes s c.args.toList,id∈wr) (q:appendA P o c s=some s'):Keeps s s' o.dst gone wr:=by
 unfold appendA at q;split at q
 ·rename_i x y t t' d h1 h2 h3;split at q
  ·split at q
   ·split at q
    ·rw[h3];exact appendB_keeps (fun t hx ho=>hg t (by rw[h1,←hx];simp) ho) (fun id off z n hx=>hw id (argBoxes_mem (by rw[h1];simp) hx)) q
    ·cases q
   ·cases q
  ·cases q
 ·cases q
theorem clearD_keeps {P o c s s' gone wr} (hw:∀id∈argBoxes s c.args.toList,id∈wr) (q:clearD P o c s=some s'):Keeps s s' o.dst gone wr:=by
 unfold clearD at q;split at q
 ·rename_i x t h1 h2;split at q
  ·split at q
   ·rename_i z zc id off z' n h4 h4' h5;split at q
    ·split at q
     ·injection q with q;subst q;exact keeps_put
     split at q
     ·injection q with q;subst q
      rename_i box _ _ _;have k:=keeps_put (s:=({s with hp:=s.hp.set id (box.take off ++(List.replicate n zc).flatten ++ box.drop (off + n * z))}:St)) (d:=o.dst) (v:= .tup []) (gone:=gone) (wr:=wr);refine⟨fun u hu hg=>k.tm u hu hg,fun j hj hwj=> ?_,?_⟩
      ·rw[k.hp j (by simpa using hj) hwj];exact List.getElem?_set_ne (fun q=>hwj (by rw[←q];exact hw id (argBoxes_mem (by rw[h1];simp) h5)))
      ·have:=k.len;simpa using this
     ·cases q
    ·cases q
   ·cases q
  ·cases q
 ·cases q
theorem copyD_keeps {P o c s s' gone wr} (hw:∀id∈argBoxes s c.args.toList,id∈wr) (q:copyD P o c s=some s'):Keeps s s' o.dst gone wr:=by
 unfold copyD at q;split at q
 ·rename_i x y t t' h1 h2;split at q
  ·split at q
   ·rename_i z id off z' n h4 h5;split at q
    ·split at q
     ·injection q with q;subst q;exact keeps_put
     split at q
     ·injection q with q;subst q
      rename_i box src m _ _ _ _;have k:=keeps_put (s:=({s with hp:=s.hp.set id (box.take off ++ src.take (min m n * z)++ box.drop (off + min m n * z))}:St)) (d:=o.dst) (v:= .p (.int .i64 (min m n:Nat))) (gone:=gone) (wr:=wr);refine⟨fun u hu hg=>k.tm u hu hg,fun j hj hwj=> ?_,?_⟩
      ·rw[k.hp j (by simpa using hj) hwj];exact List.getElem?_set_ne (fun q=>hwj (by rw[←q];exact hw id (argBoxes_mem (by rw[h1];simp) h5)))
      ·have:=k.len;simpa using this
     ·cases q
    ·cases q
   ·cases q
  ·cases q
 ·cases q
theorem makeSliceD_keeps {P o t l c s s' gone wr} (q:makeSliceD P o t l c s=some s'):Keeps s s' o.dst gone wr:=by
 unfold makeSliceD at q;split at q
 ·rename_i el d k1 nn k2 nn' h1 h2 h3 h4;split at q
  ·split at q
   ·injection q with q;subst q
    rw[h2];exact keeps_new keeps_put rfl
   ·cases q
  ·cases q
 ·cases q
theorem stepD_keeps {P:Program} {n:Nat} {tk:Bool} {o:Oper} {s s':St} (e:stepD P n tk o s=some s'):Keeps s s' o.dst (goneL s (looksD o)) (wrD P tk o s):=by
 have mem:∀t,(.tmp t:Operand)∈o.op.operands.toList→hasOwn (s.tm t)=true→t∈goneL s (looksD o):=fun t h1 h2=>goneL_mem.2 ⟨mem_looks.2 h1,h2⟩
 have mv:∀tk x,(x∈o.op.operands.toList)→moveD P tk o x s=some s'→Keeps s s' o.dst (goneL s (looksD o)) (wrD P tk o s):=by
  intro tk x hx e;unfold moveD at e;split at e
  ·rename_i t;split at e
   ·rename_i ho;split at e
    ·split at e
     ·rename_i d hdst;injection e with e;subst e
      rw[hdst];exact keeps_put2 (mem t hx ho)
     ·cases e
    ·injection e with e;subst e;exact keeps_put
   ·injection e with e;subst e;exact keeps_put
  ·split at e
   ·injection e with e;subst e;exact keeps_put
   ·cases e
 unfold stepD at e;split at e
 ·split at e
  ·rename_i x hop;have:=mv tk x (by rw[hop];simp[Op.operands]) e;exact⟨this.tm,fun j h1 h2=>this.hp j h1 (by simp[wrD,rdD,hop]),this.len⟩
  ·rename_i x hop;have:=mv true x (by rw[hop];simp[Op.operands]) e;exact⟨this.tm,fun j h1 h2=>this.hp j h1 (by simp[wrD,rdD,hop]),this.len⟩
  ·rename_i t hop;unfold allocD at e;split at e
   ·rename_i d box h1 h2;injection e with e;subst e
    rw[h1];refine⟨fun u hu hg=>(keeps_put (gone:=goneL s (looksD o)) (wr:= [])).tm u hu hg,fun j hj _=> ?_,by simp⟩;exact List.getElem?_append_left hj
   ·cases e
  ·rename_i t x hop;unfold boxD at e;split at e
   ·rename_i d u h1 h2;split at e
    ·injection e with e;subst e
     rw[h1];refine⟨fun u hu hg=>(keeps_put (gone:=goneL s (looksD o)) (wr:= [])).tm u hu hg,fun j hj _=> ?_,by simp⟩;exact List.getElem?_append_left hj
    ·cases e
   ·cases e
  ·rename_i t x hop;unfold loadD at e;split at e
   ·rename_i z g h1 h2;split at e
    ·rename_i id off h3;split at e
     ·rename_i box h4;split at e
      ·split at e
       ·rename_i h6;split at e
        ·rename_i d u h7 h8;injection e with e;subst e
         rw[h7];refine⟨fun u hu hg=>(keeps_put (gone:=goneL s (looksD o)) (wr:= [])).tm u hu hg,fun j hj hw=> ?_,by simp⟩;have:id≠j:=fun q=>hw (by simp only[wrD,hop,h3,h1,h4];rw[if_pos h6];simp[q])
         exact List.getElem?_set_ne this
        ·cases e
       ·obtain⟨u,h7,h8⟩:=Option.map_eq_some_iff.1 e;subst h8;exact keeps_put
      ·cases e
     ·cases e
    ·split at e
     ·obtain⟨u,h7,h8⟩:=Option.map_eq_some_iff.1 e;subst h8;exact keeps_put
     ·cases e
    ·cases e
   ·cases e
  ·rename_i t x y hop;unfold storeD at e;split at e
   ·rename_i z h1 h2;split at e
    ·rename_i id off u h3 h4;split at e
     ·rename_i cs box h5 h6;have hw:∀j,j∉wrD P tk o s→id≠j:=fun j hj q=>hj (by simp only[wrD,rdD,hop,h3];simp[q])
      split at e
      ·split at e
       ·rename_i ho;split at e
        ·rename_i ty;injection e with e;subst e
         refine⟨fun u hu hg=> ?_,fun j hj hwj=>List.getElem?_set_ne (hw j hwj),by simp⟩;simp only[evalD,Option.some.injEq]at h4;have hm:ty∈goneL s (looksD o):=mem ty (by rw[hop];simp[Op.operands]) (by rw[h4];exact ho);simp only[St.put];rw[if_neg (fun q=>hg (by rw[q];exact hm))]
        ·cases e
       ·injection e with e;subst e
        exact⟨fun u hu hg=>rfl,fun j hj hwj=>List.getElem?_set_ne (hw j hwj),by simp⟩
      ·cases e
     ·cases e
    ·cases e
   ·cases e
  ·rename_i t parts hop;unfold buildD at e;split at e
   ·rename_i d pl z h1 h2 h3;split at e
    ·injection e with e;subst e;rw[h1];exact keeps_put
    ·rename_i cells ts off h4;injection e with e;subst e
     rw[h1];refine keeps_put2 ?_;have:=fillD_owner parts.toList z none cells ts off h4;rcases this with q | ⟨i,q1,q2⟩
     ·cases q
     ·exact mem ts (by rw[hop];simp only[Op.operands,List.toList_toArray,List.mem_map];exact⟨_,q1,rfl⟩) q2
    ·cases e
   ·cases e
  ·rename_i t len parts hop;unfold buildSliceD at e;split at e
   ·rename_i el d hts hdst;split at e
    ·split at e
     ·split at e
      ·injection e with e;subst e
       rw[hdst];exact keeps_put
      ·cases e
     ·cases e
    ·cases e
   ·cases e
  ·rename_i t l c hop;exact makeSliceD_keeps e
  ·rename_i c hop;split at e;rename_i hcal;split at e
   ·exact appendA_keeps (fun t ht ho=>mem t (by rw[hop];simp only[Op.operands,Call.operands,Array.toList_append,List.mem_append];exact .inr ht) ho) (fun id hid=>by simp only[wrD,rdD,hop,hcal];exact hid) e
   ·unfold appendD at e;split at e
    ·split at e
     ·rename_i x y t t' ha hb;split at e
      ·split at e
       ·rename_i z by_ zv d h4 h5 h6 h7;split at e
        ·rename_i xs own? ys h8 h9;split at e
         ·injection e with e;subst e
          rw[h7];cases own? with
          | none=>exact keeps_put
          | some ts=>
           refine keeps_put2 ?_;unfold appBase at h8;split at h8
           ·rename_i e' z' xs' hev;split at h8
            ·rename_i t0;split at h8
             ·injection h8 with h8;injection h8 with _ h8;injection h8 with h8;subst h8
              refine mem t0 (by rw[hop];simp only[Op.operands,Call.operands,Array.toList_append,List.mem_append];right;rw[ha];simp) ?_;simp only[evalD,Option.some.injEq]at hev;rw[hev];rfl
             ·cases h8
            ·cases h8
           ·injection h8 with h8;injection h8 with _ h8;cases h8
           ·cases h8
         ·cases e
        ·cases e
       ·cases e
      ·cases e
     ·cases e
    ·cases e
   ·rename_i hcal;exact copyD_keeps (fun id hid=>by simp only[wrD,rdD,hop,hcal];exact hid) e
   ·rename_i hcal;exact clearD_keeps (fun id hid=>by simp only[wrD,rdD,hop,hcal];exact hid) e
   ·obtain⟨d,h1,h2⟩:=Option.map_eq_some_iff.1 e;subst h2;exact keeps_put
  ·obtain⟨d,h1,h2⟩:=Option.map_eq_some_iff.1 e;subst h2;exact keeps_put
 ·cases e
where
 fillD_owner {s : St} {pl : List (Nat × Nat)} : ∀ (parts : List (Nat × Operand)) (cells : List DV) (k : Option (Tmp × Nat)) (res : List DV) (ts off : Nat), fillD s pl parts cells k = some (res, some (ts, off)) →
     k=some (ts,off)∨∃i,(i,(.tmp ts:Operand))∈parts∧hasOwn (s.tm ts)=true
   | [],cells,k,res,ts,off,e=>by simp only[fillD,Option.some.injEq,Prod.mk.injEq]at e;exact .inl e.2
   |(i,x)::rest,cells,k,res,ts,off,e=>by
     simp only[fillD]at e
     split at e
     · rename_i off' z v h1 h2
       split at e
       · rename_i ho
         split at e
         · rename_i t e2 zz xs _
           split at e
           · rcases fillD_owner rest _ _ _ _ _ e with q | ⟨j,q1,q2⟩
             · injection q with q;injection q with q1 q2
               subst q1
               simp only[evalD,Option.some.injEq]at h2
               exact .inr ⟨i,by simp,by rw[h2];rfl⟩
             · exact .inr ⟨j,by simp[q1],q2⟩
           · cases e
         · cases e
       · split at e
         · split at e
           · rcases fillD_owner rest _ _ _ _ _ e with q | ⟨j,q1,q2⟩
             · exact .inl q
             · exact .inr ⟨j,by simp[q1],q2⟩
           · cases e
         · cases e
     · cases e
theorem Keeps.less {s s' dst gone gone' wr} (k:Keeps s s' dst gone wr) (h:∀u∈gone,u∈gone'):Keeps s s' dst gone' wr:=⟨fun u h1 h2=>k.tm u h1 (fun q=>h2 (h u q)),k.hp,k.len⟩
theorem stepD_keeps' {P:Program} {n:Nat} {tk:Bool} {o:Oper} {s s':St} (e:stepD P n tk o s=some s'):Keeps s s' o.dst (goneD tk o s) (wrD P tk o s):=by
 by_cases he:eatsT tk o=true
 ·simp only[goneD,he,if_true];exact stepD_keeps e
 ·have k:=stepD_keeps e;simp only[goneD,he,if_false];refine⟨fun u h1 _=> ?_,k.hp,k.len⟩;have pt:∀d:DV,s'=s.put o.dst d→s'.tm u=s.tm u:=fun d hd=>by
   rw[hd];exact(keeps_put (gone:= []) (wr:= [])).tm u h1 (by simp)
  unfold stepD at e;split at e
  ·split at e
   ·rename_i x hop;have htk:tk=false:=by simpa [eatsT,hop]using he
    subst htk;unfold moveD at e;split at e
    ·split at e
     ·simp only[Bool.false_eq_true,if_false,Option.some.injEq]at e;exact pt _ e.symm
     ·injection e with e;exact pt _ e.symm
    ·split at e
     ·injection e with e;exact pt _ e.symm
     ·cases e
   ·rename_i x hop;exact absurd (by simp[eatsT,eats,hop]) he
   ·rename_i t hop;unfold allocD at e;split at e
    ·rename_i d box h2 h3;injection e with e;subst e
     rw[h2]at h1;exact(keeps_put (s:=s) (d:=some d) (v:= .ref s.hp.length 0) (gone:= []) (wr:= [])).tm u h1 (by simp)
    ·cases e
   ·rename_i t x hop;unfold boxD at e;split at e
    ·rename_i d u' h2 h3;split at e
     ·injection e with e;subst e
      rw[h2]at h1;exact(keeps_put (s:=s) (d:=some d) (v:= .ref s.hp.length 0) (gone:= []) (wr:= [])).tm u h1 (by simp)
     ·cases e
    ·cases e
   ·rename_i t x hop;unfold loadD at e;split at e
    ·split at e
     ·split at e
      ·split at e
       ·split at e
        ·split at e
         ·rename_i d v h7 h8;injection e with e;subst e
          rw[h7]at h1;exact(keeps_put (s:=s) (d:=some d) (v:=v) (gone:= []) (wr:= [])).tm u h1 (by simp)
         ·cases e
        ·obtain⟨v,h7,h8⟩:=Option.map_eq_some_iff.1 e;exact pt v h8.symm
       ·cases e
      ·cases e
     ·split at e
      ·obtain⟨v,h7,h8⟩:=Option.map_eq_some_iff.1 e;exact pt v h8.symm
      ·cases e
     ·cases e
    ·cases e
   ·rename_i t x y hop;exact absurd (by simp[eatsT,eats,hop]) he
   ·rename_i t parts hop;exact absurd (by simp[eatsT,eats,hop]) he
   ·rename_i t len parts hop;unfold buildSliceD at e;split at e
    ·rename_i el d hts hdst;split at e
     ·split at e
      ·split at e
       ·injection e with e
        rw[←hdst]at e;exact pt _ e.symm
       ·cases e
      ·cases e
     ·cases e
    ·cases e
   ·rename_i t l c hop;exact(makeSliceD_keeps (gone:= []) (wr:= []) e).tm u h1 (by simp)
   ·rename_i c hop;split at e
    ·rename_i hc;exact absurd (by simp[eatsT,eats,hop,hc]) he
    ·rename_i hc;exact(copyD_keeps (gone:= []) (wr:=argBoxes s c.args.toList) (fun _ h=>h) e).tm u h1 (by simp)
    ·rename_i hc;exact(clearD_keeps (gone:= []) (wr:=argBoxes s c.args.toList) (fun _ h=>h) e).tm u h1 (by simp)
    ·obtain⟨d,h2,h3⟩:=Option.map_eq_some_iff.1 e;exact pt d h3.symm
   ·obtain⟨d,h2,h3⟩:=Option.map_eq_some_iff.1 e;exact pt d h3.symm
  ·cases e
end Go.Proofs.Dm
