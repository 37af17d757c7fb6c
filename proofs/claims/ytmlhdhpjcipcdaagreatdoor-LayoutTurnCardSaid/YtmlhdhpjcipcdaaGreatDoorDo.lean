/- Part of the proof: contracts of the functions, walked by the D-machine. No condition. -/
import Derived.Test.YtmlhdhpjcipcdaaGreatDoorDn
import Derived.Lib.Builder
set_option linter.unusedVariables false
set_option linter.unusedSimpArgs false
namespace Go.Proofs.Dm
open Go Go.RowKit
end Go.Proofs.Dm
namespace Go.Proofs.Dm
open Go Go.RowKit
theorem setCell_self {w:World} {b k:Nat} {cs:Array Value} {T:TypeId} {f:Nat×Nat} {x:Value} (hh:w.heap[b]? =some (.cells cs T f)):(w.setCell ⟨b,k,none⟩ x).heap[b]? =some (.cells (cs.setIfInBounds k x) T f):=by
 simp[World.setCell,Array.getElem?_modify,hh]
theorem setCell_other {w:World} {b k g:Nat} {x:Value} (hg:g≠b):(w.setCell ⟨b,k,none⟩ x).heap[g]? =w.heap[g]? :=by
 have hg':¬b=g:=fun e=>hg e.symm
 simp[World.setCell,Array.getElem?_modify,hg']
theorem setCell_hr {w:World} {h:Mark} {ρ:List Nat} {ow:Own} {bs:List (List DV)} {id b k:Nat} {box:List DV} {cs:Array Value} {T:TypeId} {d:DV} {x:Value} (r:HR w h ρ ow bs) (hb:bs[id]? =some box) (hρ:ρ[id]? =some b) (hne:box≠ [])
  (hh:w.heap[b]? =some (.cells cs T (0,0))) (hk:k < box.length) (hx:∀w' O,RepD w' h ρ d O x):
  Fr w h ow (w.setCell ⟨b,k,none⟩ x) h ow∧HR (w.setCell ⟨b,k,none⟩ x) h ρ ow (bs.set id (box.set k d)):=by
 obtain⟨p1,p2,cs0,T0,hh0,hl0,hrr⟩:=r.box id box b hb hρ hne;rw[hh]at hh0;injection hh0 with hh0;injection hh0 with e1 e2;subst e1;subst e2
 have hst:Stable w h (w.setCell ⟨b,k,none⟩ x) h:=⟨fun _=>Nat.le_refl _,fun b' i hi=>by
  have hbb:b'≠b:=fun e=>by rw[e,p2]at hi;omega
  simp only[World.cell?,setCell_other hbb],fun b' cs' T' f' q=>by
  by_cases hbb:b'=b
  ·subst hbb;rw[hh]at q;injection q with q;injection q with q1 q2 q3;subst q1;subst q2
   exact⟨_,_,setCell_self hh,by simp⟩
  ·exact⟨cs',f',by rw[setCell_other hbb];exact q,rfl⟩⟩
 have hsz:(w.setCell ⟨b,k,none⟩ x).heap.size=w.heap.size:=by simp[World.setCell]
 have hO:∀(P:Nat→List Nat→Prop),(∀g p,P g p→ow g≠some (.box id))→∀g p,P g p→(w.setCell ⟨b,k,none⟩ x).heap[g]? =w.heap[g]? ∧h g=h g∧P g p:=fun P h1 g p hp=>
  ⟨setCell_other (fun e=>h1 g p hp (by rw[e];exact p1)),rfl,hp⟩
 have hlt:=(List.getElem?_eq_some_iff.1 hb).1;refine⟨⟨hst,by rw[hsz];exact Nat.le_refl _,rfl,rfl,rfl,fun b' _ ho=>⟨setCell_other (fun e=>by rw[e,p1]at ho;cases ho),rfl,ho⟩⟩,by simpa using r.len,fun i bx b' h1 h2 hne'=> ?_,fun g hg=>by rw[hsz];exact r.lt g hg,fun b' hb'=>r.hz b' (by rw[hsz]at hb';exact hb')⟩
 by_cases hi:i=id
 ·subst hi;rw[List.getElem?_set_self hlt]at h1;injection h1 with h1;subst h1
  rw[hρ]at h2;injection h2 with h2;subst h2
  refine⟨p1,p2,_,_,setCell_self hh,by simpa using hl0,?_⟩;have hl:=hrr.length;have hst2:=RepDs.step hst (fun _ _ q=>q) box _ _ 0 _ (hO (fun g p=>ow g=some (.cell (i::p))) (fun g p e=>by rw[e];simp)) hrr;refine RepDs.of_get (by simp;omega) fun j dj v hd hv=> ?_
  rw[List.length_set,List.getElem?_take]at hv
  by_cases hj:j=k
  ·subst hj;rw[List.getElem?_set_self hk]at hd;injection hd with hd;subst hd
   rw[if_pos hk,Array.getElem?_toList,Array.getElem?_setIfInBounds,if_pos rfl,if_pos (by omega)]at hv;injection hv with hv;subst hv
   exact hx _ _
  ·rw[List.getElem?_set_ne (fun e=>hj e.symm)]at hd;obtain⟨v',k1,k2⟩:=hst2.get j dj hd;rw[List.getElem?_take]at k1;split at hv
   ·rename_i hjl;rw[if_pos hjl,Array.getElem?_toList]at k1;rw[Array.getElem?_toList,Array.getElem?_setIfInBounds,if_neg (fun e=>hj e.symm),k1]at hv;injection hv with hv;subst hv
    exact k2
   ·cases hv
 ·rw[List.getElem?_set_ne (fun e=>hi e.symm)]at h1;obtain⟨q1,q2,cs',T',q3,q4,q5⟩:=r.box i bx b' h1 h2 hne';have hbb:b'≠b:=fun e=>by rw[e,p1]at q1;injection q1 with q1;injection q1 with q1;exact hi q1.symm
  refine⟨q1,q2,cs',T',by rw[setCell_other hbb];exact q3,q4,?_⟩;exact RepDs.step hst (fun _ _ q=>q) bx _ _ 0 _ (hO (fun g p=>ow g=some (.cell (i::p))) (fun g p e=>by rw[e];simp)) q5
theorem freeze_self {w:World} {g n:Nat} {cs:Array Value} {T:TypeId} {f:Nat×Nat} (hh:w.heap[g]? =some (.cells cs T f)):∃f',(w.freeze ⟨g,0,none⟩ n).heap[g]? =some (.cells cs T f'):=by
 unfold World.freeze;split
 ·exact⟨f,hh⟩
 ·simp[Array.getElem?_modify,hh]
theorem freeze_other {w:World} {g b n:Nat} (hg:b≠g):(w.freeze ⟨g,0,none⟩ n).heap[b]? =w.heap[b]? :=by
 unfold World.freeze;split
 ·rfl
 ·have hg':¬g=b:=fun e=>hg e.symm
  simp[Array.getElem?_modify,hg']
theorem freeze_size {w:World} {g n:Nat}:(w.freeze ⟨g,0,none⟩ n).heap.size=w.heap.size:=by
 unfold World.freeze;split
 ·rfl
 ·simp
theorem freeze_hr {w:World} {h:Mark} {ρ:List Nat} {ow:Own} {bs:List (List DV)} {id b k g n e z cap:Nat} {box:List DV} {xs:List (List PD)} {cs0:Array Value} {T0:TypeId} (r:HR w h ρ ow bs) (hb:bs[id]? =some box) (hρ:ρ[id]? =some b)
  (hk:box[k]? =some (.own e z xs)) (hh0:w.heap[b]? =some (.cells cs0 T0 (0,0))) (hv:cs0[k]? =some (.slice (some ⟨g,0,none⟩) xs.length cap)):
  ∃ow',Fr w h ow (w.drew.freeze ⟨g,0,none⟩ n) h ow'∧HR (w.drew.freeze ⟨g,0,none⟩ n) h ρ ow' (bs.set id (box.set k (.p (.sl z xs)))):=by
 have hne:box≠ []:=by rintro rfl;simp at hk
 have hkl:k < box.length:=(List.getElem?_eq_some_iff.1 hk).1;obtain⟨p1,p2,cs,T,hh,hl0,hrr⟩:=r.box id box b hb hρ hne;rw[hh0]at hh;injection hh with hh;injection hh with e1 e2;subst e1;subst e2
 have hh:=hh0;obtain⟨v,hvv,hown⟩:=hrr.get k _ hk;rw[List.getElem?_take,if_pos hkl,Array.getElem?_toList,hv]at hvv;injection hvv with hvv;subst hvv
 simp only[RepD]at hown;have hfz:=hown.freeze;obtain⟨vals,hz0,ho,hx,hr2,hone,hg⟩:=hown;obtain⟨hmark,hog⟩:=hg g rfl;simp only[Nat.zero_add]at hog;have hglt:g < w.heap.size:=r.lt g (by rw[hog];simp);have hbg:b≠g:=fun e=>by rw[e,hog]at p1;cases p1
 have hst:Stable w h (w.drew.freeze ⟨g,0,none⟩ n) h:=⟨fun _=>Nat.le_refl _,fun b' i hi=>by
  by_cases hbb:b'=g
  ·subst hbb;rcases hq:w.heap[b']? with _ | o
   ·rw[Array.getElem?_eq_none_iff]at hq;omega
   ·have hq':w.drew.heap[b']? =some o:=hq;unfold World.freeze;split
    ·rfl
    ·cases o <;> simp[World.cell?,Array.getElem?_modify,hq,hq']
  ·simp only[World.cell?,freeze_other hbb];rfl,fun b' cs' T' f' q=>by
  by_cases hbb:b'=g
  ·subst hbb;have q':w.drew.heap[b']? =some (.cells cs' T' f'):=q;obtain⟨f2,hf2⟩:=freeze_self (n:=n) q';exact⟨_,_,hf2,rfl⟩
  ·exact⟨cs',f',by rw[freeze_other hbb];exact q,rfl⟩⟩
 have hsz:(w.drew.freeze ⟨g,0,none⟩ n).heap.size=w.heap.size:=freeze_size;have hlt:=(List.getElem?_eq_some_iff.1 hb).1;have hwf:∀b',b'≠g→(w.drew.freeze ⟨g,0,none⟩ n).heap[b']? =w.heap[b']? :=fun b' q=>freeze_other q
 refine⟨fun q=>if q=g then none else ow q,⟨hst,by rw[hsz];exact Nat.le_refl _,?_,?_,?_,fun b' _ ho'=> ?_⟩,by simpa using r.len,fun i bx b' h1 h2 hne'=> ?_,fun q hq=> ?_,fun b' hb'=>r.hz b' (by rw[hsz]at hb';exact hb')⟩
 ·unfold World.freeze;split <;> rfl
 ·unfold World.freeze;split <;> rfl
 ·unfold World.freeze;split <;> rfl
 ·have hbb:b'≠g:=fun e=>by rw[e,hog]at ho';cases ho'
  exact⟨hwf b' hbb,rfl,by rw[if_neg hbb];exact ho'⟩
 ·by_cases hi:i=id
  ·subst hi;rw[List.getElem?_set_self hlt]at h1;injection h1 with h1;subst h1
   rw[hρ]at h2;injection h2 with h2;subst h2
   refine⟨by rw[if_neg hbg];exact p1,p2,_,_,by rw[hwf b hbg];exact hh,by simpa using hl0,?_⟩;have hl:=hrr.length;refine RepDs.of_get (by simpa using hl) fun j dj v hd hv2=> ?_
   rw[List.length_set]at hv2
   by_cases hj:j=k
   ·subst hj;rw[List.getElem?_set_self hkl]at hd;injection hd with hd;subst hd
    rw[List.getElem?_take,if_pos hkl,Array.getElem?_toList,hv]at hv2;injection hv2 with hv2;subst hv2
    simp only[RepD];exact Rep.mono hst _ _ hfz
   ·rw[List.getElem?_set_ne (fun e=>hj e.symm)]at hd;obtain⟨v',k1,k2⟩:=hrr.get j dj hd;rw[k1]at hv2;injection hv2 with hv2;subst hv2
    refine RepD.step hst (fun _ _ q=>q) _ _ _ _ (fun q p ho'=> ?_) k2;rw[Nat.zero_add]at ho';have hq:q≠g:=fun e=>by
     rw[e,hog]at ho';injection ho' with ho';injection ho' with ho'
     injection ho' with _ ho';injection ho' with ho' _
     exact hj ho'.symm
    exact⟨hwf q hq,rfl,by rw[if_neg hq,Nat.zero_add];exact ho'⟩
  ·rw[List.getElem?_set_ne (fun e=>hi e.symm)]at h1;obtain⟨q1,q2,cs',T',q3,q4,q5⟩:=r.box i bx b' h1 h2 hne';have hbb:b'≠g:=fun e=>by rw[e,hog]at q1;cases q1
   refine⟨by rw[if_neg hbb];exact q1,q2,cs',T',by rw[hwf b' hbb];exact q3,q4,?_⟩;refine RepDs.step hst (fun _ _ q=>q) bx _ _ 0 _ (fun q p ho'=> ?_) q5;have hq:q≠g:=fun e=>by
    rw[e,hog]at ho';injection ho' with ho';injection ho' with ho'
    injection ho' with ho' _
    exact hi ho'.symm
   exact⟨hwf q hq,rfl,by rw[if_neg hq];exact ho'⟩
 ·split at hq
  ·exact absurd rfl hq
  ·rw[hsz];exact r.lt q hq
theorem dcalls_rows {C:Ctx} {f:FuncId} {args:List DV} {vs:List Value} {xs:List ByteArray} {T:TypeId}
  (hf:∃fn,C.P.funcs[f]? =some fn∧(fn.name== "runtime.NumGoroutine")=false∧fn.body.isNone=false)
  (ha:∀(w:World) h ρ O ws,RepDs w h ρ args O 0 ws→ws=vs)
  (hc:∀w:World,C.nb≤w.heap.size→(∀b,b < C.nb→w.heap[b]? =C.W0.heap[b]?)→Calls C.P f vs.toArray w fun e w'=>e= .returned (.slice (some ⟨w.heap.size,0,none⟩) xs.length xs.length)∧w'=w.alloc (.cells (xs.map Value.string).toArray T)):
  DCalls C f args [] (.p (.sl 1 (xs.map fun x=> [.str x]))) []:=by
 refine⟨hf,fun w h ow ρ ws hargs hHR hg=> ?_⟩;obtain rfl:=ha _ _ _ _ _ hargs;refine(hc w hg.nb fun b hb=>(hg.eq b hb).1).mono fun e w' ⟨h1,h2⟩=> ?_
 subst h2
 have hst : Stable w h (w.alloc (.cells (xs.map Value.string).toArray T)) (fun b => if b = w.heap.size then xs.length else h b) := ⟨fun b => by
     show h b≤if b=w.heap.size then xs.length else h b
     split
     · rename_i e;rw[e,hHR.hz _ (Nat.le_refl _)];exact Nat.zero_le _
     · exact Nat.le_refl _,fun b i hi=>by
     have hlt:b < w.heap.size:=by
       rcases Nat.lt_or_ge b w.heap.size with q | q
       · exact q
       · rw[hHR.hz b q]at hi;omega
     simp only[World.cell?,heap_alloc_old w _ hlt],fun b cs T f q=>⟨cs,f,by rw[heap_alloc_old w _ (Array.getElem?_eq_some_iff.1 q).1];exact q,rfl⟩⟩
 have hfresh:ow w.heap.size=none:=by
  rcases hq:ow w.heap.size with _ | q
  ·rfl
  ·exact absurd (hHR.lt _ (by rw[hq];simp)) (Nat.lt_irrefl _)
 refine⟨_,fun b=>if b=w.heap.size then xs.length else h b,ow,[],h1,⟨hst,by simp,rfl,rfl,rfl,fun b hb ho=>⟨heap_alloc_old w _ hb,by rw[if_neg (Nat.ne_of_lt hb)],ho⟩⟩,?_,?_⟩
 ·refine⟨by simpa using hHR.len,fun id box b q1 q2=>by simp at q1,fun g hg=>Nat.lt_of_lt_of_le (hHR.lt g hg) (by simp),fun b hb=> ?_⟩;have hb':w.heap.size + 1≤b:=by simpa using hb
  rw[if_neg (by omega)];exact hHR.hz b (by omega)
 ·simp only[RepD,Rep];refine .inr ⟨w.heap.size,0,xs.length,by simp,by simp,?_,?_,?_⟩
  ·simp
  ·intro x hx;obtain⟨y,_,rfl⟩:=List.mem_map.1 hx;rfl
  ·refine RepRows.of_get (size:=1) (fun x hx=>by obtain⟨y,_,rfl⟩:=List.mem_map.1 hx;rfl) fun i x hx=> ?_
   rw[List.getElem?_map]at hx;obtain⟨y,hy,rfl⟩:=Option.map_eq_some_iff.1 hx;simp only[RepRow,Rep];refine⟨⟨.string y,?_,rfl⟩,trivial⟩;rw[Lib.cell_of_heap (heap_alloc_new w _)];simp[hy]
end Go.Proofs.Dm
