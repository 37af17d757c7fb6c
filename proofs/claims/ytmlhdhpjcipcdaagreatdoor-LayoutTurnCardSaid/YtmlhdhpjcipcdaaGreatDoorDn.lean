/- Part of the proof: contracts of the functions, walked by the D-machine. No condition. -/
import Derived.Test.YtmlhdhpjcipcdaaGreatDoorDk
import Derived.Test.YtmlhdhpjcipcdaaGreatDoorDa
set_option linter.unusedVariables false
set_option linter.unusedSimpArgs false
namespace Go.Proofs.Dm
open Go Go.RowKit
theorem dcalls_foreign {C:Ctx} {f:FuncId} {args:List DV} {vs:List Value} {r:DV} {v:Value}
  (hf:∃fn,C.P.funcs[f]? =some fn∧(fn.name== "runtime.NumGoroutine")=false∧fn.body.isNone=false)
  (ha:∀(w:World) h ρ O ws,RepDs w h ρ args O 0 ws→ws=vs)
  (hr:∀(w:World) h ρ O,RepD w h ρ r O v)
  (hc:∀w:World,C.nb≤w.heap.size→(∀b,b < C.nb→w.heap[b]? =C.W0.heap[b]?)→Calls C.P f vs.toArray w fun e w'=>e= .returned v∧Below w.heap.size w w'):
  DCalls C f args [] r []:=by
 refine⟨hf,fun w h ow ρ ws hargs hHR hg=> ?_⟩;obtain rfl:=ha _ _ _ _ _ hargs;refine(hc w hg.nb fun b hb=>(hg.eq b hb).1).mono fun e w' ⟨h1,h2⟩=> ?_
 have hlt:∀{b:Nat} {o:Obj},w.heap[b]? =some o→b < w.heap.size:=fun{b o} q=>by
  rcases Nat.lt_or_ge b w.heap.size with h | h
  ·exact h
  ·rw[Array.getElem?_eq_none h]at q;cases q
 have hst : Stable w h w' h := ⟨fun _ => Nat.le_refl _, fun b i hi => by
     have hb:b < w.heap.size:=by
       rcases Nat.lt_or_ge b w.heap.size with q | q
       · exact q
       · rw[hHR.hz b q]at hi;omega
     simp only[World.cell?,h2.block b hb],fun b cs T fz q=>⟨cs,fz,by rw[h2.block b (hlt q)];exact q,rfl⟩⟩
 refine⟨v,h,ow,[],h1,⟨hst,h2.size,h2.os,h2.tape,h2.output,fun b hb ho=>⟨h2.block b hb,rfl,ho⟩⟩,?_,hr _ _ _ _⟩;refine⟨by simpa using hHR.len,fun id box b q1 q2=>by simp at q1,fun g hg=>Nat.lt_of_lt_of_le (hHR.lt g hg) h2.size,fun b hb=>hHR.hz b (Nat.le_trans h2.size hb)⟩
end Go.Proofs.Dm
namespace Go.Proofs.Dm.Gr
inductive Res (α:Type) where
 | ok (x:α) (a:Nat)
 | bad (k:Nat)
 | out
abbrev G (α:Type):=Nat→Nat→Res α
def Res.andThen {α β:Type} (r:Res α) (f:α→Nat→Res β):Res β:=match r with
 | .ok x a=>f x a
 | .bad k=> .bad k
 | .out=> .out
def bind {α β:Type} (s:G α) (f:α→G β):G β:=fun d a=>(s d a).andThen fun x a'=>f x d a'
def pure {α:Type} (x:α):G α:=fun _ a=> .ok x a
def fail {α:Type}:G α:=fun _ a=> .bad a
def stop {α:Type}:G α:=fun _ _=> .out
def ite {α:Type} (b:Bool) (s t:G α):G α:=fun d a=>if b then s d a else t d a
def nest {α:Type} (s:G α):G α:=fun d a=>if 40 < d + 1 then .bad a else s (d + 1) a
abbrev M (σ α:Type):=σ→Option (α×σ)
def mb {σ α β:Type} (m:M σ α) (f:α→M σ β):M σ β:=fun p=>(m p).bind fun r=>f r.1 r.2
def mp {σ α:Type} (x:α):M σ α:=fun p=>some (x,p)
def mi {σ α:Type} (b:Bool) (s t:M σ α):M σ α:=fun p=>if b then s p else t p
def mu {σ:Type} (f:σ→σ):M σ Unit:=fun p=>some ((),f p)
structure Sty (σ:Type) where
 emb:Nat→Nat→σ
 flt:σ→Int
variable {σ α β:Type} {Y:Sty σ} {L:Nat}
def Agr1 (Y:Sty σ) (L:Nat) (d:Nat) (Q:α→Prop) (r:Res α) (o:Option (α×σ)):Prop:=match r with
 | .ok x a'=>a' < L∧o=some (x,Y.emb d a')∧Q x
 | .bad k=>∃x p,o=some (x,p)∧Y.flt p=k∧Q x
 | .out=>True
def Agr (Y:Sty σ) (L:Nat) (d:Nat) (Q:α→Prop) (s:G α) (m:M σ α):Prop:=∀a,a < L→Agr1 Y L d Q (s d a) (m (Y.emb d a))
def Tame (Y:Sty σ) (Q:α→Prop) (m:M σ α):Prop:=∀p,0≤Y.flt p→∃x p',m p=some (x,p')∧Y.flt p'=Y.flt p∧Q x
def T {α:Type}:α→Prop:=fun _=>True
theorem Tame.bind {Q:α→Prop} {R:β→Prop} {m:M σ α} {f:α→M σ β} (h:Tame Y Q m) (hf:∀x,Q x→Tame Y R (f x)):Tame Y R (mb m f):=by
 intro p hp;obtain⟨x,p1,h1,h2,h0⟩:=h p hp;obtain⟨y,p2,h3,h4,h5⟩:=hf x h0 p1 (by omega);exact⟨y,p2,by simp only[mb,h1,Option.bind_some,h3],by omega,h5⟩
theorem Tame.mp {Q:α→Prop} {x:α} (hx:Q x):Tame Y Q (Gr.mp x:M σ α):=fun p _=>⟨x,p,rfl,rfl,hx⟩
theorem Tame.mi {Q:α→Prop} {b:Bool} {s t:M σ α} (h1:Tame Y Q s) (h2:Tame Y Q t):Tame Y Q (Gr.mi b s t):=by cases b <;> assumption
theorem Tame.mu {f:σ→σ} (h:∀p,0≤Y.flt p→Y.flt (f p)=Y.flt p):Tame Y T (Gr.mu f):=fun p hp=>⟨(),f p,rfl,h p hp,True.intro⟩
theorem Tame.weak {Q R:α→Prop} {m:M σ α} (h:Tame Y Q m) (hq:∀x,Q x→R x):Tame Y R m:=fun p hp=>by
 obtain⟨x,p1,h1,h2,h0⟩:=h p hp;exact⟨x,p1,h1,h2,hq x h0⟩
theorem Agr.bind {Q:α→Prop} {R:β→Prop} {d:Nat} {s:G α} {m:M σ α} {t:α→G β} {f:α→M σ β} (h:Agr Y L d Q s m) (ht:∀x,Q x→Agr Y L d R (t x) (f x)) (hf:∀x,Q x→Tame Y R (f x)):Agr Y L d R (Gr.bind s t) (mb m f):=by
 intro a ha;have h1:=h a ha;unfold Gr.bind mb;cases hs:s d a with
 | ok x a'=>
  rw[hs]at h1;obtain⟨h2,h3,h4⟩:=h1;simp only[Res.andThen,h3,Option.bind_some];exact ht x h4 a' h2
 | bad k=>
  rw[hs]at h1;obtain⟨x,p,h3,h4,h0⟩:=h1;obtain⟨y,p2,h5,h6,h7⟩:=hf x h0 p (by omega);simp only[Res.andThen,h3,Option.bind_some,Agr1];exact⟨y,p2,h5,by omega,h7⟩
 | out=>simp only[Res.andThen,Agr1]
theorem Agr.pure {Q:α→Prop} {d:Nat} {x:α} (hx:Q x):Agr Y L d Q (Gr.pure x) (Gr.mp x):=fun a ha=>⟨ha,rfl,hx⟩
theorem Agr.ite {Q:α→Prop} {d:Nat} {b:Bool} {s t:G α} {m n:M σ α} (h1:Agr Y L d Q s m) (h2:Agr Y L d Q t n):Agr Y L d Q (Gr.ite b s t) (Gr.mi b m n):=by cases b <;> assumption
theorem Agr.out {Q:α→Prop} {d:Nat} {m:M σ α}:Agr Y L d Q stop m:=fun _ _=>True.intro
theorem Agr.weak {Q R:α→Prop} {d:Nat} {s:G α} {m:M σ α} (h:Agr Y L d Q s m) (hq:∀x,Q x→R x):Agr Y L d R s m:=fun a ha=>by
 have h1:=h a ha;cases hs:s d a with
 | ok x a'=>rw[hs]at h1;exact⟨h1.1,h1.2.1,hq x h1.2.2⟩
 | bad k=>
  rw[hs]at h1;obtain⟨x,p,h3,h4,h0⟩:=h1;exact⟨x,p,h3,h4,hq x h0⟩
 | out=>exact True.intro
theorem Agr.nest {Q:α→Prop} {d:Nat} {s:G α} {m:M σ α} {op cl:σ→σ} (h:¬40 < d + 1→Agr Y L (d + 1) Q s m) (hm:Tame Y Q m)
  (h1:∀a,a < L→¬40 < d + 1→op (Y.emb d a)=Y.emb (d + 1) a) (h2:∀a,a < L→40 < d + 1→Y.flt (op (Y.emb d a))=a) (h3:∀a,a < L→¬40 < d + 1→cl (Y.emb (d + 1) a)=Y.emb d a) (h4:∀p,Y.flt (cl p)=Y.flt p):
  Agr Y L d Q (Gr.nest s) (fun p=>(m (op p)).bind fun r=>some (r.1,cl r.2)):=by
 intro a ha;unfold Gr.nest;dsimp only;split
 ·rename_i hd;obtain⟨x,p,q1,q2,q3⟩:=hm (op (Y.emb d a)) (by rw[h2 a ha hd];omega);exact⟨x,cl p,by rw[q1];rfl,by rw[h4,q2,h2 a ha hd],q3⟩
 ·rename_i hd;rw[h1 a ha hd];have:=h hd a ha;cases hs:s (d + 1) a with
  | ok x a'=>
   rw[hs]at this;exact⟨this.1,by rw[this.2.1];simp[h3 a' this.1 hd],this.2.2⟩
  | bad k=>
   rw[hs]at this;obtain⟨x,p,q1,q2,q3⟩:=this;exact⟨x,cl p,by rw[q1];rfl,by rw[h4,q2],q3⟩
  | out=>exact True.intro
end Go.Proofs.Dm.Gr
namespace Go.Proofs.Dm
open Go Go.RowKit
theorem Wks.len:∀{a b:List DV},Wks a b→a.length=b.length
 | _,_,.nil=>rfl
 | _,_,.cons _ ks=>by simp[ks.len]
theorem Gh.weakBox {k0:Nat} {s:St} (id:Nat) (b b':List DV) (h1:s.hp[id]? =some b) (hw:Wks b b'):Gh k0 s ⟨s.tm,s.hp.set id b'⟩:=fun C w0 h0 ow0 r0 n a w h ow ρ _ r=>by
 refine⟨h,ow,ρ,⟨r.glob,r.fr,?_,r.defers,r.size,r.tm,r.dom,r.pre⟩⟩;refine⟨by simpa using r.hr.len,fun i box bl q1 q2 hne=> ?_,r.hr.lt,r.hr.hz⟩
 by_cases hi:i=id
 ·subst hi;have hlt:i < s.hp.length:=(List.getElem?_eq_some_iff.1 h1).1;simp only[List.getElem?_set_self hlt,Option.some.injEq]at q1;subst q1;have hl:=hw.len;obtain⟨p1,p2,cs,T,p3,p4,p5⟩:=r.hr.box i b bl h1 q2 (by rintro rfl;simp at hl;exact hne (List.eq_nil_of_length_eq_zero hl.symm));refine⟨p1,p2,cs,T,p3,by omega,?_⟩;rw[←hl];exact RepDs.wk hw p5
 ·simp only[List.getElem?_set_ne (fun h=>hi h.symm)]at q1;exact r.hr.box i box bl q1 q2 hne
theorem join {J K:St→Prop} {P:Prop} (main:(∀st,J st→K st)→P) (key:∀st,J st→K st):P:=main key
end Go.Proofs.Dm
namespace Go.Proofs.Dm
open Go Go.RowKit
theorem Gh.freezeCell {k0:Nat} {s:St} (j k id z n:Nat) (bx:List DV) (xs:List (List PD)) (h0:s.hp[j]? =some bx) (h1:bx[k]? =some (.arr id 0 z n)) (hji:j≠id) (h2:s.hp[id]? =some (flatP xs)) (h0z:0 < z) (h3:∀x∈xs,x.length=z) (h4:n=xs.length):
  Gh k0 s ⟨s.tm,(s.hp.set j (bx.set k (.p (.sl z xs)))).set id []⟩:=by
 intro C w0 m0 ow0 r0 nt a w h ow ρ _ r;have hkl:k < bx.length:=(List.getElem?_eq_some_iff.1 h1).1;have hjl:j < s.hp.length:=(List.getElem?_eq_some_iff.1 h0).1;have hjb:ρ[j]? =some ρ[j]! :=by
  have:j < ρ.length:=by rw[←r.hr.len];exact hjl
  rw[List.getElem?_eq_getElem this,getElem!_pos ρ j this]
 have hbne:bx≠ []:=by rintro rfl;simp at hkl
 obtain⟨pj1,pj2,csj,Tj,hhj,hlj,hrj⟩:=r.hr.box j bx _ h0 hjb hbne;have hvj:∃vj,(csj.toList.take bx.length)[k]? =some vj∧RepD w h ρ (.arr id 0 z n) (fun g p=>ow g=some (.cell (j::(0 + k)::p))) vj:=hrj.get k _ h1;obtain⟨vj,hvj1,hvj2⟩:=hvj;simp only[RepD]at hvj2;obtain⟨b,hρ,hv⟩:=hvj2
 have boxes : ∀ (h' : Mark) (ow' : Own), (∀ i b', i ≠ id → ρ[i]? = some b' → ow b' = some (.box i) → ow' b' = some (.box i) ∧ h' b' = h b') → (∀ i q p, i ≠ id → ow q = some (.cell (i :: p)) → h' q = h q ∧ ow' q = some (.cell (i :: p))) → Stable w h w h' → (∀ g, ow' g ≠ none → ow g ≠ none) → (∀ b, w.heap.size ≤ b → h' b = 0) →
     Rep w h' (.sl z xs) vj→HR w h' ρ ow' ((s.hp.set j (bx.set k (.p (.sl z xs)))).set id []):=by
   intro h' ow' q1 q2 hst q3 q4 hrep
   refine⟨by simp[r.hr.len],fun i bx' b' g1 g2 hne=> ?_,fun g hg=>r.hr.lt g (q3 g hg),q4⟩
   have hid:i≠id:=by
     intro e;subst e
     rw[List.getElem?_set_self (by simpa using(List.getElem?_eq_some_iff.1 h2).1)]at g1
     injection g1 with g1;exact hne g1.symm
   rw[List.getElem?_set_ne (fun e=>hid e.symm)]at g1
   by_cases hij:i=j
   · subst hij
     rw[List.getElem?_set_self hjl]at g1
     injection g1 with g1;subst g1
     rw[hjb]at g2;injection g2 with g2;subst g2
     obtain⟨k1,k2⟩:=q1 i _ hid hjb pj1
     refine⟨k1,by rw[k2];exact pj2,csj,Tj,hhj,by simpa using hlj,?_⟩
     have hstep:=RepDs.step hst (fun _ _ h=>h) bx _ (fun g p=>ow' g=some (.cell (i::p))) 0 _ (fun q p ho=>⟨rfl,(q2 i q p hid ho).1,(q2 i q p hid ho).2⟩) hrj
     have hlen:=hstep.length
     refine RepDs.of_get (by simpa using hlen) fun m d v hd hvv=> ?_
     rw[List.length_set]at hvv
     by_cases hmk:m=k
     · subst hmk
       rw[List.getElem?_set_self hkl]at hd
       injection hd with hd;subst hd
       rw[hvj1]at hvv;injection hvv with hvv;subst hvv
       simp only[RepD];exact hrep
     · rw[List.getElem?_set_ne (fun e=>hmk e.symm)]at hd
       obtain⟨v',e1,e2⟩:=hstep.get m d hd
       rw[e1]at hvv;injection hvv with hvv;subst hvv
       exact e2
   · rw[List.getElem?_set_ne (fun e=>hij e.symm)]at g1
     obtain⟨p1,p2,cs,T,hh,hl,hrr⟩:=r.hr.box i bx' b' g1 g2 hne
     obtain⟨k1,k2⟩:=q1 i b' hid g2 p1
     exact⟨k1,by rw[k2];exact p2,cs,T,hh,hl,RepDs.step hst (fun _ _ h=>h) bx' _ _ 0 _ (fun q p ho=>⟨rfl,(q2 i q p hid ho).1,(q2 i q p hid ho).2⟩) hrr⟩
 by_cases hx:xs= []
 ·subst hx;refine⟨h,ow,ρ,r.glob,r.fr,boxes h ow (fun i b' _ _ q=>⟨q,rfl⟩) (fun i q p _ ho=>⟨rfl,ho⟩) (Stable.refl w h) (fun g hg=>hg) r.hr.hz ?_,r.defers,r.size,r.tm,r.dom,r.pre⟩;simp only[Rep];left;refine⟨trivial,?_⟩;rcases hv with ⟨_,a',c,q1,q2⟩ | ⟨cap,cs,T,f,q1,q2,_⟩
  ·exact⟨a',c,q1,q2⟩
  ·subst h4;exact⟨some ⟨b,0,none⟩,cap,q2,by simp⟩
 ·have hxl:0 < xs.length:=List.length_pos_iff.2 hx;rcases hv with ⟨q,_⟩ | ⟨cap,cs0,T0,f0,q1,q2,q3,q4⟩
  ·omega
  have hne:flatP xs≠ []:=fun e=>by
   have:=flatP_len h3;rw[e,List.length_nil]at this;have:=Nat.mul_pos hxl h0z;omega
  obtain⟨p1,p2,cs,T,hh,hl,hrr⟩:=r.hr.box id _ b h2 hρ hne;have hbl:=flatP_len h3
  let h':Mark:=fun q=>if q=b then xs.length * z else h q
  let ow':Own:=fun q=>if q=b then none else ow q
  have hst : Stable w h w h' := ⟨fun q => by show h q ≤ if q = b then _ else _; split
                                             · rename_i e;rw[e,p2];exact Nat.zero_le _
                                             · exact Nat.le_refl _,fun _ _ _=>rfl,fun b cs T f q=>⟨cs,f,q,rfl⟩⟩
  have hnb:∀q pos,ow q=some pos→pos≠ .box id→q≠b:=fun q pos ho hp e=>by
   rw[e,p1]at ho;injection ho with ho;exact hp ho.symm
  refine⟨h',ow',ρ,⟨r.glob.nb,fun q hq=>⟨(r.glob.eq q hq).1,?_⟩⟩,⟨r.fr.st.trans hst,r.fr.size,r.fr.os,r.fr.tape,r.fr.output,fun q hq ho=> ?_⟩,
   boxes h' ow' (fun i b' hi _ q=> ?_) (fun i q p hi ho=> ?_) hst (fun g hg=> ?_) (fun q hq=> ?_) ?_,r.defers,r.size,fun i=> ?_,r.dom,r.pre⟩
  ·show(if q=b then none else ow q)=none;split
   ·rfl
   ·exact(r.glob.eq q hq).2
  ·obtain⟨e1,e2,e3⟩:=r.fr.keep q hq ho;have hqb:q≠b:=fun e=>by rw[e,p1]at e3;cases e3
   exact⟨e1,by show(if q=b then _ else _)=_;rw[if_neg hqb];exact e2,by show(if q=b then _ else _)=_;rw[if_neg hqb];exact e3⟩
  ·have hb':b'≠b:=hnb b' _ q (fun e=>by injection e with e;exact hi e);exact⟨by show(if b'=b then _ else _)=_;rw[if_neg hb'];exact q,by show(if b'=b then _ else _)=_;rw[if_neg hb']⟩
  ·have hb':q≠b:=hnb q _ ho (by simp);exact⟨by show(if q=b then _ else _)=_;rw[if_neg hb'],by show(if q=b then _ else _)=_;rw[if_neg hb'];exact ho⟩
  ·by_cases e:g=b
   ·rw[e,p1];simp
   ·have:ow' g=ow g:=by show(if g=b then _ else _)=_;rw[if_neg e]
    rw[this]at hg;exact hg
  ·have hblt:=r.hr.lt b (by rw[p1];simp);have:q≠b:=by omega
   show(if q=b then _ else _)=0;rw[if_neg this];exact r.hr.hz q hq
  ·simp only[Rep];right;refine⟨b,0,cap,by rw[q2,h4],by omega,by show _≤(if b=b then _ else _);rw[if_pos rfl];omega,h3,?_⟩;refine RepRows.mono hst xs _ _ (xs.length * z) (fun m hm=> ?_) (rowsLen xs z h3) (flatP_rows hrr);rw[List.getElem?_take,if_pos (by omega),Array.getElem?_toList];simp only[Nat.zero_add,World.cell?,hh];rfl
  ·refine RepD.step hst (fun _ _ h=>h) _ _ _ _ (fun q p ho=> ?_) (r.tm i);have hb':q≠b:=hnb q _ ho (by simp);exact⟨rfl,by show(if q=b then _ else _)=_;rw[if_neg hb'],by show(if q=b then _ else _)=_;rw[if_neg hb'];exact ho⟩
end Go.Proofs.Dm
