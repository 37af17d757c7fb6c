/- Part of the proof: contracts of the functions, walked by the D-machine. No condition. -/
import Derived.WalkKit
import Derived.Maps.AppendAt
import Derived.Deep.Draws
import Derived.Below
import Derived.KernelRfl
import Derived.Laws.StructEq
import Derived.Lib.AppendStr
import Derived.Laws.OwnMore
set_option linter.unusedVariables false
set_option linter.unusedSimpArgs false
namespace Go.Proofs.Dm
open Go Go.RowKit
inductive PD where
 | bool (b:Bool)
 | int (k:IntKind) (n:Int)
 | str (s:ByteArray)
 | nilp
 | sl (z:Nat) (xs:List (List PD))
mutual
def Rep (w:World) (h:Nat→Nat):PD→Value→Prop
 | .bool b,v=>v= .bool b
 | .int k n,v=>v= .int k n
 | .str s,v=>v= .string s
 | .nilp,v=>v= .pointer none
 | .sl z xs,v=>(xs= []∧∃a c,v= .slice a 0 c∧(a=none→c=0))∨∃g off cap,v= .slice (some ⟨g,off,none⟩) xs.length cap∧xs.length≤cap∧off + xs.length * z≤h g∧
   (∀x∈xs,x.length=z)∧RepRows w h xs (fun j=>w.cell? ⟨g,off + j,none⟩)
def RepRows (w:World) (h:Nat→Nat):List (List PD)→(Nat→Option Value)→Prop
 | [],_=>True
 | r::rs,f=>RepRow w h r f∧RepRows w h rs (fun j=>f (r.length + j))
def RepRow (w:World) (h:Nat→Nat):List PD→(Nat→Option Value)→Prop
 | [],_=>True
 | c::cs,f=>(∃u,f 0=some u∧Rep w h c u)∧RepRow w h cs (fun j=>f (j + 1))
end
structure Stable (w:World) (h:Nat→Nat) (w':World) (h':Nat→Nat):Prop where
 mono:∀b,h b≤h' b
 cell:∀b i,i < h b→w'.cell? ⟨b,i,none⟩=w.cell? ⟨b,i,none⟩
 keep:∀(b:Nat) (cs:Array Value) (T:TypeId) (f:Nat×Nat),w.heap[b]? =some (.cells cs T f)→∃cs' f',w'.heap[b]? =some (.cells cs' T f')∧cs'.size=cs.size
theorem Stable.refl (w:World) (h:Nat→Nat):Stable w h w h:=⟨fun _=>Nat.le_refl _,fun _ _ _=>rfl,fun b cs T f q=>⟨cs,f,q,rfl⟩⟩
theorem Stable.trans {w h w1 h1 w2 h2} (a:Stable w h w1 h1) (b:Stable w1 h1 w2 h2):Stable w h w2 h2:=
 ⟨fun x=>Nat.le_trans (a.mono x) (b.mono x),fun x i hi=>(b.cell x i (Nat.lt_of_lt_of_le hi (a.mono x))).trans (a.cell x i hi),fun x cs T f q=>by
  obtain⟨cs',f',q1,q2⟩:=a.keep x cs T f q;obtain⟨cs2,f2,q3,q4⟩:=b.keep x cs' T f' q1;exact⟨cs2,f2,q3,q4.trans q2⟩⟩
mutual
theorem Rep.mono {w h w' h'} (st:Stable w h w' h'):∀(x:PD) (v:Value),Rep w h x v→Rep w' h' x v
 | .bool b,v,r=>by simpa only[Rep]using r
 | .int k n,v,r=>by simpa only[Rep]using r
 | .str s,v,r=>by simpa only[Rep]using r
 | .nilp,v,r=>by simpa only[Rep]using r
 | .sl size xs,v,r=>by
  simp only[Rep]at r⊢;rcases r with r | ⟨g,off,cap,hv,hc,hh,hs,hr⟩
  ·exact .inl r
  ·exact .inr ⟨g,off,cap,hv,hc,Nat.le_trans hh (st.mono g),hs,RepRows.mono st xs _ _ (xs.length * size) (fun j hj=>st.cell g (off + j) (by omega)) (rowsLen xs size hs) hr⟩
theorem rowsLen:∀(xs:List (List PD)) (size:Nat),(∀x∈xs,x.length=size)→(xs.map List.length).sum=xs.length * size
 | [],_,_=>by simp
 | x::xs,size,hs=>by
  have h1:=hs x (by simp);have h2:=rowsLen xs size (fun y hy=>hs y (by simp[hy]));simp only[List.map_cons,List.sum_cons,List.length_cons,h1,h2,Nat.add_mul,Nat.one_mul];omega
theorem RepRows.mono {w h w' h'} (st:Stable w h w' h'):∀(xs:List (List PD)) (f f':Nat→Option Value) (n:Nat),(∀j,j < n→f' j=f j)→
  (xs.map List.length).sum=n→RepRows w h xs f→RepRows w' h' xs f'
 | [],_,_,_,_,_,_=>by simp only[RepRows]
 | r::rs,f,f',n,hf,hn,hr=>by
  simp only[RepRows]at hr⊢;simp only[List.map_cons,List.sum_cons]at hn;exact⟨RepRow.mono st r f f' r.length (fun j hj=>hf j (by omega)) (Nat.le_refl _) hr.1,RepRows.mono st rs _ _ ((rs.map List.length).sum) (fun j hj=>hf _ (by omega)) rfl hr.2⟩
theorem RepRow.mono {w h w' h'} (st:Stable w h w' h'):∀(cs:List PD) (f f':Nat→Option Value) (n:Nat),(∀j,j < n→f' j=f j)→cs.length≤n→
  RepRow w h cs f→RepRow w' h' cs f'
 | [],_,_,_,_,_,_=>by simp only[RepRow]
 | c::cs,f,f',n,hf,hn,hr=>by
  simp only[RepRow]at hr⊢;simp only[List.length_cons]at hn;obtain⟨⟨u,hu,hc⟩,hrest⟩:=hr;exact⟨⟨u,by rw[hf 0 (by omega)];exact hu,Rep.mono st c u hc⟩,RepRow.mono st cs _ _ (n - 1) (fun j hj=>hf (j + 1) (by omega)) (by omega) hrest⟩
end
theorem RepRows.get {w h}:∀{xs:List (List PD)} {f:Nat→Option Value} {size:Nat},(∀x∈xs,x.length=size)→RepRows w h xs f→
  ∀i x,xs[i]? =some x→RepRow w h x (fun j=>f (i * size + j))
 | [],f,size,hs,hr,i,x,hx=>by simp at hx
 | r::rs,f,size,hs,hr,0,x,hx=>by
  simp only[List.getElem?_cons_zero,Option.some.injEq]at hx;subst hx;simp only[RepRows]at hr;simpa using hr.1
 | r::rs,f,size,hs,hr,i + 1,x,hx=>by
  simp only[List.getElem?_cons_succ]at hx;simp only[RepRows]at hr;have h1:=hs r (by simp);have:=RepRows.get (size:=size) (fun y hy=>hs y (by simp[hy])) hr.2 i x hx;have e:(fun j=>f ((i + 1)* size + j))=(fun j=>f (r.length +(i * size + j))):=by
   funext j;rw[h1,Nat.add_mul,Nat.one_mul];congr 1;omega
  rw[e];exact this
theorem RepRow.get {w h}:∀{cs:List PD} {f:Nat→Option Value},RepRow w h cs f→∀j c,cs[j]? =some c→∃u,f j=some u∧Rep w h c u
 | [],f,hr,j,c,hc=>by simp at hc
 | c'::cs,f,hr,0,c,hc=>by
  simp only[List.getElem?_cons_zero,Option.some.injEq]at hc;subst hc;simp only[RepRow]at hr;exact hr.1
 | c'::cs,f,hr,j + 1,c,hc=>by
  simp only[List.getElem?_cons_succ]at hc;simp only[RepRow]at hr;exact RepRow.get hr.2 j c hc
theorem RepRow.of_get {w h}:∀{cs:List PD} {f:Nat→Option Value},(∀j c,cs[j]? =some c→∃u,f j=some u∧Rep w h c u)→RepRow w h cs f
 | [],f,hr=>by simp only[RepRow]
 | c'::cs,f,hr=>by
  simp only[RepRow];exact⟨hr 0 c' (by simp),RepRow.of_get fun j c hc=>hr (j + 1) c (by simpa using hc)⟩
theorem RepRows.of_get {w h}:∀{xs:List (List PD)} {f:Nat→Option Value} {size:Nat},(∀x∈xs,x.length=size)→
  (∀i x,xs[i]? =some x→RepRow w h x (fun j=>f (i * size + j)))→RepRows w h xs f
 | [],f,size,hs,hr=>by simp only[RepRows]
 | r::rs,f,size,hs,hr=>by
  simp only[RepRows];have h1:=hs r (by simp);refine⟨by simpa using hr 0 r (by simp),RepRows.of_get (size:=size) (fun y hy=>hs y (by simp[hy])) fun i x hx=> ?_⟩;have:=hr (i + 1) x (by simpa using hx);have e:(fun j=>f ((i + 1)* size + j))=(fun j=>f (r.length +(i * size + j))):=by
   funext j;rw[h1,Nat.add_mul,Nat.one_mul];congr 1;omega
  rwa [e]at this
inductive DV where
 | p (x:PD)
 | nil
 | own (e:TypeId) (z:Nat) (xs:List (List PD))
 | ref (id off:Nat)
 | fr (cs:List PD)
 | fn (f:FuncId) (cap:List DV)
 | un
 | ud
 | agg (cs:List DV)
 | tup (cs:List DV)
 | arr (id off z n:Nat)
 | cp (z:Nat) (xs:List (List PD))
 | mt (e:TypeId) (z:Nat)
 | bn (id:Nat) (T:TypeId) (n:Nat)
def OwnRep (w:World) (h:Nat→Nat) (O:Nat→List Nat→Prop) (e:TypeId) (size:Nat) (xs:List (List PD)) (v:Value):Prop:=
 ∃vals,0 < size∧w.ownsRow 0 e size v xs.length vals∧(∀x∈xs,x.length=size)∧RepRows w h xs (fun j=>vals[j]?)∧(∀u∈vals,u.oneCell'=true)∧
  ∀g,v.ownBlock=some g→h g=xs.length * size∧O g []
mutual
def RepD (w:World) (h:Nat→Nat) (ρ:List Nat):DV→(Nat→List Nat→Prop)→Value→Prop
 | .p x,_,v=>Rep w h x v
 | .nil,_,v=>v= .slice none 0 0
 | .own e z xs,O,v=>OwnRep w h O e z xs v
 | .ref id off,_,v=>∃b,ρ[id]? =some b∧v= .pointer (some ⟨b,off,none⟩)
 | .fr cs,_,v=>∃g off,v= .pointer (some ⟨g,off,none⟩)∧off + cs.length≤h g∧RepRow w h cs (fun j=>w.cell? ⟨g,off + j,none⟩)
 | .fn f cap,O,v=>∃vs,v= .func (.func f) #[] vs∧RepDs w h ρ cap O 0 vs.toList
 | .un,_,_=>True
 | .ud,_,v=>v=undef
 | .agg cs,O,v=>∃vs,v= .agg vs∧RepDs w h ρ cs O 0 vs.toList
 | .tup cs,O,v=>∃vs,v= .tuple vs∧RepDs w h ρ cs O 0 vs.toList
 | .arr id off z n,_,v=>∃b,ρ[id]? =some b∧((n=0∧∃a c,v= .slice a 0 c∧(a=none→c=0))∨
   ∃cap cs T f,n≤cap∧v= .slice (some ⟨b,off,none⟩) n cap∧w.heap[b]? =some (.cells cs T f)∧off + cap * z≤cs.size)
 | .cp z xs,_,v=>Rep w h (.sl z xs) v∧∃a,v= .slice a xs.length xs.length
 | .mt e z,O,v=>OwnRep w h O e z [] v
 | .bn id T n,_,v=>v= .pointer none∧∃b cs f,ρ[id]? =some b∧w.heap[b]? =some (.cells cs T f)∧cs.size=n
def RepDs (w:World) (h:Nat→Nat) (ρ:List Nat):List DV→(Nat→List Nat→Prop)→Nat→List Value→Prop
 | [],_,_,vs=>vs= []
 | d::ds,O,k,vs=>∃v r,vs=v::r∧RepD w h ρ d (fun g p=>O g (k::p)) v∧RepDs w h ρ ds O (k + 1) r
end
theorem OwnRep.step {w h w' h'} {O O':Nat→List Nat→Prop} {e size xs v} (r:OwnRep w h O e size xs v) (st:Stable w h w' h')
  (hO:∀g p,O g p→w'.heap[g]? =w.heap[g]? ∧h' g=h g∧O' g p):OwnRep w' h' O' e size xs v:=by
 obtain⟨vals,hs,ho,hx,hr,h1,hg⟩:=r;refine⟨vals,hs,⟨ho.1,?_⟩,hx,RepRows.mono st xs _ _ _ (fun _ _=>rfl) rfl hr,h1,fun g he=> ?_⟩
 ·rcases ho.2 with h0 | ⟨g,cap,cur,hv,hb,hh,rest⟩
  ·exact .inl h0
  ·refine .inr ⟨g,cap,cur,hv,hb,?_,rest⟩;have:=hg g (by rw[hv];rfl);rw[(hO g [] this.2).1];exact hh
 ·obtain⟨a,b⟩:=hg g he;obtain⟨c,d,f⟩:=hO g [] b;exact⟨by rw[d];exact a,f⟩
mutual
theorem RepD.step {w h w' h' ρ ρ'} (st:Stable w h w' h') (hρ:∀(i b:Nat),ρ[i]? =some b→ρ'[i]? =some b):
  ∀(d:DV) (O O':Nat→List Nat→Prop) (v:Value),(∀g p,O g p→w'.heap[g]? =w.heap[g]? ∧h' g=h g∧O' g p)→RepD w h ρ d O v→RepD w' h' ρ' d O' v
 | .p x,_,_,v,_,r=>by simp only[RepD]at r⊢;exact Rep.mono st x v r
 | .nil,_,_,v,_,r=>by simpa only[RepD]using r
 | .own e z xs,O,O',v,hO,r=>by simp only[RepD]at r⊢;exact r.step st hO
 | .ref id off,_,_,v,_,r=>by
  simp only[RepD]at r⊢;obtain⟨b,hb,hv⟩:=r;exact⟨b,hρ id b hb,hv⟩
 | .fr cs,_,_,v,_,r=>by
  simp only[RepD]at r⊢;obtain⟨g,off,hv,hh,hr⟩:=r;exact⟨g,off,hv,Nat.le_trans hh (st.mono g),RepRow.mono st cs _ _ cs.length (fun j hj=>st.cell g (off + j) (by omega)) (Nat.le_refl _) hr⟩
 | .fn f cap,O,O',v,hO,r=>by
  simp only[RepD]at r⊢;obtain⟨vs,hv,hr⟩:=r;exact⟨vs,hv,RepDs.step st hρ cap O O' 0 _ hO hr⟩
 | .un,_,_,_,_,_=>by simp only[RepD]
 | .ud,_,_,_,_,r=>by simpa only[RepD]using r
 | .agg cs,O,O',v,hO,r=>by
  simp only[RepD]at r⊢;obtain⟨vs,hv,hr⟩:=r;exact⟨vs,hv,RepDs.step st hρ cs O O' 0 _ hO hr⟩
 | .tup cs,O,O',v,hO,r=>by
  simp only[RepD]at r⊢;obtain⟨vs,hv,hr⟩:=r;exact⟨vs,hv,RepDs.step st hρ cs O O' 0 _ hO hr⟩
 | .arr id off z n,_,_,v,_,r=>by
  simp only[RepD]at r⊢;obtain⟨b,hb,hv | ⟨cap,cs,T,f,q1,q2,q3,q4⟩⟩:=r
  ·exact⟨b,hρ id b hb,.inl hv⟩
  ·obtain⟨cs',f',k1,k2⟩:=st.keep b cs T f q3;exact⟨b,hρ id b hb,.inr ⟨cap,cs',T,f',q1,q2,k1,by omega⟩⟩
 | .cp z xs,_,_,v,_,r=>by simp only[RepD]at r⊢;exact⟨Rep.mono st _ v r.1,r.2⟩
 | .mt e z,O,O',v,hO,r=>by simp only[RepD]at r⊢;exact r.step st hO
 | .bn id T n,_,_,v,_,r=>by
  simp only[RepD]at r⊢;obtain⟨hv,b,cs,f,hb,hc,hn⟩:=r;obtain⟨cs',f',k1,k2⟩:=st.keep b cs T f hc;exact⟨hv,b,cs',f',hρ id b hb,k1,k2.trans hn⟩
theorem RepDs.step {w h w' h' ρ ρ'} (st:Stable w h w' h') (hρ:∀(i b:Nat),ρ[i]? =some b→ρ'[i]? =some b):
  ∀(ds:List DV) (O O':Nat→List Nat→Prop) (k:Nat) (vs:List Value),(∀g p,O g p→w'.heap[g]? =w.heap[g]? ∧h' g=h g∧O' g p)→
   RepDs w h ρ ds O k vs→RepDs w' h' ρ' ds O' k vs
 | [],_,_,_,_,_,r=>by simpa only[RepDs]using r
 | d::ds,O,O',k,vs,hO,r=>by
  simp only[RepDs]at r⊢;obtain⟨v,rest,hv,h1,h2⟩:=r;exact⟨v,rest,hv,RepD.step st hρ d _ _ v (fun g p=>hO g (k::p)) h1,RepDs.step st hρ ds O O' (k + 1) rest hO h2⟩
end
theorem RepD.rename {w h ρ d v} {O O':Nat→List Nat→Prop} (r:RepD w h ρ d O v) (hO:∀g p,O g p→O' g p):RepD w h ρ d O' v:=
 RepD.step (Stable.refl w h) (fun _ _ h=>h) d O O' v (fun g p o=>⟨rfl,rfl,hO g p o⟩) r
theorem RepDs.rename {w h ρ ds vs k} {O O':Nat→List Nat→Prop} (r:RepDs w h ρ ds O k vs) (hO:∀g p,O g p→O' g p):RepDs w h ρ ds O' k vs:=
 RepDs.step (Stable.refl w h) (fun _ _ h=>h) ds O O' k vs (fun g p o=>⟨rfl,rfl,hO g p o⟩) r
theorem RepDs.length {w h ρ}:∀{ds:List DV} {O k vs},RepDs w h ρ ds O k vs→vs.length=ds.length
 | [],O,k,vs,r=>by simp only[RepDs]at r;simp[r]
 | d::ds,O,k,vs,r=>by
  simp only[RepDs]at r;obtain⟨v,rest,rfl,_,h2⟩:=r;simp[RepDs.length h2]
theorem RepDs.get {w h ρ}:∀{ds:List DV} {O k vs},RepDs w h ρ ds O k vs→∀i d,ds[i]? =some d→∃v,vs[i]? =some v∧RepD w h ρ d (fun g p=>O g ((k + i)::p)) v
 | [],O,k,vs,r,i,d,hd=>by simp at hd
 | d'::ds,O,k,vs,r,0,d,hd=>by
  simp only[RepDs]at r;obtain⟨v,rest,rfl,h1,h2⟩:=r;simp only[List.getElem?_cons_zero,Option.some.injEq]at hd;subst hd;exact⟨v,by simp,by simpa using h1⟩
 | d'::ds,O,k,vs,r,i + 1,d,hd=>by
  simp only[RepDs]at r;obtain⟨v,rest,rfl,h1,h2⟩:=r;simp only[List.getElem?_cons_succ]at hd;obtain⟨v',a,b⟩:=RepDs.get h2 i d hd;refine⟨v',by simpa using a,?_⟩;have e:k + 1 + i=k +(i + 1):=by omega
  rw[e]at b;exact b
theorem RepDs.of_get {w h ρ}:∀{ds:List DV} {O:Nat→List Nat→Prop} {k} {vs:List Value},vs.length=ds.length→
  (∀i d v,ds[i]? =some d→vs[i]? =some v→RepD w h ρ d (fun g p=>O g ((k + i)::p)) v)→RepDs w h ρ ds O k vs
 | [],O,k,vs,hl,r=>by simp only[RepDs];exact List.eq_nil_of_length_eq_zero (by simpa using hl)
 | d::ds,O,k,[],hl,r=>by simp at hl
 | d::ds,O,k,v::vs,hl,r=>by
  simp only[RepDs];refine⟨v,vs,rfl,by simpa using r 0 d v (by simp) (by simp),RepDs.of_get (by simpa using hl) fun i d' v' hd hv=> ?_⟩;have:=r (i + 1) d' v' (by simpa using hd) (by simpa using hv);have e:k +(i + 1)=k + 1 + i:=by omega
  rw[e]at this;exact this
mutual
def fz:DV→DV
 | .own _ z xs=> .p (.sl z xs)
 | .mt _ z=> .p (.sl z [])
 | .agg cs=> .agg (fzs cs)
 | .tup cs=> .tup (fzs cs)
 | .fn f cap=> .fn f (fzs cap)
 | d=>d
def fzs:List DV→List DV
 | []=> []
 | d::ds=>fz d::fzs ds
end
theorem OwnRep.freeze {w h O e size xs v} (r:OwnRep w h O e size xs v):Rep w h (.sl size xs) v:=by
 obtain⟨vals,hs,ho,hx,hr,h1,hg⟩:=r;simp only[Rep];rcases ho.2 with ⟨hv,h0⟩ | ⟨g,cap,cur,hv,hb,hh,hnc,hcm,hcs,htake⟩
 ·exact .inl ⟨List.eq_nil_of_length_eq_zero h0,none,0,hv,fun _=>rfl⟩
 ·obtain⟨hhg,_⟩:=hg g (by rw[hv];rfl);refine .inr ⟨g,0,cap,hv,hnc,by omega,hx,RepRows.mono (Stable.refl w h) xs _ _ (xs.length * size) (fun j hj=> ?_) (rowsLen xs size hx) hr⟩;have:vals[j]? =cur[j]? :=by rw[←htake,List.getElem?_take,if_pos hj,Array.getElem?_toList]
  simp only[Nat.zero_add,World.cell?,hh,this];rfl
mutual
theorem RepD.fz {w h ρ}:∀(d:DV) (O O':Nat→List Nat→Prop) (v:Value),RepD w h ρ d O v→RepD w h ρ (fz d) O' v
 | .own e z xs,O,O',v,r=>by simp only[RepD,Dm.fz]at r⊢;exact r.freeze
 | .nil,O,O',v,r=>by simpa only[RepD,Dm.fz]using r
 | .agg cs,O,O',v,r=>by
  simp only[RepD,Dm.fz]at r⊢;obtain⟨vs,hv,hr⟩:=r;exact⟨vs,hv,RepDs.fzs cs O O' 0 _ hr⟩
 | .tup cs,O,O',v,r=>by
  simp only[RepD,Dm.fz]at r⊢;obtain⟨vs,hv,hr⟩:=r;exact⟨vs,hv,RepDs.fzs cs O O' 0 _ hr⟩
 | .fn f cap,O,O',v,r=>by
  simp only[RepD,Dm.fz]at r⊢;obtain⟨vs,hv,hr⟩:=r;exact⟨vs,hv,RepDs.fzs cap O O' 0 _ hr⟩
 | .p x,O,O',v,r=>by simpa only[RepD,Dm.fz]using r
 | .ref id off,O,O',v,r=>by simpa only[RepD,Dm.fz]using r
 | .fr cs,O,O',v,r=>by simpa only[RepD,Dm.fz]using r
 | .un,O,O',v,r=>by simp only[RepD,Dm.fz]
 | .ud,O,O',v,r=>by simpa only[RepD,Dm.fz]using r
 | .arr _ _ _ _,O,O',v,r=>by simpa only[RepD,Dm.fz]using r
 | .cp _ _,O,O',v,r=>by simpa only[RepD,Dm.fz]using r
 | .mt e z,O,O',v,r=>by simp only[RepD,Dm.fz]at r⊢;exact r.freeze
 | .bn _ _ _,O,O',v,r=>by simpa only[RepD,Dm.fz]using r
theorem RepDs.fzs {w h ρ}:∀(ds:List DV) (O O':Nat→List Nat→Prop) (k:Nat) (vs:List Value),RepDs w h ρ ds O k vs→RepDs w h ρ (fzs ds) O' k vs
 | [],_,_,_,_,r=>by simpa only[RepDs,Dm.fzs]using r
 | d::ds,O,O',k,vs,r=>by
  simp only[RepDs,Dm.fzs]at r⊢;obtain⟨v,rest,hv,h1,h2⟩:=r;exact⟨v,rest,hv,RepD.fz d _ _ v h1,RepDs.fzs ds _ _ _ rest h2⟩
end
mutual
inductive Wk:DV→DV→Prop
 | refl (d:DV):Wk d d
 | un (d:DV):Wk d .un
 | nilown (e z:Nat) (hz:0 < z):Wk .nil (.own e z [])
 | nilp (z:Nat):Wk .nil (.p (.sl z []))
 | fr (e z:Nat) (xs:List (List PD)):Wk (.own e z xs) (.p (.sl z xs))
 | ownmt (e z:Nat):Wk (.own e z []) (.mt e z)
 | mtown (e z:Nat):Wk (.mt e z) (.own e z [])
 | mtfr (e z:Nat):Wk (.mt e z) (.p (.sl z []))
 | cpfr (z:Nat) (xs:List (List PD)):Wk (.cp z xs) (.p (.sl z xs))
 | fn (f:FuncId) {cs ds:List DV} (k:Wks cs ds):Wk (.fn f cs) (.fn f ds)
 | agg {cs ds:List DV} (k:Wks cs ds):Wk (.agg cs) (.agg ds)
 | tup {cs ds:List DV} (k:Wks cs ds):Wk (.tup cs) (.tup ds)
inductive Wks:List DV→List DV→Prop
 | nil:Wks [] []
 | cons {c d:DV} {cs ds:List DV} (k:Wk c d) (ks:Wks cs ds):Wks (c::cs) (d::ds)
end
mutual
theorem RepD.wk {w h ρ}:∀{d d':DV} {O:Nat→List Nat→Prop} {v:Value},Wk d d'→RepD w h ρ d O v→RepD w h ρ d' O v
 | _,_,_,_,.refl _,r=>r
 | _,_,_,_,.un _,r=>by simp only[RepD]
 | _,_,_,v,.nilown e z hz,r=>by
  simp only[RepD]at r⊢;subst r;exact⟨[],hz,⟨by simp,.inl ⟨rfl,rfl⟩⟩,by simp,by simp only[RepRows],by simp,by simp[Value.ownBlock]⟩
 | _,_,_,v,.nilp z,r=>by
  simp only[RepD]at r;show Rep w h (.sl z []) v;exact .inl ⟨rfl,none,0,r,fun _=>rfl⟩
 | _,_,_,v,.fr e z xs,r=>by
  simp only[RepD]at r;exact r.freeze
 | _,_,_,v,.ownmt e z,r=>by simpa only[RepD]using r
 | _,_,_,v,.mtown e z,r=>by simpa only[RepD]using r
 | _,_,_,v,.mtfr e z,r=>by simp only[RepD]at r⊢;exact r.freeze
 | _,_,_,v,.cpfr z xs,r=>by simp only[RepD]at r⊢;exact r.1
 | _,_,_,v,.fn f k,r=>by
  simp only[RepD]at r⊢;obtain⟨vs,hv,hr⟩:=r;exact⟨vs,hv,RepDs.wk k hr⟩
 | _,_,_,v,.agg k,r=>by
  simp only[RepD]at r⊢;obtain⟨vs,hv,hr⟩:=r;exact⟨vs,hv,RepDs.wk k hr⟩
 | _,_,_,v,.tup k,r=>by
  simp only[RepD]at r⊢;obtain⟨vs,hv,hr⟩:=r;exact⟨vs,hv,RepDs.wk k hr⟩
theorem RepDs.wk {w h ρ}:∀{ds ds':List DV} {O:Nat→List Nat→Prop} {k:Nat} {vs:List Value},Wks ds ds'→RepDs w h ρ ds O k vs→RepDs w h ρ ds' O k vs
 | _,_,_,_,_,.nil,r=>r
 | _,_,_,_,_,.cons q qs,r=>by
  simp only[RepDs]at r⊢;obtain⟨v,rest,hv,h1,h2⟩:=r;exact⟨v,rest,hv,RepD.wk q h1,RepDs.wk qs h2⟩
end
end Go.Proofs.Dm
namespace Go.Proofs.Dm
open Go Go.RowKit
inductive Pos where
 | tmp (p:List Nat)
 | cell (p:List Nat)
 | box (id:Nat)
 | res (p:List Nat)
structure Ctx where
 P:Program
 W0:World
 nb:Nat
abbrev Own:=Nat→Option Pos
abbrev Mark:=Nat→Nat
structure Fr (w0:World) (h0:Mark) (ow0:Own) (w:World) (h:Mark) (ow:Own):Prop where
 st:Stable w0 h0 w h
 size:w0.heap.size≤w.heap.size
 os:w.os=w0.os
 tape:w.tape=w0.tape
 output:w.output=w0.output
 keep:∀b,b < w0.heap.size→ow0 b=none→w.heap[b]? =w0.heap[b]? ∧h b=h0 b∧ow b=none
theorem Fr.refl (w:World) (h:Mark) (ow:Own):Fr w h ow w h ow:=⟨Stable.refl _ _,Nat.le_refl _,rfl,rfl,rfl,fun _ _ h=>⟨rfl,rfl,h⟩⟩
theorem Fr.trans {w0 h0 ow0 w1 h1 ow1 w2 h2 ow2} (a:Fr w0 h0 ow0 w1 h1 ow1) (b:Fr w1 h1 ow1 w2 h2 ow2):Fr w0 h0 ow0 w2 h2 ow2:=
 ⟨a.st.trans b.st,Nat.le_trans a.size b.size,b.os.trans a.os,b.tape.trans a.tape,b.output.trans a.output,fun x hx ho=>by
  obtain⟨p,q,r⟩:=a.keep x hx ho;obtain⟨p',q',r'⟩:=b.keep x (Nat.lt_of_lt_of_le hx a.size) r;exact⟨p'.trans p,q'.trans q,r'⟩⟩
structure Glob (C:Ctx) (w:World) (ow:Own):Prop where
 nb:C.nb≤w.heap.size
 eq:∀b,b < C.nb→w.heap[b]? =C.W0.heap[b]? ∧ow b=none
theorem Glob.fr {C:Ctx} {w0 h0 ow0 w h ow} (g:Glob C w0 ow0) (f:Fr w0 h0 ow0 w h ow):Glob C w ow:=
 ⟨Nat.le_trans g.nb f.size,fun b hb=>by
  obtain⟨p,q⟩:=g.eq b hb;obtain⟨a,_,c⟩:=f.keep b (Nat.lt_of_lt_of_le hb g.nb) q;exact⟨a.trans p,c⟩⟩
structure HR (w:World) (h:Mark) (ρ:List Nat) (ow:Own) (bs:List (List DV)):Prop where
 len:bs.length=ρ.length
 box:∀(id:Nat) (box:List DV) (b:Nat),bs[id]? =some box→ρ[id]? =some b→box≠ []→ow b=some (.box id)∧h b=0∧
  ∃cs T,w.heap[b]? =some (.cells cs T (0,0))∧box.length≤cs.size∧RepDs w h ρ box (fun g p=>ow g=some (.cell (id::p))) 0 (cs.toList.take box.length)
 lt:∀g,ow g≠none→g < w.heap.size
 hz:∀b,w.heap.size≤b→h b=0
structure St where
 tm:Nat→DV
 hp:List (List DV)
structure Rel (C:Ctx) (w0:World) (h0:Mark) (ow0:Own) (r0:List Nat) (n:Nat) (s:St) (a:Act) (w:World) (h:Mark) (ow:Own) (ρ:List Nat):Prop where
 glob:Glob C w ow
 fr:Fr w0 h0 ow0 w h ow
 hr:HR w h ρ ow s.hp
 defers:a.defers= []
 size:a.tmps.size=n
 tm:∀i,RepD w h ρ (s.tm i) (fun g p=>ow g=some (.tmp (i::p))) (a.tmps.getD i undef)
 dom:∀i,n≤i→s.tm i= .un
 pre:∃ex,ρ=r0 ++ ex
def St.put (s:St) (d:Option Tmp) (v:DV):St:=
 match d with
 | none=>s
 | some d=>{s with tm:=fun i=>if i=d then v else s.tm i}
def dstOk (n:Nat):Option Tmp→Bool
 | none=>true
 | some d=>decide (d < n)
theorem getD_put (a:Act) (d:Tmp) (v:Value) (i:Nat) (hd:d < a.tmps.size):(a.put (some d) v).tmps.getD i undef=if i=d then v else a.tmps.getD i undef:=by
 simp only[Act.put,Array.getD_eq_getD_getElem?,Array.getElem?_setIfInBounds]
 by_cases h:d=i
 ·subst h;simp[hd]
 ·rw[if_neg h,if_neg (fun e=>h e.symm)]
theorem Rel.put {C w0 h0 ow0 r0 n s a w h ow ρ} (r:Rel C w0 h0 ow0 r0 n s a w h ow ρ) (d:Option Tmp) (hd:dstOk n d=true) {dv:DV} {v:Value}
  (hv:∀O,RepD w h ρ dv O v):Rel C w0 h0 ow0 r0 n (s.put d dv) (a.put d v) w h ow ρ:=by
 cases d with
 | none=>exact r
 | some d=>
  simp only[dstOk,decide_eq_true_eq]at hd;have hd':d < a.tmps.size:=by rw[r.size];exact hd
  refine⟨r.glob,r.fr,r.hr,r.defers,by simpa [Act.put]using r.size,fun i=> ?_,fun i hi=> ?_,r.pre⟩
  ·rw[getD_put a d v i hd'];simp only[St.put];split
   ·exact hv _
   ·exact r.tm i
  ·simp only[St.put];rw[if_neg (fun e=>by rw[e]at hi;exact absurd hi (Nat.not_le_of_gt hd))];exact r.dom i hi
def Good (C:Ctx) (w0:World) (h0:Mark) (ow0:Own) (r0:List Nat) (n:Nat) (s:St) (K:Act→World→Prop):Prop:=
 ∀a w h ow ρ,Rel C w0 h0 ow0 r0 n s a w h ow ρ→K a w
def constC:Value→Option DV
 | .bool b=>some (.p (.bool b))
 | .int k n=>some (.p (.int k n))
 | .string s=>some (.p (.str s))
 | .pointer none=>some (.p .nilp)
 | .slice none 0 0=>some .nil
 | .nilIface=>some .un
 | _=>none
def constCs:List Value→Option (List DV)
 | []=>some []
 | v::vs=>match constC v,constCs vs with
  | some d,some ds=>some (d::ds)
  | _,_=>none
def constD:Value→Option DV
 | .agg cs=>(constCs cs.toList).map .agg
 | v=>constC v
theorem constC_rep {w h ρ v d O} (e:constC v=some d):RepD w h ρ d O v:=by
 unfold constC at e;split at e <;> first
  |(injection e with e;subst e;simp only[RepD,Rep];done)
  | cases e
theorem constCs_rep {w h ρ}:∀{vs ds O k},constCs vs=some ds→RepDs w h ρ ds O k vs
 | [],ds,O,k,e=>by simp only[constCs,Option.some.injEq]at e;subst e;simp only[RepDs]
 | v::vs,ds,O,k,e=>by
  simp only[constCs]at e;split at e
  ·rename_i d ds' h1 h2;injection e with e
   subst e;simp only[RepDs];exact⟨v,vs,rfl,constC_rep h1,constCs_rep h2⟩
  ·cases e
theorem constD_rep {w h ρ v d O} (e:constD v=some d):RepD w h ρ d O v:=by
 unfold constD at e;split at e
 ·rename_i cs;obtain⟨ds,h1,h2⟩:=Option.map_eq_some_iff.1 e;subst h2;simp only[RepD];exact⟨cs,rfl,constCs_rep h1⟩
 ·exact constC_rep e
def evalD (s:St):Operand→Option DV
 | .tmp t=>some (s.tm t)
 | .const v=>constD v
 | .func f=>some (.fn f [])
 | .global _=>none
def opO (ow:Own):Operand→Nat→List Nat→Prop
 | .tmp t=>fun g p=>ow g=some (.tmp (t::p))
 | _=>fun _ _=>False
theorem evalD_rep {C w0 h0 ow0 r0 n s a w h ow ρ} (r:Rel C w0 h0 ow0 r0 n s a w h ow ρ) {x:Operand} {d:DV} (e:evalD s x=some d):RepD w h ρ d (opO ow x) (a.eval x):=by
 cases x with
 | tmp t=>simp only[evalD,Option.some.injEq]at e;subst e;exact r.tm t
 | const v=>exact constD_rep e
 | func f=>simp only[evalD,Option.some.injEq]at e;subst e;simp only[RepD,RepDs];exact⟨#[],rfl,rfl⟩
 | global g=>simp[evalD]at e
def tsz (P:Program) (t:TypeId):Option Nat:=(P.info? t).map (·.size)
def tbytes (P:Program) (t:TypeId):Option Nat:=(P.info? t).map (·.bytes)
def tslice (P:Program) (t:TypeId):Option TypeId:=match P.underlying t with
 | some (.slice e)=>some e
 | _=>none
def tagg (P:Program) (t:TypeId):Option Bool:=(P.underlying t).map fun
 | .struct _=>true
 | .array _ _=>true
 | _=>false
def tkind (P:Program) (t:TypeId):Option Nat:=(P.underlying t).map fun
 | .string=>0
 | .bool=>1
 | .int _=>2
 | .slice _=>3
 | .pointer _=>5
 | _=>4
def tfield (P:Program) (t:TypeId) (i:Nat):Option (Nat×Nat×Bool):=match P.underlying t with
 | some (.struct fs)=>match fs[i]? with
  | some f=>match tsz P f.type,tagg P f.type with
   | some z,some g=>some (f.offset,z,g)
   | _,_=>none
  | none=>none
 | _=>none
theorem tsz_spec {P t z} (e:tsz P t=some z) (w:World):(sizeOf t).run P w= .ok z w:=by
 obtain⟨i,h1,h2⟩:=Option.map_eq_some_iff.1 e;subst h2;simp[sizeOf,typeInfo,program,Sem.run,h1]
theorem tslice_spec {P t e} (q:tslice P t=some e):P.underlying t=some (.slice e):=by
 unfold tslice at q;split at q
 ·rename_i h;injection q with q;subst q;exact h
 ·cases q
theorem tagg_spec {P t g} (e:tagg P t=some g) (w:World):(isAgg t).run P w= .ok g w:=by
 obtain⟨d,h1,h2⟩:=Option.map_eq_some_iff.1 e;subst h2;simp only[isAgg,Sem.run_bind,run_underlying h1,Result.andThen_ok];cases d <;> rfl
theorem tkind0 {P t} (q:tkind P t=some 0):P.underlying t=some .string:=by
 obtain⟨d,h1,h2⟩:=Option.map_eq_some_iff.1 q;rw[h1];cases d <;> simp_all
theorem tkind1 {P t} (q:tkind P t=some 1):P.underlying t=some .bool:=by
 obtain⟨d,h1,h2⟩:=Option.map_eq_some_iff.1 q;rw[h1];cases d <;> simp_all
theorem tkind5 {P t} (q:tkind P t=some 5):∃e,P.underlying t=some (.pointer e):=by
 obtain⟨d,h1,h2⟩:=Option.map_eq_some_iff.1 q;rw[h1];cases d <;> simp_all
theorem tfield_spec {P t i off z g} (q:tfield P t i=some (off,z,g)):∃fs f,P.underlying t=some (.struct fs)∧fs[i]? =some f∧f.offset=off∧tsz P f.type=some z∧tagg P f.type=some g:=by
 unfold tfield at q;split at q
 ·rename_i fs h1;split at q
  ·rename_i f h2;split at q
   ·rename_i z' g' h3 h4;injection q with q
    obtain⟨rfl,rfl,rfl⟩:=q;exact⟨fs,f,h1,h2,rfl,h3,h4⟩
   ·cases q
  ·cases q
 ·cases q
def intD (op:BinOp) (k:IntKind) (a b:Int):Option PD:=
 match op with
 | .add=>some (.int k (k.wrap (a + b)))
 | .sub=>some (.int k (k.wrap (a - b)))
 | .mul=>some (.int k (k.wrap (a * b)))
 | .quo=>if b=0 then none else some (.int k (k.wrap (a.tdiv b)))
 | .rem=>if b=0 then none else some (.int k (a.tmod b))
 | .and=>some (.int k (k.wrap (BitVec.ofInt k.bits a&&&BitVec.ofInt k.bits b).toNat))
 | .or=>some (.int k (k.wrap (BitVec.ofInt k.bits a ||| BitVec.ofInt k.bits b).toNat))
 | .xor=>some (.int k (k.wrap (BitVec.ofInt k.bits a ^^^ BitVec.ofInt k.bits b).toNat))
 | .eql=>some (.bool (a==b))
 | .neq=>some (.bool (a !=b))
 | .lss=>some (.bool (decide (a < b)))
 | .leq=>some (.bool (decide (a≤b)))
 | .gtr=>some (.bool (decide (a > b)))
 | .geq=>some (.bool (decide (a≥b)))
 | _=>none
def strD (op:BinOp) (a b:ByteArray):Option PD:=
 match op with
 | .add=>if((a.size + b.size:Nat):Int)> IntKind.i64.max then none else some (.str (a ++ b))
 | .eql=>some (.bool (a.toList==b.toList))
 | .neq=>some (.bool (!(a.toList==b.toList)))
 | _=>none
def nilK:DV→Option Bool
 | .nil=>some true
 | .arr _ _ _ (_ + 1)=>some false
 | .p (.sl _ (_::_))=>some false
 | .own _ _ (_::_)=>some false
 | _=>none
theorem nilK_ok {d b} (e:nilK d=some b) {w:World} {h:Mark} {ρ O v} (r:RepD w h ρ d O v):∃a n c,v= .slice a n c∧a.isNone=b:=by
 unfold nilK at e;split at e
 ·injection e with e;subst e;simp only[RepD]at r;exact⟨none,0,0,r,rfl⟩
 ·injection e with e;subst e;simp only[RepD]at r
  obtain⟨b,_,⟨q,_⟩ | ⟨cap,_,_,_,_,rfl,_⟩⟩:=r
  ·cases q
  ·exact⟨_,_,_,rfl,rfl⟩
 ·injection e with e;subst e;simp only[RepD,Rep]at r
  rcases r with ⟨q,_⟩ | ⟨g,off,cap,rfl,_⟩
  ·cases q
  ·exact⟨_,_,_,rfl,rfl⟩
 ·injection e with e;subst e;simp only[RepD]at r
  have r:=r.freeze;simp only[Rep]at r;rcases r with ⟨q,_⟩ | ⟨g,off,cap,rfl,_⟩
  ·cases q
  ·exact⟨_,_,_,rfl,rfl⟩
 ·cases e
def flatK (P:Program):List Field→Nat→Option (List Nat)
 | [],_=>some []
 | f::fs,k=>if f.name≠ "_" ∧f.offset=k then(match tkind P f.type with
  | some i=>(flatK P fs (k + 1)).map (i::·)
  | none=>none)else none
def tflat (P:Program) (t:TypeId):Option (List Nat):=match P.underlying t with
 | some (.struct fs)=>if P.stoodInHeld t=false∧P.eqGuardType P.depth t=false then flatK P fs.toList 0 else none
 | _=>none
def eqDs:List Nat→List DV→List DV→Option Bool
 | [],[],[]=>some true
 | 2::ks,.p (.int k a)::xs,.p (.int k' b)::ys=>if k=k' then(eqDs ks xs ys).map ((a==b)&&·)else none
 | 0::ks,.p (.str a)::xs,.p (.str b)::ys=>(eqDs ks xs ys).map ((a.toList==b.toList)&&·)
 | 1::ks,.p (.bool a)::xs,.p (.bool b)::ys=>(eqDs ks xs ys).map ((a==b)&&·)
 | _,_,_=>none
def binD (P:Program) (t:TypeId) (op:BinOp):DV→DV→Option PD
 | .agg as,.agg bs=>match tflat P t with
  | some ks=>(match op with
   | .eql=>(eqDs ks as bs).map .bool
   | .neq=>(eqDs ks as bs).map fun b=> .bool (!b)
   | _=>none)
  | none=>none
 | .p (.int k a),.p (.int k' b)=>match op with
  | .shl=>if b < 0 then none else some (.int k (k.wrap (a * 2 ^ min b.toNat k.bits)))
  | .shr=>if b < 0 then none else some (.int k (a.fdiv (2 ^ min b.toNat k.bits)))
  | _=>if k=k' then intD op k a b else none
 | .p (.str a),.p (.str b)=>strD op a b
 | .p (.bool a),.p (.bool b)=>if tkind P t=some 1 then(match op with
  | .eql=>some (.bool (a==b))
  | .neq=>some (.bool (!(a==b)))
  | _=>none)else none
 | .ref _ _,.p .nilp=>if tkind P t=some 5 then(match op with
  | .eql=>some (.bool false)
  | .neq=>some (.bool true)
  | _=>none)else none
 | .p .nilp,.p .nilp=>if tkind P t=some 5 then(match op with
  | .eql=>some (.bool true)
  | .neq=>some (.bool false)
  | _=>none)else none
 | d,.nil=>if tkind P t=some 3 then(match nilK d with
  | some b=>(match op with
   | .eql=>some (.bool b)
   | .neq=>some (.bool (!b))
   | _=>none)
  | none=>none)else none
 | _,_=>none
def scal:PD→Value
 | .bool b=> .bool b
 | .int k n=> .int k n
 | .str s=> .string s
 | .nilp=> .pointer none
 | .sl _ _=> .slice none 0 0
theorem scal_bool {w h b}:Rep w h (.bool b) (scal (.bool b)):=by simp only[Rep,scal]
theorem scal_int {w h k n}:Rep w h (.int k n) (scal (.int k n)):=by simp only[Rep,scal]
theorem scal_str {w h s}:Rep w h (.str s) (scal (.str s)):=by simp only[Rep,scal]
theorem intD_ok {P op k a b r} (e:intD op k a b=some r) (hs:op≠ .shl∧op≠ .shr) (t:TypeId) (w:World) {h:Mark}:
  ∃v,(binOp op t (.int k a) (.int k b)).run P w= .ok v w∧Rep w h r v:=by
 cases op <;> simp only[intD]at e <;> first
  |(injection e with e;subst e;refine⟨scal _,?_,by first | exact scal_bool | exact scal_int⟩;simp[binOp,Op.intArith,Op.intBits,Op.intCmp,scal];done)
  | (by_cases hb : b = 0
     · rw[if_pos hb]at e;cases e
     · rw[if_neg hb]at e;injection e with e;subst e;refine⟨scal _,?_,scal_int⟩;simp[binOp,Op.intDiv,hb,scal];done)
  | cases e
theorem equalIn_bool {P:Program} {t:TypeId} (h:P.underlying t=some .bool) (a b:Bool) (w:World) (d:Nat):(Op.equalIn (d + 1) t (.bool a) (.bool b)).run P w= .ok (a==b) w:=by
 simp only[Op.equalIn,Sem.run_bind,run_underlying h,Result.andThen_ok,Sem.run_pure]
theorem equal_bool {P:Program} {t:TypeId} (h:P.underlying t=some .bool) (a b:Bool) (w:World):(Op.equal t (.bool a) (.bool b)).run P w= .ok (a==b) w:=
 equalIn_bool h a b w 9999
theorem equalIn_ptr {P:Program} {t e:TypeId} (h:P.underlying t=some (.pointer e)) (b:Option Addr) (w:World) (d:Nat):(Op.equalIn (d + 1) t (.pointer b) (.pointer none)).run P w= .ok b.isNone w:=by
 cases b <;> simp only[Op.equalIn,Sem.run_bind,run_underlying h,Result.andThen_ok,Sem.run_pure] <;> rfl
theorem equal_ptr {P:Program} {t e:TypeId} (h:P.underlying t=some (.pointer e)) (b:Option Addr) (w:World):(Op.equal t (.pointer b) (.pointer none)).run P w= .ok b.isNone w:=
 equalIn_ptr h b w 9999
theorem tkind3 {P t} (q:tkind P t=some 3):∃e,P.underlying t=some (.slice e):=by
 obtain⟨d,h1,h2⟩:=Option.map_eq_some_iff.1 q;rw[h1];cases d <;> simp_all
theorem equal_slice {P:Program} {t e:TypeId} (h:P.underlying t=some (.slice e)) (a:Option Addr) (n c:Nat) (w:World):(Op.equal t (.slice a n c) (.slice none 0 0)).run P w= .ok a.isNone w:=by
 have:∀d,(Op.equalIn (d + 1) t (.slice a n c) (.slice none 0 0)).run P w= .ok a.isNone w:=fun d=>by
  cases a <;> simp[Op.equalIn,run_underlying h]
 exact this 9999
theorem tkind_int {P t} (h:tkind P t=some 2):∃k,P.underlying t=some (.int k):=by
 simp only[tkind]at h;obtain⟨u,hu,hq⟩:=Option.map_eq_some_iff.1 h;cases u <;> simp_all
theorem tkind_str {P t} (h:tkind P t=some 0):P.underlying t=some .string:=by
 simp only[tkind]at h;obtain⟨u,hu,hq⟩:=Option.map_eq_some_iff.1 h;cases u <;> simp_all
theorem tkind_bool {P t} (h:tkind P t=some 1):P.underlying t=some .bool:=by
 simp only[tkind]at h;obtain⟨u,hu,hq⟩:=Option.map_eq_some_iff.1 h;cases u <;> simp_all
theorem eqFields_ok {P:Program} {w:World} {h ρ} {xs ys:Array Value} {d:Nat}:∀(fs:List Field) (k:Nat) (ks:List Nat) (as bs:List DV) (b:Bool),flatK P fs k=some ks→eqDs ks as bs=some b→
  (∀i c,as[i]? =some c→∃v O,xs[k + i]? =some v∧RepD w h ρ c O v)→(∀i c,bs[i]? =some c→∃v O,ys[k + i]? =some v∧RepD w h ρ c O v)→
  (Op.eqFields (d + 1) xs ys fs).run P w= .ok b w
 | [],k,ks,as,bs,b,hf,he,hx,hy=>by
  simp only[flatK,Option.some.injEq]at hf;subst hf;cases as <;> cases bs <;> simp[eqDs]at he
  subst he;simp[Op.eqFields]
 | f::fs,k,ks,as,bs,b,hf,he,hx,hy=>by
  simp only[flatK]at hf;split at hf
  ·rename_i hno;obtain⟨hn,ho⟩:=hno;split at hf
   ·rename_i i hi;obtain⟨ks',hf2,rfl⟩:=Option.map_eq_some_iff.1 hf;cases as with
    | nil=>cases bs <;> simp[eqDs]at he
    | cons a as=>
    cases bs with
    | nil=>simp[eqDs]at he
    | cons b2 bs=>
    obtain⟨vx,O1,gx,rx⟩:=hx 0 a rfl;obtain⟨vy,O2,gy,ry⟩:=hy 0 b2 rfl;rw[Nat.add_zero]at gx gy;have ih:=fun b' he'=>eqFields_ok (d:=d) fs (k + 1) ks' as bs b' hf2 he'
     (fun i c hc=>by have:=hx (i + 1) c (by simpa using hc);rwa [show k +(i + 1)=k + 1 + i by omega]at this)
     (fun i c hc=>by have:=hy (i + 1) c (by simpa using hc);rwa [show k +(i + 1)=k + 1 + i by omega]at this)
    have key:∀(q b':Bool),tagg P f.type=some false→(Op.equalIn (d + 1) f.type vx vy).run P w= .ok q w→eqDs ks' as bs=some b'→b=(q&&b')→(Op.eqFields (d + 1) xs ys (f::fs)).run P w= .ok b w:=by
     intro q b' ha h3 h4 h5;have px:(part f.type xs f.offset).run P w= .ok vx w:=by
      simp[part,tagg_spec ha w,ho,gx]
     have py:(part f.type ys f.offset).run P w= .ok vy w:=by
      simp[part,tagg_spec ha w,ho,gy]
     simp only[Op.eqFields,Sem.run_ite,if_pos hn,Sem.run_bind,px,py,Result.andThen_ok,h3];cases q with
     | true=>
      simp only[Bool.not_true,Bool.false_eq_true,if_false];rw[ih b' h4,h5];rfl
     | false=>
      simp only[Bool.not_false,if_true,Sem.run_pure];rw[h5];rfl
    unfold eqDs at he;split at he
    ·rename_i h1 _ _;cases h1
    ·rename_i h1 h2 h3;cases h1;cases h2;cases h3;split at he
     ·rename_i hkk;subst hkk;obtain⟨b',h4,h5⟩:=Option.map_eq_some_iff.1 he;simp only[RepD,Rep]at rx ry;subst rx;subst ry;obtain⟨k',hu⟩:=tkind_int hi;exact key _ b' (by simp[tagg,hu]) (run_equalIn_int w d f.type _ k' _ _ hu) h4 h5.symm
     ·cases he
    ·rename_i h1 h2 h3;cases h1;cases h2;cases h3;obtain⟨b',h4,h5⟩:=Option.map_eq_some_iff.1 he;simp only[RepD,Rep]at rx ry;subst rx;subst ry;have hu:=tkind_str hi;exact key _ b' (by simp[tagg,hu]) (run_equalIn_string w d f.type _ _ hu) h4 h5.symm
    ·rename_i h1 h2 h3;cases h1;cases h2;cases h3;obtain⟨b',h4,h5⟩:=Option.map_eq_some_iff.1 he;simp only[RepD,Rep]at rx ry;subst rx;subst ry;have hu:=tkind_bool hi;exact key _ b' (by simp[tagg,hu]) (run_equalIn_bool' w d f.type _ _ hu) h4 h5.symm
    ·cases he
   ·cases hf
  ·cases hf
theorem tflat_spec {P t ks} (e:tflat P t=some ks):∃fs,P.underlying t=some (.struct fs)∧P.stoodInHeld t=false∧P.eqGuardType P.depth t=false∧flatK P fs.toList 0=some ks:=by
 unfold tflat at e;split at e
 ·rename_i fs hu;split at e
  ·rename_i h;exact⟨fs,hu,h.1,h.2,e⟩
  ·cases e
 ·cases e
theorem equal_agg {P t ks as bs b} (e:tflat P t=some ks) (he:eqDs ks as bs=some b) {w:World} {h ρ O O'} {us vs:Array Value} (rx:RepDs w h ρ as O 0 us.toList) (ry:RepDs w h ρ bs O' 0 vs.toList):
  (Op.equalIn 10000 t (.agg us) (.agg vs)).run P w= .ok b w:=by
 obtain⟨fs,hu,h1,h2,h3⟩:=tflat_spec e;have hfs:P.fieldsOf t=fs:=by simp[Program.fieldsOf,hu]
 rw[run_equalIn_agg w 9999 t us vs (by rw[hfs];exact hu) h1,hfs];exact eqFields_ok (d:=9998) (h:=h) (ρ:=ρ) fs.toList 0 ks as bs b h3 he
  (fun i c hc=>by obtain⟨v,g1,g2⟩:=rx.get i c hc;exact⟨v,_,by simpa using g1,g2⟩)
  (fun i c hc=>by obtain⟨v,g1,g2⟩:=ry.get i c hc;exact⟨v,_,by simpa using g1,g2⟩)
theorem binD_ok {P t op x y r} (e:binD P t op x y=some r) {w:World} {h:Mark} {ρ O O' vx vy} (rx:RepD w h ρ x O vx) (ry:RepD w h ρ y O' vy):
  ∃v,(binOp op t vx vy).run P w= .ok v w∧Rep w h r v:=by
 unfold binD at e;split at e
 ·rename_i as bs;simp only[RepD]at rx ry;obtain⟨us,rfl,rx⟩:=rx;obtain⟨vs,rfl,ry⟩:=ry;split at e
  ·rename_i ks hks;split at e
   ·obtain⟨b,h1,rfl⟩:=Option.map_eq_some_iff.1 e;exact⟨scal _,by rw[run_eql_struct,equal_agg hks h1 rx ry];rfl,scal_bool⟩
   ·obtain⟨b,h1,rfl⟩:=Option.map_eq_some_iff.1 e;exact⟨scal _,by rw[run_neq_struct,equal_agg hks h1 rx ry];rfl,scal_bool⟩
   ·cases e
  ·cases e
 ·rename_i k a k' b;simp only[RepD,Rep]at rx ry;subst rx;subst ry;split at e
  ·by_cases hb:b < 0
   ·rw[if_pos hb]at e;cases e
   ·rw[if_neg hb]at e;injection e with e;subst e
    exact⟨scal _,by simp[binOp,Op.shift,hb,scal],scal_int⟩
  ·by_cases hb:b < 0
   ·rw[if_pos hb]at e;cases e
   ·rw[if_neg hb]at e;injection e with e;subst e
    exact⟨scal _,by simp[binOp,Op.shift,hb,scal],scal_int⟩
  ·rename_i h1 h2;split at e
   ·rename_i hk;subst hk;exact intD_ok e ⟨h1,h2⟩ t w
   ·cases e
 ·rename_i a b;simp only[RepD,Rep]at rx ry;subst rx;subst ry;cases op <;> simp only[strD]at e <;> first
   |(injection e with e;subst e;exact⟨scal _,by simp only[binOp,Op.stringOp,Sem.run_pure,scal],scal_bool⟩)
   | (by_cases hb : ((a.size + b.size : Nat) : Int) > IntKind.i64.max
      · rw[if_pos hb]at e;cases e
      · rw [if_neg hb] at e; injection e with e; subst e
        exact⟨scal _,by simp only[binOp,Op.stringOp,if_neg hb,Sem.run_pure,scal],scal_str⟩)
   | cases e
 ·rename_i a b;simp only[RepD,Rep]at rx ry;subst rx;subst ry;split at e
  ·rename_i ht;have hu:=tkind1 ht;cases op <;> first
    |(injection e with e;subst e;exact⟨scal _,by simp only[binOp,Sem.run_bind,equal_bool hu,Result.andThen_ok,Sem.run_pure,scal],scal_bool⟩)
    | cases e
  ·cases e
 ·rename_i i o;simp only[RepD,Rep]at rx ry;obtain⟨b,_,rx⟩:=rx;subst rx;subst ry;split at e
  ·rename_i ht;obtain⟨el,hu⟩:=tkind5 ht;cases op <;> first
    |(injection e with e;subst e;exact⟨scal _,by simp only[binOp,Sem.run_bind,equal_ptr hu,Result.andThen_ok,Sem.run_pure,Option.isNone,Bool.not_false,scal],scal_bool⟩)
    | cases e
  ·cases e
 ·simp only[RepD,Rep]at rx ry;subst rx;subst ry;split at e
  ·rename_i ht;obtain⟨el,hu⟩:=tkind5 ht;cases op <;> first
    |(injection e with e;subst e;exact⟨scal _,by simp only[binOp,Sem.run_bind,equal_ptr hu,Result.andThen_ok,Sem.run_pure,Option.isNone,Bool.not_true,scal],scal_bool⟩)
    | cases e
  ·cases e
 ·simp only[RepD]at ry;subst ry;split at e
  ·rename_i ht;obtain⟨el,hu⟩:=tkind3 ht;split at e
   ·rename_i b hb;obtain⟨a,n,c,rfl,q⟩:=nilK_ok hb rx;subst q;cases op <;> first
     |(injection e with e;subst e;exact⟨scal _,by simp only[binOp,Sem.run_bind,equal_slice hu,Result.andThen_ok,Sem.run_pure,scal],scal_bool⟩)
     | cases e
   ·cases e
  ·cases e
 ·cases e
end Go.Proofs.Dm
namespace Go.Proofs.Dm
open Go Go.RowKit
def optInt (ev:Operand→Option DV) (dflt:Int):Option Operand→Option Int
 | none=>some dflt
 | some x=>match ev x with
  | some (.p (.int _ n))=>some n
  | _=>none
def elems:DV→Option (Nat×List (List PD))
 | .p (.sl z xs)=>some (z,xs)
 | .own _ z xs=>some (z,xs)
 | .cp z xs=>some (z,xs)
 | .mt _ z=>some (z,[])
 | _=>none
def sliceD (P:Program) (t:TypeId) (ev:Operand→Option DV) (x:Operand) (lo hi:Option Operand):Option DV:=
 match ev x with
 | some (.p (.str s))=>match optInt ev 0 lo,optInt ev s.size hi with
  | some l,some h=>if tkind P t=some 0∧0≤l∧l≤h∧h≤s.size then some (.p (.str (s.extract l.toNat h.toNat)))else none
  | _,_=>none
 | some (.arr id off z n)=>match tslice P t with
  | some e=>match optInt ev 0 lo,optInt ev n hi with
   | some l,some h=>if tsz P e=some z∧0≤l∧l≤h∧h≤n then some (.arr id (off + l.toNat * z) z (h.toNat - l.toNat))else none
   | _,_=>none
  | none=>none
 | some d=>match elems d,tslice P t with
  | some (z,xs),some e=>match optInt ev 0 lo,optInt ev xs.length hi with
   | some l,some h=>if tsz P e=some z∧0≤l∧l≤h∧h≤xs.length then some (.p (.sl z ((xs.take h.toNat).drop l.toNat)))else none
   | _,_=>none
  | _,_=>none
 | none=>none
def slice3D (P:Program) (t:TypeId) (ev:Operand→Option DV) (x:Operand) (lo hi:Option Operand) (mx:Operand):Option DV:=
 match ev x with
 | some (.arr id off z n)=>match tslice P t with
  | some e=>match optInt ev 0 lo,optInt ev (-1) hi,optInt ev 0 (some mx)with
   | some l,some h,some m=>if tsz P e=some z∧l=0∧h=0∧m=0 then some (.cp z [])else none
   | _,_,_=>none
  | none=>none
 | some d=>match elems d,tslice P t with
  | some (z,xs),some e=>match optInt ev 0 lo,optInt ev (-1) hi,optInt ev 0 (some mx)with
   | some l,some h,some m=>if tsz P e=some z∧0≤l∧l≤h∧h≤xs.length∧m=h then some (.cp z ((xs.take h.toNat).drop l.toNat))else none
   | _,_,_=>none
  | _,_=>none
 | none=>none
def mapD (ev:Operand→Option DV):List Operand→Option (List DV)
 | []=>some []
 | x::xs=>match ev x,mapD ev xs with
  | some d,some ds=>some (d::ds)
  | _,_=>none
def lenD (P:Program) (t:TypeId):DV→Option DV
 | .p (.str s)=>if tkind P t=some 0 then some (.p (.int .i64 s.size))else none
 | .p (.sl _ xs)=>if tkind P t=some 3 then some (.p (.int .i64 xs.length))else none
 | .own _ _ xs=>if tkind P t=some 3 then some (.p (.int .i64 xs.length))else none
 | .cp _ xs=>if tkind P t=some 3 then some (.p (.int .i64 xs.length))else none
 | .mt _ _=>if tkind P t=some 3 then some (.p (.int .i64 0))else none
 | .arr _ _ _ n=>if tkind P t=some 3 then some (.p (.int .i64 n))else none
 | .nil=>if tkind P t=some 3 then some (.p (.int .i64 0))else none
 | _=>none
def tint (P:Program) (t:TypeId):Option IntKind:=match P.underlying t with
 | some (.int k)=>some k
 | _=>none
def convD (P:Program) (src dst:TypeId):DV→Option DV
 | .p (.int _ n)=>match tint P dst with
  | some k=>if tkind P src=some 2 then some (.p (.int k (k.wrap n)))else none
  | none=>none
 | .p (.str s)=>if tkind P dst=some 0∧tkind P src=some 0 then some (.p (.str s))else none
 | _=>none
def callD (P:Program) (ev:Operand→Option DV) (c:Call):Option DV:=
 match c.callee with
 | .builtin .len=>match c.args.toList,c.argTypes.toList with
  | [x],[t]=>match ev x with
   | some d=>lenD P t d
   | none=>none
  | _,_=>none
 | .builtin .min=>match c.args.toList with
  | [x,y]=>match ev x,ev y with
   | some (.p (.int k a)),some (.p (.int k' b))=>if k=k' then some (.p (.int k (if a < b then a else b)))else none
   | _,_=>none
  | _=>none
 | .builtin .max=>match c.args.toList with
  | [x,y]=>match ev x,ev y with
   | some (.p (.int k a)),some (.p (.int k' b))=>if k=k' then some (.p (.int k (if a > b then a else b)))else none
   | _,_=>none
  | _=>none
 | _=>none
def pureD (P:Program) (ev:Operand→Option DV):Op→Option DV
 | .pick c a b=>match ev c with
  | some (.p (.bool true))=>(ev a).map fz
  | some (.p (.bool false))=>(ev b).map fz
  | _=>none
 | .nilCheck x=>match ev x with
  | some (.ref i k)=>some (.ref i k)
  | some (.fr cs)=>some (.fr cs)
  | some (.fn f c)=>some (.fn f (fzs c))
  | _=>none
 | .binOp op t x y _=>match ev x,ev y with
  | some a,some b=>(binD P t op a b).map .p
  | _,_=>none
 | .unOp .not _ x=>match ev x with
  | some (.p (.bool b))=>some (.p (.bool !b))
  | _=>none
 | .unOp .neg _ x=>match ev x with
  | some (.p (.int k n))=>some (.p (.int k (k.wrap (0 - n))))
  | _=>none
 | .field t x i=>match ev x,tfield P t i with
  | some (.agg cs),some (off,z,g)=>if g then some (.agg (fzs ((cs.drop off).take z)))else(cs[off]?).map fz
  | _,_=>none
 | .fieldAddr t x i=>match ev x,tfield P t i with
  | some (.ref id k),some (off,z,_)=>if z=0 then none else some (.ref id (k + off))
  | some (.fr cs),some (off,z,_)=>if z=0 then none else if off≤cs.length then some (.fr (cs.drop off))else none
  | _,_=>none
 | .indexAddr t x ix=>match ev x,ev ix with
  | some (.arr id off z k),some (.p (.int _ n))=>match tslice P t with
   | some e=>if tsz P e=some z∧0≤n∧n.toNat < k then some (.ref id (off + n.toNat * z))else none
   | none=>none
  | some d,some (.p (.int _ n))=>match elems d,tslice P t with
   | some (z,xs),some e=>if tsz P e=some z∧0≤n then(xs[n.toNat]?).map .fr else none
   | _,_=>none
  | _,_=>none
 | .index t x ix=>match ev x,ev ix with
  | some (.p (.str s)),some (.p (.int _ n))=>if tkind P t=some 0∧0≤n then(match s[n.toNat]? with
   | some b=>some (.p (.int .u8 b.toNat))
   | none=>none)else none
  | _,_=>none
 | .slice t x lo hi none=>sliceD P t ev x lo hi
 | .slice t x lo hi (some mx)=>slice3D P t ev x lo hi mx
 | .convert src dst x=>match ev x with
  | some d=>convD P src dst d
  | none=>none
 | .extract x i=>match ev x with
  | some (.tup ds)=>(ds[i]?).map fz
  | _=>none
 | .makeFunc (.func f) first cap=>if first.size=0 then(mapD ev cap.toList).map fun ds=> .fn f (fzs ds)else none
 | .call c=>callD P ev c
 | _=>none
def EvOK (w:World) (h:Mark) (ρ:List Nat) (ev:Operand→Option DV) (re:Operand→Value):Prop:=
 ∀x d,ev x=some d→∃O,RepD w h ρ d O (re x)
theorem EvOK.fz {w h ρ ev re} (ok:EvOK w h ρ ev re) {x d} (e:ev x=some d) (O):RepD w h ρ (fz d) O (re x):=by
 obtain⟨O',r⟩:=ok x d e;exact RepD.fz d O' O _ r
theorem RepRow.drop {w h}:∀{cs:List PD} {f:Nat→Option Value} (k:Nat),RepRow w h cs f→RepRow w h (cs.drop k) (fun j=>f (k + j)):=by
 intro cs f k r;refine RepRow.of_get fun j c hc=> ?_
 rw[List.getElem?_drop]at hc;exact r.get _ c hc
theorem rep_slice {w h z xs v} (r:Rep w h (.sl z xs) v):∃a c,v= .slice a xs.length c∧xs.length≤c∧(a=none→c=0):=by
 simp only[Rep]at r;rcases r with ⟨rfl,a,c,rfl,h⟩ | ⟨g,off,cap,rfl,hc,_⟩
 ·exact⟨a,c,rfl,by simp,h⟩
 ·exact⟨_,cap,rfl,hc,fun h=>by cases h⟩
theorem elems_rep {w h ρ d z xs O v} (e:elems d=some (z,xs)) (r:RepD w h ρ d O v):Rep w h (.sl z xs) v:=by
 unfold elems at e;split at e
 ·injection e with e;injection e with e1 e2;subst e1;subst e2;simpa only[RepD]using r
 ·injection e with e;injection e with e1 e2;subst e1;subst e2;simp only[RepD]at r;exact r.freeze
 ·injection e with e;injection e with e1 e2;subst e1;subst e2;simp only[RepD]at r;exact r.1
 ·injection e with e;injection e with e1 e2;subst e1;subst e2;simp only[RepD]at r;exact r.freeze
 ·cases e
theorem optInt_ok {P:Program} {w h ρ ev re} (ok:EvOK w h ρ ev re) {dflt:Int} {x:Option Operand} {n:Int} (e:optInt ev dflt x=some n):
  (x=none∧n=dflt)∨∃y k,x=some y∧re y= .int k n:=by
 unfold optInt at e;split at e
 ·injection e with e;exact .inl ⟨rfl,e.symm⟩
 ·rename_i y;split at e
  ·rename_i k n' h1;injection e with e;subst e
   obtain⟨O,r⟩:=ok _ _ h1;simp only[RepD,Rep]at r;exact .inr ⟨y,k,rfl,r⟩
  ·cases e
theorem sliceBounds_ok {P:Program} {w h ρ ev re} (ok:EvOK w h ρ ev re) (isSlice:Bool) (len cap:Nat) {lo hi:Option Operand} {l r:Int}
  (el:optInt ev 0 lo=some l) (eh:optInt ev len hi=some r) (h0:0≤l) (h1:l≤r) (h2:r≤len) (hc:len≤cap):
  (Instr.sliceBounds isSlice len cap (lo.map re) (hi.map re) none).run P w= .ok (l.toNat,r.toNat,cap) w:=by
 have A:∀(code:BoundsCode) (y:Operand) (k:IntKind) (q:Int) (m:Nat),re y= .int k q→0≤q→q≤m→(Instr.sliceBound (re y) m code).run P w= .ok q.toNat w:=by
  intro code y k q m e a b;simp only[Instr.sliceBound,e,asIntOf,Sem.run_bind,Sem.run_pure,Result.andThen_ok];rw[if_pos ⟨a,b⟩];rfl
 unfold Instr.sliceBounds;rcases optInt_ok (P:=P) ok eh with ⟨rfl,rfl⟩ | ⟨y,k,rfl,hy⟩
 ·rcases optInt_ok (P:=P) ok el with ⟨rfl,rfl⟩ | ⟨y',k',rfl,hy'⟩
  ·simp only[Option.map_none,Sem.run_bind,Sem.run_pure,Result.andThen_ok];rfl
  ·simp only[Option.map_none,Option.map_some,Sem.run_bind,Sem.run_pure,Result.andThen_ok,Option.isSome_none,Bool.false_eq_true,if_false];rw[A _ y' k' l len hy' h0 (by omega)];simp
 ·rcases optInt_ok (P:=P) ok el with ⟨rfl,rfl⟩ | ⟨y',k',rfl,hy'⟩
  ·simp only[Option.map_none,Option.map_some,Sem.run_bind,Sem.run_pure,Result.andThen_ok];rw[A _ y k r cap hy (by omega) (by omega)];simp
  ·simp only[Option.map_none,Option.map_some,Sem.run_bind,Sem.run_pure,Result.andThen_ok,Option.isSome_none,Bool.false_eq_true,if_false];rw[A _ y k r cap hy (by omega) (by omega)];simp only[Result.andThen_ok];rw[A _ y' k' l r.toNat hy' h0 (by omega)];simp
theorem sliceBounds3_ok {P:Program} {w h ρ ev re} (ok:EvOK w h ρ ev re) (isSlice:Bool) (len cap:Nat) {lo hi:Option Operand} {mx:Operand} {l r m:Int}
  (el:optInt ev 0 lo=some l) (eh:optInt ev (-1) hi=some r) (em:optInt ev 0 (some mx)=some m) (h0:0≤l) (h1:l≤r) (h2:r=m) (hc:m≤cap):
  (Instr.sliceBounds isSlice len cap (lo.map re) (hi.map re) (some (re mx))).run P w= .ok (l.toNat,r.toNat,m.toNat) w:=by
 have A:∀(code:BoundsCode) (y:Operand) (k:IntKind) (q:Int) (m:Nat),re y= .int k q→0≤q→q≤m→(Instr.sliceBound (re y) m code).run P w= .ok q.toNat w:=by
  intro code y k q m e a b;simp only[Instr.sliceBound,e,asIntOf,Sem.run_bind,Sem.run_pure,Result.andThen_ok];rw[if_pos ⟨a,b⟩];rfl
 unfold Instr.sliceBounds;rcases optInt_ok (P:=P) ok em with ⟨q,_⟩ | ⟨y0,k0,hy0,hym⟩
 ·cases q
 injection hy0 with hy0;subst hy0
 rcases optInt_ok (P:=P) ok eh with ⟨rfl,rfl⟩ | ⟨y,k,rfl,hy⟩
 ·omega
 simp only[Option.map_some,Sem.run_bind,Sem.run_pure,Result.andThen_ok,Option.isSome_some,if_true];rw[A _ mx k0 m cap hym (by omega) hc];simp only[Result.andThen_ok];rw[A _ y k r m.toNat hy (by omega) (by omega)];simp only[Result.andThen_ok];rcases optInt_ok (P:=P) ok el with ⟨rfl,rfl⟩ | ⟨y',k',rfl,hy'⟩
 ·simp
 ·simp only[Option.map_some,Sem.run_bind];rw[A _ y' k' l r.toNat hy' h0 (by omega)];simp
theorem rep_sub {w h z xs} {l r:Nat} (hl:l≤r) (hr:r≤xs.length) {g off cap:Nat} (hc:xs.length≤cap) (hh:off + xs.length * z≤h g) (hz:∀x∈xs,x.length=z)
  (rr:RepRows w h xs (fun j=>w.cell? ⟨g,off + j,none⟩)) (m:Nat) (hm:r≤m + l):
  Rep w h (.sl z ((xs.take r).drop l)) (.slice (some ⟨g,off + l * z,none⟩) (r - l) m):=by
 simp only[Rep];have hlen:((xs.take r).drop l).length=r - l:=by simp;omega
 refine .inr ⟨g,off + l * z,m,?_,?_,?_,?_,?_⟩
 ·rw[hlen]
 ·rw[hlen];omega
 ·rw[hlen];have:l * z +(r - l)* z=r * z:=by rw[←Nat.add_mul];congr 1;omega
  have h2:r * z≤xs.length * z:=Nat.mul_le_mul_right _ hr;omega
 ·intro x hx;exact hz x (List.mem_of_mem_take (List.mem_of_mem_drop hx))
 ·refine RepRows.of_get (size:=z) (fun x hx=>hz x (List.mem_of_mem_take (List.mem_of_mem_drop hx))) fun i x hx=> ?_
  rw[List.getElem?_drop,List.getElem?_take]at hx;split at hx
  ·have:=rr.get hz (l + i) x hx;have e:(fun j=>(fun j=>w.cell? ⟨g,off + l * z + j,none⟩) (i * z + j))=(fun j=>(fun j=>w.cell? ⟨g,off + j,none⟩) ((l + i)* z + j)):=by
    funext j
    simp only[];rw[Nat.add_mul]
    congr 2
    omega
   rw[e];exact this
  ·cases hx
theorem addr_add (g off k:Nat):(⟨g,off,none⟩:Addr).add k=⟨g,off + k,none⟩:=by unfold Addr.add;split <;> simp_all
theorem sliceD_ok {P t ev x lo hi d w h ρ re} (ok:EvOK w h ρ ev re) (e:sliceD P t ev x lo hi=some d):
  ∃v,(Instr.sliceAt t (re x) (lo.map re) (hi.map re) none).run P w= .ok v w∧∀O,RepD w h ρ d O v:=by
 unfold sliceD at e;split at e
 ·rename_i s hx;split at e
  ·rename_i l r el eh;split at e
   ·rename_i hc;obtain⟨ht,h0,h1,h2⟩:=hc;injection e with e;subst e
    obtain⟨O,rx⟩:=ok _ _ hx;simp only[RepD,Rep]at rx;refine⟨.string (s.extract l.toNat r.toNat),?_,fun O=>by simp only[RepD,Rep]⟩;have hb:=sliceBounds_ok (P:=P) ok false s.size s.size el eh h0 h1 h2 (Nat.le_refl _);simp only[Instr.sliceAt,Instr.slice,rx,Sem.run_bind,run_underlying (tkind0 ht),Result.andThen_ok,Option.isSome_none,Bool.false_eq_true,if_false,Sem.run_pure,hb]
   ·cases e
  ·cases e
 ·rename_i id off z n hx;split at e
  ·rename_i el2 hts;split at e
   ·rename_i l r el eh;split at e
    ·rename_i hc;obtain⟨hz,h0,h1,h2⟩:=hc;injection e with e;subst e
     obtain⟨O,rx⟩:=ok _ _ hx;have hu:=tslice_spec hts;simp only[RepD]at rx;obtain⟨b,hb,⟨rfl,a,c,hv,hac⟩ | ⟨cap,ccs,cT,cf,hcap,hv,hch,hcsz⟩⟩:=rx
     ·have hr0:r=0:=by omega
      have hl0:l=0:=by omega
      subst hr0;subst hl0;have hb':=sliceBounds_ok (P:=P) ok true 0 c el eh (by omega) (by omega) (by simp) (Nat.zero_le _);refine⟨.slice (if c=0 then a else a.map (·.add (0 * z))) 0 c,?_,fun O=> ?_⟩
      ·simp only[Instr.sliceAt,Instr.slice,hv,Sem.run_bind,run_underlying hu,Result.andThen_ok,hb',tsz_spec hz,Sem.run_pure];simp
      ·simp only[RepD];refine⟨b,hb,.inl ⟨by simp,_,c,rfl,fun q=> ?_⟩⟩;split at q
       ·assumption
       ·cases a with
        | none=>exact hac rfl
        | some _=>simp at q
     ·have hb':=sliceBounds_ok (P:=P) ok true n cap el eh h0 h1 h2 hcap;refine⟨.slice (if cap=l.toNat then some ⟨b,off,none⟩else some ⟨b,off + l.toNat * z,none⟩) (r.toNat - l.toNat) (cap - l.toNat),?_,fun O=> ?_⟩
      ·simp only[Instr.sliceAt,Instr.slice,hv,Sem.run_bind,run_underlying hu,Result.andThen_ok,hb',tsz_spec hz,Sem.run_pure];split <;> simp[addr_add]
      ·simp only[RepD];refine⟨b,hb,?_⟩
       by_cases hcl:cap=l.toNat
       ·left;have hrl:r.toNat - l.toNat=0:=by omega
        refine⟨hrl,_,_,by rw[hrl],fun q=> ?_⟩;rw[if_pos hcl]at q;cases q
       ·right;refine⟨cap - l.toNat,ccs,cT,cf,by omega,by rw[if_neg hcl],hch,?_⟩;have:l.toNat * z +(cap - l.toNat)* z=cap * z:=by rw[←Nat.add_mul];congr 1;omega
        omega
    ·cases e
   ·cases e
  ·cases e
 ·rename_i d' hns hna hx;split at e
  ·rename_i z xs el2 he hts;split at e
   ·rename_i l r el eh;split at e
    ·rename_i hc;obtain⟨hz,h0,h1,h2⟩:=hc;injection e with e;subst e
     obtain⟨O,rx⟩:=ok _ _ hx;have rs:=elems_rep he rx;have hu:=tslice_spec hts;simp only[Rep]at rs;rcases rs with ⟨h0',a,c,hv,hac⟩ | ⟨g,off,cap,hv,hcap,hh,hzz,rr⟩
     ·subst h0';have hr0:r=0:=by simp only[List.length_nil]at h2;omega
      have hl0:l=0:=by omega
      subst hr0;subst hl0;have hb:=sliceBounds_ok (P:=P) ok true 0 c el eh (by omega) (by omega) (by simp) (Nat.zero_le _);refine⟨.slice (if c=0 then a else a.map (·.add (0 * z))) 0 c,?_,fun O=> ?_⟩
      ·simp only[Instr.sliceAt,Instr.slice,hv,Sem.run_bind,run_underlying hu,Result.andThen_ok,hb,tsz_spec hz,Sem.run_pure];simp
      ·simp only[RepD,Rep];refine .inl ⟨by simp,_,c,rfl,fun q=> ?_⟩;split at q
       ·assumption
       ·cases a with
        | none=>exact hac rfl
        | some _=>simp at q
     ·have hb:=sliceBounds_ok (P:=P) ok true xs.length cap el eh h0 h1 h2 hcap
      by_cases hcl:cap=l.toNat
      ·refine⟨.slice (some ⟨g,off,none⟩) (r.toNat - l.toNat) (cap - l.toNat),?_,fun O=> ?_⟩
       ·simp only[Instr.sliceAt,Instr.slice,hv,Sem.run_bind,run_underlying hu,Result.andThen_ok,hb,tsz_spec hz,Sem.run_pure,if_pos hcl]
       ·have:(xs.take r.toNat).drop l.toNat= []:=by
         apply List.eq_nil_of_length_eq_zero;simp;omega
        rw[this];have hrl:r.toNat - l.toNat=0:=by omega
        simp only[RepD,Rep,hrl];exact .inr ⟨g,off,cap - l.toNat,rfl,by simp,by simp;omega,by simp,by simp only[RepRows]⟩
      ·refine⟨.slice (some ⟨g,off + l.toNat * z,none⟩) (r.toNat - l.toNat) (cap - l.toNat),?_,fun O=> ?_⟩
       ·simp only[Instr.sliceAt,Instr.slice,hv,Sem.run_bind,run_underlying hu,Result.andThen_ok,hb,tsz_spec hz,Sem.run_pure,if_neg hcl,Option.map_some,addr_add]
       ·simp only[RepD];exact rep_sub (by omega) (by omega) hcap hh hzz rr _ (by omega)
    ·cases e
   ·cases e
  ·cases e
 ·cases e
theorem slice3D_ok {P t ev x lo hi mx d w h ρ re} (ok:EvOK w h ρ ev re) (e:slice3D P t ev x lo hi mx=some d):
  ∃v,(Instr.sliceAt t (re x) (lo.map re) (hi.map re) (some (re mx))).run P w= .ok v w∧∀O,RepD w h ρ d O v:=by
 unfold slice3D at e;split at e
 ·rename_i id off z n hx;split at e
  ·rename_i el2 hts;split at e
   ·rename_i l r m el eh em;split at e
    ·rename_i hc;obtain⟨hz,rfl,rfl,rfl⟩:=hc;injection e with e;subst e
     obtain⟨O,rx⟩:=ok _ _ hx;have hu:=tslice_spec hts;simp only[RepD]at rx;have hv:∃a k c,re x= .slice a k c:=by
      obtain⟨b,hb,⟨rfl,a,c,hv,hac⟩ | ⟨cap,_,_,_,hcap,hv,_⟩⟩:=rx
      ·exact⟨_,_,_,hv⟩
      ·exact⟨_,_,_,hv⟩
     obtain⟨a,k,c,hv⟩:=hv;have hb':=sliceBounds3_ok (P:=P) ok true k c el eh em (by omega) (by omega) rfl (by omega);refine⟨.slice a 0 0,?_,fun O=> ?_⟩
     ·simp only[Instr.sliceAt,Instr.slice,hv,Sem.run_bind,run_underlying hu,Result.andThen_ok,hb',tsz_spec hz,Sem.run_pure];simp
     ·simp only[RepD,Rep];exact⟨.inl ⟨trivial,a,0,rfl,fun _=>rfl⟩,a,rfl⟩
    ·cases e
   ·cases e
  ·cases e
 ·rename_i d' hna hx;split at e
  ·rename_i z xs el2 he hts;split at e
   ·rename_i l r m el eh em;split at e
    ·rename_i hc;obtain⟨hz,h0,h1,h2,rfl⟩:=hc;injection e with e;subst e
     obtain⟨O,rx⟩:=ok _ _ hx;have rs:=elems_rep he rx;have hu:=tslice_spec hts;obtain⟨a,c,hv,hlc,hac⟩:=rep_slice rs;have hb':=sliceBounds3_ok (P:=P) ok true xs.length c el eh em h0 h1 rfl (by omega);have hlen:((xs.take m.toNat).drop l.toNat).length=m.toNat - l.toNat:=by simp;omega
     refine⟨.slice (if m.toNat=l.toNat then a else a.map (·.add (l.toNat * z))) (m.toNat - l.toNat) (m.toNat - l.toNat),?_,fun O=> ?_⟩
     ·simp only[Instr.sliceAt,Instr.slice,hv,Sem.run_bind,run_underlying hu,Result.andThen_ok,hb',tsz_spec hz,Sem.run_pure]
     ·simp only[RepD];refine⟨?_,_,by rw[hlen]⟩
      by_cases hml:m.toNat=l.toNat
      ·have hn:(xs.take m.toNat).drop l.toNat= []:=List.eq_nil_of_length_eq_zero (by omega);rw[hn,if_pos hml];simp only[Rep];exact .inl ⟨trivial,a,m.toNat - l.toNat,by simp[hml],fun _=>by omega⟩
      ·rw[if_neg hml];simp only[Rep]at rs;rcases rs with ⟨hx0,_⟩ | ⟨g,off,cap,hv2,hcap,hh,hzz,rr⟩
       ·subst hx0;simp at h2;omega
       ·rw[hv]at hv2;injection hv2 with e1 e2 e3;subst e1
        simp only[Option.map_some,addr_add];exact rep_sub (by omega) (by omega) hcap hh hzz rr _ (by omega)
    ·cases e
   ·cases e
  ·cases e
 ·cases e
theorem mapD_ok {w h ρ ev re} (ok:EvOK w h ρ ev re):∀{xs:List Operand} {ds:List DV},mapD ev xs=some ds→∀O k,RepDs w h ρ (fzs ds) O k (xs.map re)
 | [],ds,e,O,k=>by simp only[mapD,Option.some.injEq]at e;subst e;simp[RepDs,fzs]
 | x::xs,ds,e,O,k=>by
  simp only[mapD]at e;split at e
  ·rename_i d ds' h1 h2;injection e with e;subst e
   simp only[fzs,RepDs,List.map_cons];exact⟨_,_,rfl,ok.fz h1 _,mapD_ok ok h2 O (k + 1)⟩
  ·cases e
theorem lenD_ok {P t d r w h ρ O v} (e:lenD P t d=some r) (rd:RepD w h ρ d O v) (ty:TypeId):
  ∃u,(Builtin.len_ #[t] ty #[v]).run P w= .ok u w∧∀O,RepD w h ρ r O u:=by
 unfold lenD at e;have three:∀(n:Nat) (a:Option Addr) (c:Nat),tkind P t=some 3→(Builtin.len_ #[t] ty #[.slice a n c]).run P w= .ok (.int .i64 n) w:=by
  intro n a c ht;obtain⟨q,h1,h2⟩:=Option.map_eq_some_iff.1 ht;cases q <;> simp_all
  simp[Builtin.len_,run_underlying h1,goInt]
 split at e
 ·split at e
  ·rename_i s ht;injection e with e;subst e
   simp only[RepD,Rep]at rd;subst rd;exact⟨.int .i64 s.size,by simp[Builtin.len_,run_underlying (tkind0 ht),goInt],fun O=>by simp only[RepD,Rep]⟩
  ·cases e
 ·split at e
  ·rename_i z xs ht;injection e with e;subst e
   simp only[RepD]at rd;obtain⟨a,c,rfl,_⟩:=rep_slice rd;exact⟨_,three _ _ _ ht,fun O=>by simp only[RepD,Rep]⟩
  ·cases e
 ·split at e
  ·rename_i e' z xs ht;injection e with e;subst e
   simp only[RepD]at rd;obtain⟨a,c,rfl,_⟩:=rep_slice rd.freeze;exact⟨_,three _ _ _ ht,fun O=>by simp only[RepD,Rep]⟩
  ·cases e
 ·split at e
  ·rename_i z xs ht;injection e with e;subst e
   simp only[RepD]at rd;obtain⟨a,c,rfl,_⟩:=rep_slice rd.1;exact⟨_,three _ _ _ ht,fun O=>by simp only[RepD,Rep]⟩
  ·cases e
 ·split at e
  ·rename_i e' z ht;injection e with e;subst e
   simp only[RepD]at rd;obtain⟨a,c,rfl,_⟩:=rep_slice rd.freeze;exact⟨_,three _ _ _ ht,fun O=>by simp only[RepD,Rep];rfl⟩
  ·cases e
 ·split at e
  ·rename_i i o z n ht;injection e with e;subst e
   simp only[RepD]at rd;obtain⟨b,_,⟨rfl,a,c,rfl,_⟩ | ⟨cap,_,_,_,_,rfl,_⟩⟩:=rd
   ·exact⟨_,three _ _ _ ht,fun O=>by simp only[RepD,Rep]⟩
   ·exact⟨_,three _ _ _ ht,fun O=>by simp only[RepD,Rep]⟩
  ·cases e
 ·split at e
  ·rename_i ht;injection e with e;subst e
   simp only[RepD]at rd;subst rd;exact⟨_,three _ _ _ ht,fun O=>by simp only[RepD,Rep];rfl⟩
  ·cases e
 ·cases e
end Go.Proofs.Dm
namespace Go.Proofs.Dm
open Go Go.RowKit
def plainV:Value→Bool
 | .agg _=>false
 | .nilIface=>false
 | _=>true
theorem eqGuard_ok {P:Program} {op t x y a b} (ha:plainV a=true) (w:World):(eqGuard op t x y a b).run P w= .ok () w:=by
 cases a <;> simp[plainV]at ha <;> cases op <;> rfl
theorem binD_guard {P t op x y r} (e:binD P t op x y=some r) {w:World} {h:Mark} {ρ O O' vx vy} (rx:RepD w h ρ x O vx) (ry:RepD w h ρ y O' vy) (ox oy:Operand):(eqGuard op t ox oy vx vy).run P w= .ok () w:=by
 unfold binD at e;split at e
 ·simp only[RepD]at rx ry;obtain⟨us,rfl,rx⟩:=rx;obtain⟨vs,rfl,ry⟩:=ry;split at e
  ·rename_i ks hks;obtain⟨fs,hu,h1,h2,h3⟩:=tflat_spec hks;exact run_eqGuard_agg w op t ox oy us vs h2
  ·cases e
 ·simp only[RepD,Rep]at rx;subst rx;exact eqGuard_ok rfl w
 ·simp only[RepD,Rep]at rx;subst rx;exact eqGuard_ok rfl w
 ·simp only[RepD,Rep]at rx;subst rx;exact eqGuard_ok rfl w
 ·simp only[RepD]at rx;obtain⟨b,_,rx⟩:=rx;subst rx;exact eqGuard_ok rfl w
 ·simp only[RepD,Rep]at rx;subst rx;exact eqGuard_ok rfl w
 ·split at e
  ·split at e
   ·rename_i hb;obtain⟨a,n,c,rfl,_⟩:=nilK_ok hb rx;exact eqGuard_ok rfl w
   ·cases e
  ·cases e
 ·cases e
theorem callD_ok {P:Program} {w h ρ ev} {re:Operand→Value} (ok:EvOK w h ρ ev re) {c:Call} {ty:TypeId} {d:DV} (e:callD P ev c=some d):
  ∃v,(do let d ←resolve re c ty;invoke d.target d.args:Sem Next).run P w= .ok (.value v) w∧∀O,RepD w h ρ d O v:=by
 obtain⟨callee,args,types⟩:=c;unfold callD at e;split at e
 ·rename_i hc;dsimp only at hc e;subst hc;split at e
  ·rename_i x t ha ht;have ha:args= #[x]:=by rw[←Array.toArray_toList (xs:=args),ha]
   have ht:types= #[t]:=by rw[←Array.toArray_toList (xs:=types),ht]
   subst ha;subst ht;split at e
   ·rename_i d' hx;obtain⟨O,r⟩:=ok _ _ hx;obtain⟨u,h1,h2⟩:=lenD_ok e r ty;refine⟨u,?_,h2⟩;simp[resolve,invoke,builtin,h1]
   ·cases e
  ·cases e
 ·rename_i hc;dsimp only at hc e;subst hc;split at e
  ·rename_i x y ha;have ha:args= #[x,y]:=by rw[←Array.toArray_toList (xs:=args),ha]
   subst ha;split at e
   ·rename_i k a k' b hx hy;split at e
    ·rename_i hk;subst hk;injection e with e;subst e
     obtain⟨_,rx⟩:=ok _ _ hx;obtain⟨_,ry⟩:=ok _ _ hy;simp only[RepD,Rep]at rx ry;refine⟨.int k (if a < b then a else b),?_,fun O=>by simp only[RepD,Rep]⟩;simp[resolve,invoke,builtin,Builtin.min_,Builtin.min2,rx,ry]
     (repeat' split)<;> omega
    ·cases e
   ·cases e
  ·cases e
 ·rename_i hc;dsimp only at hc e;subst hc;split at e
  ·rename_i x y ha;have ha:args= #[x,y]:=by rw[←Array.toArray_toList (xs:=args),ha]
   subst ha;split at e
   ·rename_i k a k' b hx hy;split at e
    ·rename_i hk;subst hk;injection e with e;subst e
     obtain⟨_,rx⟩:=ok _ _ hx;obtain⟨_,ry⟩:=ok _ _ hy;simp only[RepD,Rep]at rx ry;refine⟨.int k (if a > b then a else b),?_,fun O=>by simp only[RepD,Rep]⟩;simp[resolve,invoke,builtin,Builtin.max_,Builtin.max2,rx,ry]
     (repeat' split)<;> omega
    ·cases e
   ·cases e
  ·cases e
 ·cases e
theorem fieldPlace_ok {P:Program} {f:Field} {z:Nat} (hz:tsz P f.type=some z) (h0:z≠0) (a:Addr) (w:World):(fieldPlace a f).run P w= .ok (a.add f.offset) w:=by
 simp only[fieldPlace,Sem.run_bind,tsz_spec hz,Result.andThen_ok,if_neg h0,Sem.run_pure]
theorem part_agg {P:Program} {t:TypeId} {z:Nat} (hg:tagg P t=some true) (hz:tsz P t=some z) (cs:Array Value) (off:Nat) (w:World):
  (part t cs off).run P w= .ok (.agg (cs.extract off (off + z))) w:=by
 simp[part,tagg_spec hg,tsz_spec hz]
theorem part_one {P:Program} {t:TypeId} (hg:tagg P t=some false) (cs:Array Value) (off:Nat) (v:Value) (hv:cs[off]? =some v) (w:World):
  (part t cs off).run P w= .ok v w:=by
 simp[part,tagg_spec hg,hv]
theorem fzs_len:∀(ds:List DV),(fzs ds).length=ds.length
 | []=>rfl
 | d::ds=>by simp[fzs,fzs_len ds]
theorem fzs_get:∀(ds:List DV) (i:Nat),(fzs ds)[i]? =(ds[i]?).map fz
 | [],i=>by simp[fzs]
 | d::ds,0=>by simp[fzs]
 | d::ds,i + 1=>by simp[fzs,fzs_get ds i]
theorem RepDs.fz_any {w h ρ ds O k vs} (r:RepDs w h ρ ds O k vs) (O' k'):RepDs w h ρ (Dm.fzs ds) O' k' vs:=by
 refine RepDs.of_get (by rw[fzs_len];exact r.length) fun i d v hd hv=> ?_
 rw[fzs_get]at hd;obtain⟨d0,h1,h2⟩:=Option.map_eq_some_iff.1 hd;subst h2;obtain⟨v',a,b⟩:=r.get i d0 h1;rw[a]at hv;injection hv with hv;subst hv
 exact RepD.fz d0 _ _ _ b
theorem RepDs.sub {w h ρ ds O k vs} (r:RepDs w h ρ ds O k vs) (off z:Nat) (O' k'):RepDs w h ρ (Dm.fzs ((ds.drop off).take z)) O' k' ((vs.drop off).take z):=by
 refine RepDs.of_get ?_ fun i d v hd hv=> ?_
 ·rw[fzs_len];simp[r.length]
 ·rw[fzs_get]at hd;obtain⟨d0,h1,h2⟩:=Option.map_eq_some_iff.1 hd;subst h2;rw[List.getElem?_take]at h1 hv;split at h1
  ·rename_i hi;rw[if_pos hi]at hv;rw[List.getElem?_drop]at h1 hv;obtain⟨v',a,b⟩:=r.get _ d0 h1;rw[a]at hv;injection hv with hv;subst hv
   exact RepD.fz d0 _ _ _ b
  ·cases h1
theorem pureD_ok {P:Program} {w h ρ ev} {re:Operand→Value} (ok:EvOK w h ρ ev re) {o:Oper} {d:DV} (e:pureD P ev o.op=some d):
  ∃v,(execOp re o).run P w= .ok (.value v) w∧∀O,RepD w h ρ d O v:=by
 obtain⟨dst,op,ty,pos,after,guard⟩:=o;dsimp only at e;unfold pureD at e;split at e
 ·rename_i c a b;split at e
  ·rename_i hc;obtain⟨d',h1,h2⟩:=Option.map_eq_some_iff.1 e;subst h2;obtain⟨_,rc⟩:=ok _ _ hc;simp only[RepD,Rep]at rc;exact⟨re a,by simp[execOp,rc,asBool],fun O=>ok.fz h1 O⟩
  ·rename_i hc;obtain⟨d',h1,h2⟩:=Option.map_eq_some_iff.1 e;subst h2;obtain⟨_,rc⟩:=ok _ _ hc;simp only[RepD,Rep]at rc;exact⟨re b,by simp[execOp,rc,asBool],fun O=>ok.fz h1 O⟩
  ·cases e
 ·rename_i x;split at e
  ·rename_i i k hx;injection e with e;subst e
   obtain⟨_,rx⟩:=ok _ _ hx;simp only[RepD]at rx;obtain⟨b,hb,hv⟩:=rx;exact⟨re x,by simp[execOp,hv],fun O=>by simp only[RepD];exact⟨b,hb,hv⟩⟩
  ·rename_i cs hx;injection e with e;subst e
   obtain⟨_,rx⟩:=ok _ _ hx;simp only[RepD]at rx;obtain⟨g,off,hv,hr⟩:=rx;exact⟨re x,by simp[execOp,hv],fun O=>by simp only[RepD];exact⟨g,off,hv,hr⟩⟩
  ·rename_i f c hx;injection e with e;subst e
   obtain⟨_,rx⟩:=ok _ _ hx;have rf:=fun O'=>ok.fz hx O'
   simp only[RepD]at rx;obtain⟨vs,hv,hr⟩:=rx;exact⟨re x,by simp[execOp,hv],fun O=>by simpa only[fz]using rf O⟩
  ·cases e
 ·rename_i op t x y yt;split at e
  ·rename_i a b hx hy;obtain⟨d',h1,h2⟩:=Option.map_eq_some_iff.1 e;subst h2;obtain⟨_,rx⟩:=ok _ _ hx;obtain⟨_,ry⟩:=ok _ _ hy;obtain⟨v,h3,h4⟩:=binD_ok h1 rx ry;refine⟨v,?_,fun O=>by simp only[RepD];exact h4⟩;simp only[execOp,Sem.run_bind,binD_guard h1 rx ry,Result.andThen_ok,h3,Sem.run_pure]
  ·cases e
 ·rename_i t x;split at e
  ·rename_i b hx;injection e with e;subst e
   obtain⟨_,rx⟩:=ok _ _ hx;simp only[RepD,Rep]at rx;exact⟨.bool !b,by simp[execOp,rx,Op.unary],fun O=>by simp only[RepD,Rep]⟩
  ·cases e
 ·rename_i t x;split at e
  ·rename_i k n hx;injection e with e;subst e
   obtain⟨_,rx⟩:=ok _ _ hx;simp only[RepD,Rep]at rx;exact⟨.int k (k.wrap (0 - n)),by simp[execOp,rx,Op.unary,Op.intArith],fun O=>by simp only[RepD,Rep]⟩
  ·cases e
 ·rename_i t x i;split at e
  ·rename_i cs off z g hx hf;obtain⟨fs,f,hu,hfi,hoff,hz,hg⟩:=tfield_spec hf;obtain⟨_,rx⟩:=ok _ _ hx;simp only[RepD]at rx;obtain⟨vs,hv,hr⟩:=rx;cases g with
   | true=>
    simp only[if_true]at e;injection e with e;subst e
    refine⟨.agg (vs.extract off (off + z)),?_,fun O=> ?_⟩
    ·simp only[execOp,Instr.field,Sem.run_bind,run_underlying hu,Result.andThen_ok,hfi,hv,asAgg,Sem.run_pure,hoff,part_agg hg hz]
    ·simp only[RepD];refine⟨_,rfl,?_⟩;have:=hr.sub off z O 0;rw[Array.toList_extract,List.extract_eq_take_drop,Nat.add_sub_cancel_left];exact this
   | false=>
    simp only[Bool.false_eq_true,if_false]at e;obtain⟨d',h1,h2⟩:=Option.map_eq_some_iff.1 e;subst h2;obtain⟨v,h3,h4⟩:=hr.get off d' h1;refine⟨v,?_,fun O=>RepD.fz d' _ _ _ h4⟩;have h3':vs[off]? =some v:=by rw[←Array.getElem?_toList];exact h3
    simp only[execOp,Instr.field,Sem.run_bind,run_underlying hu,Result.andThen_ok,hfi,hv,asAgg,Sem.run_pure,hoff,part_one hg vs off v h3']
  ·cases e
 ·rename_i t x i;split at e
  ·rename_i id k off z g hx hf;obtain⟨fs,f,hu,hfi,hoff,hz,hg⟩:=tfield_spec hf;split at e
   ·cases e
   ·rename_i h0;injection e with e;subst e
    obtain⟨_,rx⟩:=ok _ _ hx;simp only[RepD]at rx;obtain⟨b,hb,hv⟩:=rx;refine⟨.pointer (some ⟨b,k + off,none⟩),?_,fun O=>by simp only[RepD];exact⟨b,hb,rfl⟩⟩;simp only[execOp,Instr.fieldAt,Sem.run_bind,run_underlying hu,Result.andThen_ok,hfi,hv,Instr.sureAddr,Sem.run_pure,fieldPlace_ok hz h0,hoff,addr_add]
  ·rename_i cs off z g hx hf;obtain⟨fs,f,hu,hfi,hoff,hz,hg⟩:=tfield_spec hf;split at e
   ·cases e
   ·rename_i h0;split at e
    ·rename_i hl;injection e with e;subst e
     obtain⟨_,rx⟩:=ok _ _ hx;simp only[RepD]at rx;obtain⟨b,o',hv,hh,hr⟩:=rx;refine⟨.pointer (some ⟨b,o' + off,none⟩),?_,fun O=> ?_⟩
     ·simp only[execOp,Instr.fieldAt,Sem.run_bind,run_underlying hu,Result.andThen_ok,hfi,hv,Instr.sureAddr,Sem.run_pure,fieldPlace_ok hz h0,hoff,addr_add]
     ·simp only[RepD];refine⟨b,o' + off,rfl,by simp;omega,?_⟩;have:=RepRow.drop off hr;have e2:(fun j=>w.cell? ⟨b,o' + off + j,none⟩)=(fun j=>(fun j=>w.cell? ⟨b,o' + j,none⟩) (off + j)):=by
       funext j;simp only[Nat.add_assoc]
      rw[e2];exact this
    ·cases e
  ·cases e
 ·rename_i t x ix;split at e
  ·rename_i id off z k kk n hx hn;split at e
   ·rename_i el hts;split at e
    ·rename_i hc;obtain⟨hz,h0,hlt⟩:=hc;injection e with e;subst e
     obtain⟨_,rx⟩:=ok _ _ hx;obtain⟨_,rn⟩:=ok _ _ hn;simp only[RepD,Rep]at rn;simp only[RepD]at rx;have hu:=tslice_spec hts;obtain⟨b,hb,⟨rfl,_⟩ | ⟨cap,_,_,_,hcap,hv,_⟩⟩:=rx
     ·omega
     ·refine⟨.pointer (some ⟨b,off + n.toNat * z,none⟩),?_,fun O=>by simp only[RepD];exact⟨b,hb,rfl⟩⟩;simp only[execOp,Instr.indexAt,rn,hv,asIntOf,Sem.run_bind,Sem.run_pure,run_underlying hu,Result.andThen_ok,tsz_spec hz];rw[if_pos ⟨h0,by omega⟩];simp only[Sem.run_bind,Sem.run_pure,Result.andThen_ok,addr_add,tsz_spec hz]
    ·cases e
   ·cases e
  ·rename_i d' k n hna hx hn;split at e
   ·rename_i z xs el he hts;split at e
    ·rename_i hc;obtain⟨hz,h0⟩:=hc;obtain⟨r,h1,h2⟩:=Option.map_eq_some_iff.1 e;subst h2;obtain⟨_,rx⟩:=ok _ _ hx;obtain⟨_,rn⟩:=ok _ _ hn;simp only[RepD,Rep]at rn;have rs:=elems_rep he rx;simp only[Rep]at rs;have hu:=tslice_spec hts;have hlt:n.toNat < xs.length:=(List.getElem?_eq_some_iff.1 h1).1;rcases rs with ⟨hx0,_⟩ | ⟨g,off,cap,hv,hcap,hh,hzz,rr⟩
     ·subst hx0;simp at hlt
     ·have hrl:r.length=z:=hzz r (List.mem_of_getElem? h1);refine⟨.pointer (some ⟨g,off + n.toNat * z,none⟩),?_,fun O=> ?_⟩
      ·simp only[execOp,Instr.indexAt,rn,hv,asIntOf,Sem.run_bind,Sem.run_pure,run_underlying hu,Result.andThen_ok,tsz_spec hz];rw[if_pos ⟨h0,by omega⟩];simp only[Sem.run_bind,Sem.run_pure,Result.andThen_ok,addr_add,tsz_spec hz]
      ·simp only[RepD];refine⟨g,off + n.toNat * z,rfl,?_,?_⟩
       ·have:(n.toNat + 1)* z≤xs.length * z:=Nat.mul_le_mul_right _ (by omega);rw[Nat.add_mul,Nat.one_mul]at this;omega
       ·have:=rr.get hzz _ r h1;have e2:(fun j=>w.cell? ⟨g,off + n.toNat * z + j,none⟩)=(fun j=>(fun j=>w.cell? ⟨g,off + j,none⟩) (n.toNat * z + j)):=by
         funext j;simp only[Nat.add_assoc]
        rw[e2];exact this
    ·cases e
   ·cases e
  ·cases e
 ·rename_i t x ix;split at e
  ·rename_i s k n hx hn;split at e
   ·rename_i hc;obtain⟨ht,h0⟩:=hc;split at e
    ·rename_i b hb;injection e with e;subst e
     obtain⟨_,rx⟩:=ok _ _ hx;obtain⟨_,rn⟩:=ok _ _ hn;simp only[RepD,Rep]at rx rn;refine⟨.int .u8 b.toNat,?_,fun O=>by simp only[RepD,Rep]⟩;simp only[execOp,Instr.index,rn,rx,asIntOf,Sem.run_bind,Sem.run_pure,run_underlying (tkind0 ht),Result.andThen_ok,if_pos h0,hb]
    ·cases e
   ·cases e
  ·cases e
 ·rename_i t x lo hi;obtain⟨v,h1,h2⟩:=sliceD_ok ok e;exact⟨v,by simp only[execOp,Sem.run_bind,Option.map_none,h1,Result.andThen_ok,Sem.run_pure],h2⟩
 ·rename_i t x lo hi mx;obtain⟨v,h1,h2⟩:=slice3D_ok ok e;exact⟨v,by simp only[execOp,Sem.run_bind,Option.map_some,h1,Result.andThen_ok,Sem.run_pure],h2⟩
 ·rename_i src dst' x;split at e
  ·rename_i d' hx;obtain⟨_,rx⟩:=ok _ _ hx;unfold convD at e;split at e
   ·rename_i k n;split at e
    ·rename_i k' hk;split at e
     ·rename_i hs;injection e with e;subst e
      simp only[RepD,Rep]at rx;obtain⟨ds,h1,_⟩:=Option.map_eq_some_iff.1 hs;have h2:P.underlying dst'=some (.int k'):=by
       unfold tint at hk;split at hk
       ·rename_i hh;injection hk with hk;subst hk;exact hh
       ·cases hk
      refine⟨.int k' (k'.wrap n),?_,fun O=>by simp only[RepD,Rep]⟩;simp only[execOp,convert,rx,Sem.run_bind,run_underlying h1,run_underlying h2,Result.andThen_ok,Conv.intToInt,Sem.run_pure]
     ·cases e
    ·cases e
   ·rename_i s;split at e
    ·rename_i hs;injection e with e;subst e
     simp only[RepD,Rep]at rx;have h1:=tkind0 hs.2;have h2:=tkind0 hs.1;refine⟨.string s,?_,fun O=>by simp only[RepD,Rep]⟩;simp only[execOp,convert,rx,Sem.run_bind,run_underlying h1,run_underlying h2,Result.andThen_ok,Sem.run_pure]
    ·cases e
   ·cases e
  ·cases e
 ·rename_i x i;split at e
  ·rename_i ds hx;obtain⟨d',h1,h2⟩:=Option.map_eq_some_iff.1 e;subst h2;obtain⟨_,rx⟩:=ok _ _ hx;simp only[RepD]at rx;obtain⟨vs,hv,hr⟩:=rx;obtain⟨v,h3,h4⟩:=hr.get i d' h1;have h3':vs[i]? =some v:=by rw[←Array.getElem?_toList];exact h3
   exact⟨v,by simp[execOp,Instr.extract,hv,h3'],fun O=>RepD.fz d' _ _ _ h4⟩
  ·cases e
 ·rename_i f first cap
  split at e
  ·rename_i h0;obtain⟨ds,h1,h2⟩:=Option.map_eq_some_iff.1 e;subst h2;have h0':first= #[]:=Array.eq_empty_of_size_eq_zero h0
   subst h0';refine⟨.func (.func f) #[] (cap.map re),by simp[execOp,Instr.makeFunc],fun O=> ?_⟩;simp only[RepD];exact⟨_,rfl,by rw[Array.toList_map];exact mapD_ok ok h1 O 0⟩
  ·cases e
 ·rename_i c;obtain⟨v,h1,h2⟩:=callD_ok (ty:=ty) ok e;exact⟨v,by simpa only[execOp]using h1,h2⟩
 ·cases e
end Go.Proofs.Dm
namespace Go.Proofs.Dm
open Go Go.RowKit
mutual
def hasOwn:DV→Bool
 | .own _ _ _=>true
 | .mt _ _=>true
 | .agg cs=>hasOwns cs
 | .tup cs=>hasOwns cs
 | .fn _ cs=>hasOwns cs
 | _=>false
def hasOwns:List DV→Bool
 | []=>false
 | d::ds=>hasOwn d || hasOwns ds
end
mutual
theorem RepD.free {w h ρ}:∀(d:DV) (O O':Nat→List Nat→Prop) (v:Value),hasOwn d=false→RepD w h ρ d O v→RepD w h ρ d O' v
 | .own e z xs,O,O',v,k,r=>by simp[hasOwn]at k
 | .mt e z,O,O',v,k,r=>by simp[hasOwn]at k
 | .arr _ _ _ _,O,O',v,k,r=>by simpa only[RepD]using r
 | .cp _ _,O,O',v,k,r=>by simpa only[RepD]using r
 | .bn _ _ _,O,O',v,k,r=>by simpa only[RepD]using r
 | .nil,O,O',v,k,r=>by simpa only[RepD]using r
 | .agg cs,O,O',v,k,r=>by
  simp only[hasOwn]at k;simp only[RepD]at r⊢;obtain⟨vs,hv,hr⟩:=r;exact⟨vs,hv,RepDs.free cs O O' 0 _ k hr⟩
 | .tup cs,O,O',v,k,r=>by
  simp only[hasOwn]at k;simp only[RepD]at r⊢;obtain⟨vs,hv,hr⟩:=r;exact⟨vs,hv,RepDs.free cs O O' 0 _ k hr⟩
 | .fn f cap,O,O',v,k,r=>by
  simp only[hasOwn]at k;simp only[RepD]at r⊢;obtain⟨vs,hv,hr⟩:=r;exact⟨vs,hv,RepDs.free cap O O' 0 _ k hr⟩
 | .p x,O,O',v,k,r=>by simpa only[RepD]using r
 | .ref id off,O,O',v,k,r=>by simpa only[RepD]using r
 | .fr cs,O,O',v,k,r=>by simpa only[RepD]using r
 | .un,O,O',v,k,r=>by simp only[RepD]
 | .ud,O,O',v,k,r=>by simpa only[RepD]using r
theorem RepDs.free {w h ρ}:∀(ds:List DV) (O O':Nat→List Nat→Prop) (k:Nat) (vs:List Value),hasOwns ds=false→RepDs w h ρ ds O k vs→RepDs w h ρ ds O' k vs
 | [],_,_,_,_,_,r=>by simpa only[RepDs]using r
 | d::ds,O,O',k,vs,q,r=>by
  simp only[hasOwns,Bool.or_eq_false_iff]at q;simp only[RepDs]at r⊢;obtain⟨v,rest,hv,h1,h2⟩:=r;exact⟨v,rest,hv,RepD.free d _ _ v q.1 h1,RepDs.free ds _ _ _ rest q.2 h2⟩
end
theorem evOK {C w0 h0 ow0 r0 n s a w h ow ρ} (r:Rel C w0 h0 ow0 r0 n s a w h ow ρ):EvOK w h ρ (evalD s) a.eval:=fun x d e=>⟨_,evalD_rep r e⟩
def coerD (P:Program) (t:TypeId):DV→DV
 | .nil=>match tslice P t with
  | some e=>match tsz P e with
   | some z=>if 0 < z then .own e z []else .nil
   | none=> .nil
  | none=> .nil
 | d=>d
theorem coerD_wk (P:Program) (t:TypeId) (d:DV):Wk d (coerD P t d):=by
 unfold coerD;split
 ·split
  ·split
   ·split
    ·rename_i h;exact .nilown _ _ h
    ·exact .refl _
   ·exact .refl _
  ·exact .refl _
 ·exact .refl _
theorem coerD_any {w h ρ} (P:Program) (t:TypeId) {d:DV} {v:Value} (r:∀O,RepD w h ρ d O v):∀O,RepD w h ρ (coerD P t d) O v:=fun O=>RepD.wk (coerD_wk P t d) (r O)
theorem Rel.names {C w0 h0 ow0 r0 n s a w h ow ρ} (r:Rel C w0 h0 ow0 r0 n s a w h ow ρ) (ow':Own) (s':St) (a':Act)
  (hnone:∀g,ow g=none→ow' g=none) (hsome:∀g,ow' g≠none→ow g≠none) (hbox:∀g i,ow g=some (.box i)→ow' g=some (.box i))
  (hhp:s'.hp=s.hp) (hcell:∀g p,ow g=some (.cell p)→ow' g=some (.cell p))
  (hdef:a'.defers= []) (hsize:a'.tmps.size=n) (hdom:∀i,n≤i→s'.tm i= .un)
  (htm:∀i,RepD w h ρ (s'.tm i) (fun g p=>ow' g=some (.tmp (i::p))) (a'.tmps.getD i undef)):
  Rel C w0 h0 ow0 r0 n s' a' w h ow' ρ:=by
 refine⟨⟨r.glob.nb,fun b hb=>⟨(r.glob.eq b hb).1,hnone b (r.glob.eq b hb).2⟩⟩,⟨r.fr.st,r.fr.size,r.fr.os,r.fr.tape,r.fr.output,fun b hb ho=> ?_⟩,?_,hdef,hsize,htm,hdom,r.pre⟩
 ·obtain⟨p,q,t⟩:=r.fr.keep b hb ho;exact⟨p,q,hnone b t⟩
 ·rw[hhp];refine⟨r.hr.len,fun id box b h1 h2 hne=> ?_,fun g hg=>r.hr.lt g (hsome g hg),r.hr.hz⟩;obtain⟨p,q,cs,T,hh,hl,hr⟩:=r.hr.box id box b h1 h2 hne;exact⟨hbox b id p,q,cs,T,hh,hl,hr.rename fun g p ho=>hcell g _ ho⟩
def mvTmp (t d:Nat):Pos→Pos
 | .tmp (i::p)=>if i=t then .tmp (d::p)else .tmp (i::p)
 | x=>x
theorem Rel.moved {C w0 h0 ow0 r0 n s a w h ow ρ} (r:Rel C w0 h0 ow0 r0 n s a w h ow ρ) (t d:Nat) (hd:d < n) (dv:DV) (hk:Wk (s.tm t) dv):
  Rel C w0 h0 ow0 r0 n ((s.put (some t) .un).put (some d) dv) (a.put (some d) (a.tmps.getD t undef)) w h (fun g=>(ow g).map (mvTmp t d)) ρ:=by
 have hd':d < a.tmps.size:=by rw[r.size];exact hd
 refine r.names _ _ _ (fun g hg=>by simp[hg]) (fun g hg e=>hg (by simp[e])) (fun g i hg=>by simp[hg,mvTmp]) rfl (fun g p hg=>by simp[hg,mvTmp]) r.defers
  (by simpa [Act.put]using r.size) (fun i hi=> ?_) (fun i=> ?_)
 ·simp only[St.put];rw[if_neg (fun e=>by rw[e]at hi;exact absurd hi (Nat.not_le_of_gt hd))];split
  ·rfl
  ·exact r.dom i hi
 ·rw[getD_put a d _ i hd'];simp only[St.put]
  by_cases hid:i=d
  ·rw[if_pos hid,if_pos hid];exact RepD.wk hk ((r.tm t).rename fun g p ho=>by simp[ho,mvTmp,hid])
  ·rw[if_neg hid,if_neg hid]
   by_cases hit:i=t
   ·rw[if_pos hit];simp only[RepD]
   ·rw[if_neg hit];exact(r.tm i).rename fun g p ho=>by simp[ho,mvTmp,hit]
def moveD (P:Program) (tk:Bool) (o:Oper) (x:Operand) (s:St):Option St:=
 match x with
 | .tmp t=>if hasOwn (s.tm t)then(if tk then(match o.dst with
   | some d=>some ((s.put (some t) .un).put (some d) (s.tm t))
   | none=>none)else some (s.put o.dst (fz (s.tm t))))else some (s.put o.dst (coerD P o.type (s.tm t)))
 | x=>match evalD s x with
  | some d=>some (s.put o.dst (coerD P o.type d))
  | none=>none
def StepOK (C:Ctx) (w0:World) (h0:Mark) (ow0:Own) (r0:List Nat) (n:Nat) (o:Oper) (s s':St):Prop:=
 ∀a w h ow ρ,Rel C w0 h0 ow0 r0 n s a w h ow ρ→∀(K:Act→World→Prop) Q,Good C w0 h0 ow0 r0 n s' K→o.wp C.P a w K Q
theorem moveD_ok {C w0 h0 ow0 r0 n tk o x s s'} (hop:o.op= .move x∨o.op= .assign x) (hd:dstOk n o.dst=true) (e:moveD C.P tk o x s=some s'):StepOK C w0 h0 ow0 r0 n o s s':=by
 intro a w h ow ρ r K Q hK;have hrun:(execOp a.eval o).run C.P w= .ok (.value (a.eval x)) w:=by
  rcases hop with h | h <;> simp[execOp,h]
 unfold Oper.wp;rw[hrun];show K (a.put o.dst (a.eval x)) w;unfold moveD at e;split at e
 ·rename_i t;split at e
  ·split at e
   ·split at e
    ·rename_i d hdst;injection e with e;subst e
     rw[hdst]at hd⊢;exact hK _ _ _ _ _ (r.moved t d (by simpa [dstOk]using hd) _ (.refl _))
    ·cases e
   ·injection e with e;subst e
    exact hK _ _ _ _ _ (r.put o.dst hd fun O=>RepD.fz _ _ _ _ (r.tm t))
  ·rename_i ho;injection e with e;subst e
   exact hK _ _ _ _ _ (r.put o.dst hd (coerD_any C.P o.type fun O=>RepD.free _ _ _ _ (by simpa using ho) (r.tm t)))
 ·rename_i hx;split at e
  ·rename_i d hd';injection e with e;subst e
   refine hK _ _ _ _ _ (r.put o.dst hd (coerD_any C.P o.type fun O=> ?_));have:=evalD_rep r hd';cases x with
   | tmp t=>exact absurd rfl (hx t)
   | const v=>exact constD_rep hd'
   | func f=>simp only[evalD,Option.some.injEq]at hd';subst hd';simp only[RepD,RepDs];exact⟨#[],rfl,rfl⟩
   | global g=>simp[evalD]at hd'
  ·cases e
theorem pureStep_ok {C w0 h0 ow0 r0 n o s d} (hd:dstOk n o.dst=true) (e:pureD C.P (evalD s) o.op=some d):StepOK C w0 h0 ow0 r0 n o s (s.put o.dst d):=by
 intro a w h ow ρ r K Q hK;obtain⟨v,h1,h2⟩:=pureD_ok (P:=C.P) (evOK r) e;unfold Oper.wp;rw[h1];exact hK _ _ _ _ _ (r.put o.dst hd h2)
def cellsOf:DV→List DV
 | .agg cs=>cs
 | d=> [d]
mutual
def solid:DV→Bool
 | .un=>false
 | .ud=>false
 | .agg _=>false
 | .tup _=>false
 | _=>true
end
theorem solid_one {w h ρ d O v} (hs:solid d=true) (r:RepD w h ρ d O v):v.oneCell'=true:=by
 cases d with
 | p x=>cases x <;> simp only[RepD,Rep]at r <;> first
   |(subst r;rfl)
   |(rcases r with ⟨_,_,_,rfl,_⟩ | ⟨_,_,_,rfl,_⟩ <;> rfl)
 | nil=>simp only[RepD]at r;subst r;rfl
 | own e z xs=>
  simp only[RepD]at r;obtain⟨a,c,rfl,_⟩:=rep_slice r.freeze;rfl
 | ref i o=>simp only[RepD]at r;obtain⟨b,_,rfl⟩:=r;rfl
 | fr cs=>simp only[RepD]at r;obtain⟨g,off,rfl,_⟩:=r;rfl
 | fn f c=>simp only[RepD]at r;obtain⟨vs,rfl,_⟩:=r;rfl
 | un=>simp[solid]at hs
 | ud=>simp[solid]at hs
 | agg cs=>simp[solid]at hs
 | tup cs=>simp[solid]at hs
 | arr i o z n=>simp only[RepD]at r;obtain⟨b,_,⟨_,a,c,rfl,_⟩ | ⟨cap,_,_,_,_,rfl,_⟩⟩:=r <;> rfl
 | cp z xs=>simp only[RepD]at r;obtain⟨_,a,rfl⟩:=r;rfl
 | bn i T n=>simp only[RepD]at r;obtain⟨rfl,_⟩:=r;rfl
 | mt e z=>
  simp only[RepD]at r;obtain⟨a,c,rfl,_⟩:=rep_slice r.freeze;rfl
theorem RepDs.takeAll {w h ρ ds O k} {cs:Array Value} (r:RepDs w h ρ ds O k cs.toList):RepDs w h ρ ds O k (cs.toList.take ds.length):=by
 have:=r.length;rw[List.take_of_length_le (by omega)];exact r
theorem Rel.newBox {C w0 h0 ow0 r0 n s a w h ow ρ} (r:Rel C w0 h0 ow0 r0 n s a w h ow ρ) (d:Nat) (hd:d < n) (box:List DV) (cs:Array Value) (T:TypeId)
  (hb:∀O k,RepDs w h ρ box O k (cs.toList.take box.length)):
  Rel C w0 h0 ow0 r0 n ({s.put (some d) (.ref s.hp.length 0)with hp:=s.hp ++ [box]}) (a.put (some d) (.pointer (some ⟨w.heap.size,0,none⟩))) (w.alloc (.cells cs T)) h
   (fun g=>if g=w.heap.size then some (.box ρ.length)else ow g) (ρ ++ [w.heap.size]):=by
 have hd':d < a.tmps.size:=by rw[r.size];exact hd
 have hst:Stable w h (w.alloc (.cells cs T)) h:=⟨fun _=>Nat.le_refl _,fun b i hi=>by
  have hlt:b < w.heap.size:=by
   rcases Nat.lt_or_ge b w.heap.size with q | q
   ·exact q
   ·rw[r.hr.hz b q]at hi;omega
  simp only[World.cell?,heap_alloc_old w _ hlt],fun b cs T f q=>⟨cs,f,by rw[heap_alloc_old w _ (Array.getElem?_eq_some_iff.1 q).1];exact q,rfl⟩⟩
 have hfresh:ow w.heap.size=none:=by
  rcases hq:ow w.heap.size with _ | q
  ·rfl
  ·exact absurd (r.hr.lt _ (by rw[hq];simp)) (Nat.lt_irrefl _)
 have hO : ∀ (P : Nat → List Nat → Prop) (Q : Nat → List Nat → Prop), (∀ g p, P g p → ow g ≠ none) → (∀ g p, P g p → g ≠ w.heap.size → Q g p) →
     ∀g p,P g p→(w.alloc (.cells cs T)).heap[g]? =w.heap[g]? ∧h g=h g∧Q g p:=by
   intro P Q h1 h2 g p hp
   have hlt:=r.hr.lt g (h1 g p hp)
   exact⟨heap_alloc_old w _ hlt,rfl,h2 g p hp (Nat.ne_of_lt hlt)⟩
 have hρ:∀(i b:Nat),ρ[i]? =some b→(ρ ++ [w.heap.size])[i]? =some b:=fun i b hi=>by
  rw[List.getElem?_append_left (List.getElem?_eq_some_iff.1 hi).1];exact hi
 have hfr:Fr w h ow (w.alloc (.cells cs T)) h (fun g=>if g=w.heap.size then some (.box ρ.length)else ow g):=
  ⟨hst,by simp,rfl,rfl,rfl,fun b hb ho=>⟨heap_alloc_old w _ hb,rfl,by rw[if_neg (Nat.ne_of_lt hb)];exact ho⟩⟩
 refine⟨r.glob.fr hfr,r.fr.trans hfr,⟨?_,fun id bx b h1 h2 hne=> ?_,fun g hg=> ?_,fun b hb=>r.hr.hz b (by simp at hb;omega)⟩,r.defers,by simpa [Act.put]using r.size,fun i=> ?_,fun i hi=> ?_,by obtain⟨ex,hex⟩:=r.pre;exact⟨ex ++ [w.heap.size],by rw[hex,List.append_assoc]⟩⟩
 ·simp[r.hr.len,St.put]
 ·simp only[St.put]at h1
  by_cases hid:id < s.hp.length
  ·rw[List.getElem?_append_left hid]at h1;rw[List.getElem?_append_left (by rw[←r.hr.len];exact hid)]at h2;obtain⟨p,q,cs',T',hh,hl,hrr⟩:=r.hr.box id bx b h1 h2 hne;have hblt:=r.hr.lt b (by rw[p];simp);refine⟨by rw[if_neg (Nat.ne_of_lt hblt)];exact p,q,cs',T',by rw[heap_alloc_old w _ hblt];exact hh,hl,?_⟩;exact RepDs.step hst hρ bx _ _ 0 _ (hO _ _ (fun g p ho=>by rw[ho];simp) (fun g p ho hne=>by rw[if_neg hne];exact ho)) hrr
  ·have hid':id=s.hp.length:=by
    have:=(List.getElem?_eq_some_iff.1 h1).1;simp at this;omega
   subst hid';simp only[List.getElem?_concat_length,Option.some.injEq]at h1;subst h1;rw[r.hr.len]at h2;simp only[List.getElem?_concat_length,Option.some.injEq]at h2;subst h2;refine⟨by simp[r.hr.len],r.hr.hz _ (Nat.le_refl _),cs,T,heap_alloc_new w _,by have:=(hb (fun _ _=>False) 0).length;simp at this;omega,?_⟩;exact RepDs.step hst hρ box (fun _ _=>False) _ 0 _ (fun g p hf=>hf.elim) (hb _ 0)
 ·by_cases hgs:g=w.heap.size
  ·subst hgs;simp
  ·rw[if_neg hgs]at hg;have:=r.hr.lt g hg;simp;omega
 ·rw[getD_put a d _ i hd'];simp only[St.put]
  by_cases hid:i=d
  ·rw[if_pos hid,if_pos hid];simp only[RepD];exact⟨w.heap.size,by rw[r.hr.len];simp,rfl⟩
  ·rw[if_neg hid,if_neg hid];exact RepD.step hst hρ _ _ _ _ (hO _ _ (fun g p ho=>by rw[ho];simp) (fun g p ho hne=>by rw[if_neg hne];exact ho)) (r.tm i)
 ·simp only[St.put];rw[if_neg (fun e=>by rw[e]at hi;exact absurd hi (Nat.not_le_of_gt hd))];exact r.dom i hi
end Go.Proofs.Dm
namespace Go.Proofs.Dm
open Go Go.RowKit
def tcellsF (P:Program):Nat→TypeId→List TypeId
 | 0,t=> [t]
 | k + 1,t=>match P.underlying t with
  | some (.struct fs)=>fs.toList.flatMap fun f=>tcellsF P k f.type
  | _=> [t]
def tcells (P:Program) (t:TypeId):List TypeId:=tcellsF P 6 t
def tzero (P:Program) (t:TypeId):Option Value:=(P.info? t).bind (·.zero)
theorem tzero_spec {P t z} (e:tzero P t=some z) (w:World):(zeroValue t).run P w= .ok z w:=by
 obtain⟨i,h1,h2⟩:=Option.bind_eq_some_iff.1 e;simp[zeroValue,typeInfo,program,Sem.run,h1,h2]
def coerCells (P:Program):List TypeId→List DV→List DV
 | t::ts,d::ds=>coerD P t d::coerCells P ts ds
 | _,ds=>ds
theorem coerCells_wk (P:Program):∀(ts:List TypeId) (ds:List DV),Wks ds (coerCells P ts ds)
 | [],ds=>by
  have:∀ds:List DV,Wks ds ds:=fun ds=>by
   induction ds with
   | nil=>exact .nil
   | cons d ds ih=>exact .cons (.refl d) ih
  simpa only[coerCells]using this ds
 | t::ts,[]=>by simp only[coerCells];exact .nil
 | t::ts,d::ds=>by simp only[coerCells];exact .cons (coerD_wk P t d) (coerCells_wk P ts ds)
theorem coerCells_len (P:Program):∀(ts:List TypeId) (ds:List DV),(coerCells P ts ds).length=ds.length
 | [],ds=>by simp only[coerCells]
 | t::ts,[]=>by simp only[coerCells]
 | t::ts,d::ds=>by simp only[coerCells,List.length_cons,coerCells_len P ts ds]
def flat:DV→Option (List DV)
 | .agg cs=>some cs
 | d=>if solid d then some [d]else none
def isAggD:DV→Bool
 | .agg _=>true
 | _=>false
theorem flat_rep {w h ρ d O v cs} (e:flat d=some cs) (r:RepD w h ρ d O v):
  ∃O',RepDs w h ρ cs O' 0 v.cells.toList∧∀g k p,O' g (k::p)→O g (if isAggD d then k::p else p):=by
 cases d with
 | agg ds=>
  simp only[flat,Option.some.injEq]at e;subst e;simp only[RepD]at r;obtain⟨vs,rfl,hr⟩:=r;exact⟨O,by simpa only[Value.cells]using hr,fun g k p h=>by simpa [isAggD]using h⟩
 | _=>
  simp only[flat]at e;split at e
  ·rename_i hs;injection e with e;subst e
   have h1:=solid_one hs r;have h2:v.cells= #[v]:=by cases v <;> first | rfl |(simp[Value.oneCell']at h1)
   refine⟨fun g q=>O g (q.drop 1),?_,fun g k p h=>by simpa [isAggD]using h⟩;rw[h2];simp only[RepDs];exact⟨v,[],rfl,by simpa using r,rfl⟩
  ·cases e
def zeroCells (P:Program) (t:TypeId):Option (List DV):=
 match tzero P t with
 | some z=>match constD z with
  | some d=>(flat d).map (coerCells P (tcells P t))
  | none=>none
 | none=>none
def tptr (P:Program) (t:TypeId):Bool:=P.types.toList.any fun i=>match i.desc with
 | .pointer e=>e==t
 | _=>false
def coerT (P:Program) (t:TypeId) (ds:List DV):List DV:=if tptr P t then ds else coerCells P (tcells P t) ds
theorem coerT_wk (P:Program) (t:TypeId) (ds:List DV):Wks ds (coerT P t ds):=by
 unfold coerT;split
 ·induction ds with
  | nil=>exact .nil
  | cons d ds ih=>exact .cons (.refl d) ih
 ·exact coerCells_wk _ _ _
def zeroCellsT (P:Program) (t:TypeId):Option (List DV):=
 match tzero P t with
 | some z=>match constD z with
  | some d=>(flat d).map (coerT P t)
  | none=>none
 | none=>none
def allocD (P:Program) (o:Oper) (t:TypeId) (s:St):Option St:=
 match o.dst,zeroCells P t with
 | some d,some box=>some {s.put (some d) (.ref s.hp.length 0)with hp:=s.hp ++ [box]}
 | _,_=>none
theorem allocD_ok {C w0 h0 ow0 r0 n o t s s'} (hop:o.op= .alloc t) (hd:dstOk n o.dst=true) (e:allocD C.P o t s=some s'):StepOK C w0 h0 ow0 r0 n o s s':=by
 intro a w h ow ρ r K Q hK;unfold allocD at e;split at e
 ·rename_i d box hdst hz;injection e with e;subst e
  unfold zeroCells at hz;split at hz
  ·rename_i z hz1;split at hz
   ·rename_i dz hz2;obtain⟨cs,hf,hc⟩:=Option.map_eq_some_iff.1 hz;subst hc;have hrep:∀O,RepD w h ρ dz O z:=fun O=>constD_rep hz2
    have hrun:(execOp a.eval o).run C.P w= .ok (.value (.pointer (some ⟨w.heap.size,0,none⟩))) (w.alloc (.cells z.cells t)):=by
     simp only[execOp,hop,Instr.alloc,Sem.run_bind,tzero_spec hz1,Result.andThen_ok,newVar,newRow,newObj,Sem.run,Sem.run_pure];rfl
    unfold Oper.wp;rw[hrun];show K (a.put o.dst _) _;rw[hdst];rw[hdst]at hd;refine hK _ _ h (fun g=>if g=w.heap.size then some (.box ρ.length)else ow g) (ρ ++ [w.heap.size]) ?_;refine r.newBox d (by simpa [dstOk]using hd) (coerCells C.P (tcells C.P t) cs) z.cells t fun O k=>RepDs.takeAll (RepDs.wk (coerCells_wk _ _ _) ?_)
    obtain⟨O',hr,_⟩:=flat_rep hf (hrep (fun _ _=>False));rename_i hO';exact RepDs.step (Stable.refl w h) (fun _ _ h=>h) cs (fun _ _=>False) O k _ (fun _ _ hf=>hf.elim) (by
     obtain⟨O2,hr2,hO2⟩:=flat_rep hf (hrep (fun _ _=>False));refine RepDs.of_get hr2.length fun i d v hd hv=> ?_
     obtain⟨v',h1,h2⟩:=hr2.get i d hd;rw[h1]at hv;injection hv with hv;subst hv
     exact h2.rename fun g p hg=>by simpa using hO2 g (0 + i) p hg)
   ·cases hz
  ·cases hz
 ·cases e
def tbuild (P:Program) (t:TypeId):Option Nat:=match P.underlying t with
 | some (.struct fs)=>(fs.toList.find? fun f=>((P.info? f.type).map (·.str))==some "strings.Builder").map (·.offset)
 | _=>none
def patchB (P:Program) (t:TypeId) (id:Nat) (box:List DV):List DV:=match tbuild P t with
 | some off=>(match box[off]? with
  | some (.p .nilp)=>box.set off (.bn id t box.length)
  | _=>box)
 | none=>box
theorem Rel.patch {C w0 h0 ow0 r0 n s a w h ow ρ} (r:Rel C w0 h0 ow0 r0 n s a w h ow ρ) {id b off T:Nat} {box:List DV} {cs:Array Value} {f:Nat×Nat} (hb:s.hp[id]? =some box) (hρ:ρ[id]? =some b)
  (hh:w.heap[b]? =some (.cells cs T f)) (hc:box[off]? =some (.p .nilp)):Rel C w0 h0 ow0 r0 n {s with hp:=s.hp.set id (box.set off (.bn id T cs.size))} a w h ow ρ:=by
 refine⟨r.glob,r.fr,⟨by simpa using r.hr.len,fun i bx b' h1 h2 hne=> ?_,r.hr.lt,r.hr.hz⟩,r.defers,r.size,r.tm,r.dom,r.pre⟩
 by_cases hi:i=id
 ·subst hi;have hlt:i < s.hp.length:=(List.getElem?_eq_some_iff.1 hb).1;have h1:(s.hp.set i (box.set off (.bn i T cs.size)))[i]? =some bx:=h1;rw[List.getElem?_set_self hlt]at h1;injection h1 with h1;subst h1
  have hbe:box≠ []:=by rintro rfl;simp at hc
  obtain⟨p1,p2,cs',T',q1,q2,q3⟩:=r.hr.box i box b' hb h2 hbe;refine⟨p1,p2,cs',T',q1,by simpa using q2,?_⟩;have hl:=q3.length;refine RepDs.of_get (by simpa using hl) fun j d v hd hv=> ?_
  rw[List.length_set]at hv
  by_cases hj:j=off
  ·subst hj;have hjl:j < box.length:=(List.getElem?_eq_some_iff.1 hc).1;rw[List.getElem?_set_self hjl]at hd;injection hd with hd;subst hd
   obtain⟨v',k1,k2⟩:=q3.get j _ hc;rw[k1]at hv;injection hv with hv;subst hv
   simp only[RepD,Rep]at k2⊢;exact⟨k2,b,cs,f,hρ,hh,rfl⟩
  ·rw[List.getElem?_set_ne (fun e=>hj e.symm)]at hd;obtain⟨v',k1,k2⟩:=q3.get j d hd;rw[k1]at hv;injection hv with hv;subst hv
   exact k2
 ·have h1:(s.hp.set id (box.set off (.bn id T cs.size)))[i]? =some bx:=h1;rw[List.getElem?_set_ne (fun e=>hi e.symm)]at h1;exact r.hr.box i bx b' h1 h2 hne
def boxD (P:Program) (o:Oper) (t:TypeId) (x:Operand) (s:St):Option St:=
 match o.dst,evalD s x with
 | some d,some v=>match flat v with
  | some cs=>some {s.put (some d) (.ref s.hp.length 0)with hp:=s.hp ++ [patchB P t s.hp.length (coerCells P (tcells P t) (fzs cs))]}
  | none=>none
 | _,_=>none
theorem boxD_ok {C w0 h0 ow0 r0 n o t x s s'} (hop:o.op= .box t x) (hd:dstOk n o.dst=true) (e:boxD C.P o t x s=some s'):StepOK C w0 h0 ow0 r0 n o s s':=by
 intro a w h ow ρ r K Q hK;unfold boxD at e;split at e
 ·rename_i d v hdst hv;split at e
  ·rename_i cs hf;injection e with e;subst e
   have hrun:(execOp a.eval o).run C.P w= .ok (.value (.pointer (some ⟨w.heap.size,0,none⟩))) (w.alloc (.cells (a.eval x).cells t)):=by
    simp only[execOp,hop,Instr.box,Sem.run_bind,Result.andThen_ok,newVar,newRow,newObj,Sem.run,Sem.run_pure];rfl
   unfold Oper.wp;rw[hrun];show K (a.put o.dst _) _;rw[hdst];rw[hdst]at hd;refine hK _ _ h (fun g=>if g=w.heap.size then some (.box ρ.length)else ow g) (ρ ++ [w.heap.size]) ?_;obtain⟨O',hr,_⟩:=flat_rep hf (evalD_rep r hv);have hrep:∀O k,RepDs w h ρ (coerCells C.P (tcells C.P t) (fzs cs)) O k (a.eval x).cells.toList:=fun O k=>RepDs.wk (coerCells_wk _ _ _) (hr.fz_any O k)
   have hsz:=(hrep (fun _ _=>False) 0).length;have rn:=r.newBox d (by simpa [dstOk]using hd) _ (a.eval x).cells t fun O k=>RepDs.takeAll (hrep O k)
   unfold patchB;split
   ·rename_i off ho;split
    ·rename_i hc;have hp:=rn.patch (id:=s.hp.length) (b:=w.heap.size) (T:=t) (by simp) (by rw[r.hr.len];simp) (heap_alloc_new w _) hc;have e1:((s.hp ++ [coerCells C.P (tcells C.P t) (fzs cs)]).set s.hp.length ((coerCells C.P (tcells C.P t) (fzs cs)).set off (.bn s.hp.length t (a.eval x).cells.size)))=s.hp ++ [(coerCells C.P (tcells C.P t) (fzs cs)).set off (.bn s.hp.length t (coerCells C.P (tcells C.P t) (fzs cs)).length)]:=by
      rw[List.set_append_right _ _ (Nat.le_refl _),Nat.sub_self];have e2:(a.eval x).cells.size=(coerCells C.P (tcells C.P t) (fzs cs)).length:=by simpa using hsz
      rw[e2];rfl
     simp only[e1]at hp;exact hp
    ·exact rn
   ·exact rn
  ·cases e
 ·cases e
def deown:DV→DV:=fun d=>if hasOwn d then .un else d
def asVal (g:Bool) (cs:List DV):Option DV:=
 if g then some (.agg cs)else match cs with
  | [c]=>some c
  | _=>none
def loadD (P:Program) (tk:Bool) (o:Oper) (t:TypeId) (x:Operand) (s:St):Option St:=
 match tsz P t,tagg P t with
 | some z,some g=>match evalD s x with
  | some (.ref id off)=>match s.hp[id]? with
   | some box=>if off + z≤box.length∧box≠ []then
     (if tk && hasOwns ((box.drop off).take z) then
      (match o.dst, asVal g ((box.drop off).take z) with
       | some d,some v=>some {s.put (some d) v with hp:=s.hp.set id (box.take off ++((box.drop off).take z).map deown ++ box.drop (off + z))}
       | _,_=>none)
      else(asVal g (fzs ((box.drop off).take z))).map (s.put o.dst))else none
   | none=>none
  | some (.fr cs)=>if z≤cs.length then(asVal g ((cs.take z).map .p)).map (s.put o.dst)else none
  | _=>none
 | _,_=>none
theorem load_run {P:Program} {t z g} (hz:tsz P t=some z) (hg:tagg P t=some g) (b off:Nat) (w:World) (vs:List Value) (hl:vs.length=z)
  (hc:∀j v,vs[j]? =some v→w.cell? ⟨b,off + j,none⟩=some v) (v:Value) (hv:(g=true∧v= .agg vs.toArray)∨(g=false∧vs= [v])):
  (Instr.loadAt t (.pointer (some ⟨b,off,none⟩))).run P w= .ok v w:=by
 rcases hv with ⟨rfl,rfl⟩ | ⟨rfl,rfl⟩
 ·have:=run_loadCells_list (P:=P) w ⟨b,off,none⟩ vs (fun j v hj=>by rw[addr_add];exact hc j v hj);rw[hl]at this;simp only[Instr.loadAt,Instr.sureAddr,loadVar,Sem.run_bind,Sem.run_pure,Result.andThen_ok,tagg_spec hg,if_true,tsz_spec hz,this]
 ·have:=hc 0 v (by simp);simp only[Nat.add_zero]at this;simp only[Instr.loadAt,Instr.sureAddr,loadVar,Sem.run_bind,Sem.run_pure,Result.andThen_ok,tagg_spec hg,Bool.false_eq_true,if_false,load,Sem.run,this]
theorem asVal_rep {w h ρ g cs O vs d} (e:asVal g cs=some d) (r:RepDs w h ρ cs O 0 vs) (O':Nat→List Nat→Prop)
  (hO:∀q k p,O q (k::p)→O' q (if g then k::p else p)):∃v,((g=true∧v= .agg vs.toArray)∨(g=false∧vs= [v]))∧RepD w h ρ d O' v:=by
 unfold asVal at e;split at e
 ·rename_i hg;subst hg;injection e with e;subst e
  refine⟨_,.inl ⟨rfl,rfl⟩,?_⟩;simp only[RepD];refine⟨_,rfl,?_⟩;refine RepDs.of_get r.length fun i d v hd hv=> ?_
  obtain⟨v',h1,h2⟩:=r.get i d hd;have hv':vs[i]? =some v:=hv;rw[h1]at hv';injection hv' with hv';subst hv'
  exact h2.rename fun q p ho=>by simpa using hO q _ p ho
 ·rename_i hg;split at e
  ·rename_i c;injection e with e;subst e
   simp only[RepDs]at r;obtain⟨v,rest,rfl,h1,rfl⟩:=r;exact⟨v,.inr ⟨by simpa using hg,rfl⟩,h1.rename fun q p ho=>by simpa [hg]using hO q _ p ho⟩
  ·cases e
def mvLoad (id off z d:Nat) (g:Bool):Pos→Pos
 | .cell (i::k::p)=>if i=id∧off≤k∧k < off + z then .tmp (d::(if g then(k - off)::p else p))else .cell (i::k::p)
 | x=>x
theorem RepDs.append {w h ρ}:∀{ds es:List DV} {O k vs us},RepDs w h ρ ds O k vs→RepDs w h ρ es O (k + ds.length) us→RepDs w h ρ (ds ++ es) O k (vs ++ us)
 | [],es,O,k,vs,us,r,q=>by simp only[RepDs]at r;subst r;simpa using q
 | d::ds,es,O,k,vs,us,r,q=>by
  simp only[RepDs,List.cons_append]at r⊢;obtain⟨v,rest,rfl,h1,h2⟩:=r;refine⟨v,rest ++ us,rfl,h1,RepDs.append h2 ?_⟩;have e:k +(d::ds).length=k + 1 + ds.length:=by simp;omega
  rw[e]at q;exact q
theorem repDs_part {w h ρ ds O vs} (r:RepDs w h ρ ds O 0 vs) (i j:Nat):RepDs w h ρ ((ds.drop i).take j) O i ((vs.drop i).take j):=by
 refine RepDs.of_get (by simp[r.length]) fun k d v hd hv=> ?_
 rw[List.getElem?_take]at hd hv;split at hd
 ·rename_i hk;rw[if_pos hk]at hv;rw[List.getElem?_drop]at hd hv;obtain⟨v',h1,h2⟩:=r.get _ d hd;rw[h1]at hv;injection hv with hv;subst hv
  exact h2.rename fun g p ho=>by simpa using ho
 ·cases hd
theorem Rel.names' {C w0 h0 ow0 r0 n s a w h ow ρ} (r:Rel C w0 h0 ow0 r0 n s a w h ow ρ) (ow':Own) (s':St) (a':Act)
  (hnone:∀g,ow g=none→ow' g=none) (hHR:HR w h ρ ow' s'.hp)
  (hdef:a'.defers= []) (hsize:a'.tmps.size=n) (hdom:∀i,n≤i→s'.tm i= .un)
  (htm:∀i,RepD w h ρ (s'.tm i) (fun g p=>ow' g=some (.tmp (i::p))) (a'.tmps.getD i undef)):
  Rel C w0 h0 ow0 r0 n s' a' w h ow' ρ:=by
 refine⟨⟨r.glob.nb,fun b hb=>⟨(r.glob.eq b hb).1,hnone b (r.glob.eq b hb).2⟩⟩,⟨r.fr.st,r.fr.size,r.fr.os,r.fr.tape,r.fr.output,fun b hb ho=> ?_⟩,hHR,hdef,hsize,htm,hdom,r.pre⟩;obtain⟨p,q,t⟩:=r.fr.keep b hb ho;exact⟨p,q,hnone b t⟩
theorem splice_get {α:Type} (f:α→α) (l:List α) (off z:Nat) (hl:off + z≤l.length) (i:Nat):
  (l.take off ++((l.drop off).take z).map f ++ l.drop (off + z))[i]? =if off≤i∧i < off + z then(l[i]?).map f else l[i]? :=by
 by_cases h1:i < off
 ·rw[if_neg (by omega),List.append_assoc,List.getElem?_append_left (by simp;omega),List.getElem?_take,if_pos h1]
 ·by_cases h2:i < off + z
  ·rw[if_pos ⟨by omega,h2⟩,List.getElem?_append_left (by simp;omega),List.getElem?_append_right (by simp;omega),List.getElem?_map,List.getElem?_take,List.getElem?_drop];have e1:(l.take off).length=off:=by simp;omega
   rw[e1,if_pos (by omega)]
   congr 2;omega
  ·rw[if_neg (by omega),List.getElem?_append_right (by simp;omega),List.getElem?_drop]
   congr 1
   simp;omega
theorem loadD_ok {C w0 h0 ow0 r0 n tk o t x s s'} (hop:o.op= .load t x) (hd:dstOk n o.dst=true) (e:loadD C.P tk o t x s=some s'):StepOK C w0 h0 ow0 r0 n o s s':=by
 intro a w h ow ρ r K Q hK;unfold loadD at e;split at e
 ·rename_i z g hz hg;split at e
  ·rename_i id off hx;split at e
   ·rename_i box hb;split at e
    ·rename_i hoff;have hx':=evalD_rep r hx;simp only[RepD]at hx';obtain⟨b,hρ,hv⟩:=hx';obtain⟨hoff,hne⟩:=hoff;obtain⟨p1,p2,cs,T,hh,hl0,hrr⟩:=r.hr.box id box b hb hρ hne;have hlen:=hrr.length;have hdt:((cs.toList.take box.length).drop off).take z=(cs.toList.drop off).take z:=by
      rw[List.drop_take,List.take_take];congr 1;omega
     have hcell:∀j u,((cs.toList.drop off).take z)[j]? =some u→w.cell? ⟨b,off + j,none⟩=some u:=by
      intro j u hj;rw[List.getElem?_take]at hj;split at hj
      ·rw[List.getElem?_drop,Array.getElem?_toList]at hj;simp[World.cell?,hh,hj]
      ·cases hj
     have hl:((cs.toList.drop off).take z).length=z:=by simp at hlen⊢;omega
     have hsub:=repDs_part hrr off z;rw[hdt]at hsub;have hrun:∀v,((g=true∧v= .agg ((cs.toList.drop off).take z).toArray)∨(g=false∧(cs.toList.drop off).take z= [v]))→(execOp a.eval o).run C.P w= .ok (.value v) w:=by
      intro v hvv;simp only[execOp,hop,hv,Sem.run_bind,load_run hz hg b off w _ hl hcell v hvv,Result.andThen_ok,Sem.run_pure]
     split at e
     ·split at e
      ·rename_i htk d v hdst hav;injection e with e;subst e
       have hO2:RepDs w h ρ ((box.drop off).take z) (fun q p=>match p with | k::p'=>k < z∧ow q=some (.cell (id::(off + k)::p'))| []=>False) 0 ((cs.toList.drop off).take z):=by
        refine RepDs.of_get hsub.length fun i d v hd hv=> ?_
        obtain⟨v',h1,h2⟩:=hsub.get i d hd;rw[h1]at hv;injection hv with hv;subst hv
        have hi:i < z:=by
         have:=(List.getElem?_eq_some_iff.1 h1).1;rw[hl]at this;exact this
        exact h2.rename fun g p ho=>by simpa using⟨hi,ho⟩
       obtain⟨u,hu1,hu2⟩:=asVal_rep hav hO2 (fun q p=>(ow q).map (mvLoad id off z d g)=some (.tmp (d::p)))
        (fun q k p ho=>by
         obtain⟨hk,ho⟩:=ho;simp only[ho,Option.map_some,mvLoad];rw[if_pos ⟨trivial,by omega,by omega⟩];simp)
       unfold Oper.wp;rw[hrun u hu1];show K (a.put o.dst u) w;rw[hdst]at hd⊢;simp only[dstOk,decide_eq_true_eq]at hd;have hd':d < a.tmps.size:=by rw[r.size];exact hd
       refine hK _ _ _ (fun g'=>(ow g').map (mvLoad id off z d g)) ρ (r.names' _ _ _ (fun g hg=>by simp[hg]) ?_ r.defers (by simpa [Act.put]using r.size) (fun i hi=> ?_) (fun i=> ?_))
       ·refine⟨by simp[r.hr.len],fun i bx b' h1 h2 hne'=> ?_,fun g' hg'=>r.hr.lt g' (fun e=>hg' (by simp[e])),r.hr.hz⟩;simp only[]at h1
        by_cases hi:i=id
        ·subst hi;rw[hρ]at h2;injection h2 with h2;subst h2
         have hlt:i < s.hp.length:=(List.getElem?_eq_some_iff.1 hb).1;rw[List.getElem?_set_self hlt]at h1;injection h1 with h1;subst h1
         have hbl:(box.take off ++((box.drop off).take z).map deown ++ box.drop (off + z)).length=box.length:=by simp;omega
         refine⟨by simp[p1,mvLoad],p2,cs,T,hh,by rw[hbl];exact hl0,RepDs.of_get (by rw[hbl];exact hlen) fun k d1 v hd1 hv1=> ?_⟩;rw[hbl]at hv1;rw[splice_get deown box off z hoff k]at hd1
         ·split at hd1
          ·obtain⟨d0,hd0,hd00⟩:=Option.map_eq_some_iff.1 hd1;subst hd00;obtain⟨v',q1,q2⟩:=hrr.get k d0 hd0;rw[q1]at hv1;injection hv1 with hv1;subst hv1
           unfold deown;split
           ·simp only[RepD]
           ·rename_i hno;exact RepD.free _ _ _ _ (by simpa using hno) q2
          ·rename_i hk;obtain⟨v',q1,q2⟩:=hrr.get k d1 hd1;rw[q1]at hv1;injection hv1 with hv1;subst hv1
           refine q2.rename fun g' p ho=> ?_
           simp only[Nat.zero_add]at ho⊢;simp only[ho,Option.map_some,mvLoad];rw[if_neg (fun q=>hk ⟨q.2.1,q.2.2⟩)]
        ·rw[List.getElem?_set_ne (fun e=>hi e.symm)]at h1;obtain⟨p1',p2',cs',T',hh',hl',hrr'⟩:=r.hr.box i bx b' h1 h2 hne';refine⟨by simp[p1',mvLoad],p2',cs',T',hh',hl',RepDs.of_get hrr'.length fun k d1 v hd1 hv1=> ?_⟩;obtain⟨v',q1,q2⟩:=hrr'.get k d1 hd1;rw[q1]at hv1;injection hv1 with hv1;subst hv1
         refine q2.rename fun g' p ho=> ?_
         simp only[ho,Option.map_some,mvLoad];rw[if_neg (fun q=>hi q.1)]
       ·simp only[St.put];rw[if_neg (fun e=>by rw[e]at hi;exact absurd hi (Nat.not_le_of_gt hd))];exact r.dom i hi
       ·rw[getD_put a d _ i hd'];simp only[St.put]
        by_cases hid:i=d
        ·rw[if_pos hid,if_pos hid,hid];exact hu2
        ·rw[if_neg hid,if_neg hid];exact(r.tm i).rename fun g p ho=>by simp[ho,mvLoad]
      ·cases e
     ·obtain⟨d,h1,h2⟩:=Option.map_eq_some_iff.1 e;subst h2;have hany:∀O,∃v,((g=true∧v= .agg ((cs.toList.drop off).take z).toArray)∨(g=false∧(cs.toList.drop off).take z= [v]))∧RepD w h ρ d O v:=fun O=>
       asVal_rep h1 (hsub.fz_any (fun _ _=>False) 0) O (fun _ _ _ hf=>hf.elim)
      obtain⟨v,hvv,_⟩:=hany (fun _ _=>False);unfold Oper.wp;rw[hrun v hvv];refine hK _ _ _ _ _ (r.put o.dst hd fun O=> ?_);obtain⟨v',hvv',hr⟩:=hany O;have:v'=v:=by
       rcases hvv with ⟨q1,q2⟩ | ⟨q1,q2⟩ <;> rcases hvv' with ⟨q3,q4⟩ | ⟨q3,q4⟩ <;> simp_all
      rw[←this];exact hr
    ·cases e
   ·cases e
  ·rename_i cs hx;split at e
   ·rename_i hzl;obtain⟨d,h1,h2⟩:=Option.map_eq_some_iff.1 e;subst h2;have hx':=evalD_rep r hx;simp only[RepD]at hx';obtain⟨gb,off,hv,hh,hrow⟩:=hx';have hget:∀j,j < z→∃u,w.cell? ⟨gb,off + j,none⟩=some u∧∀c,cs[j]? =some c→Rep w h c u:=by
     intro j hj;obtain⟨u,q1,q2⟩:=hrow.get j cs[j] (List.getElem?_eq_getElem (by omega));exact⟨u,q1,fun c hc=>by rw[List.getElem?_eq_getElem (by omega)]at hc;injection hc with hc;subst hc;exact q2⟩
    have hex:∃vs:List Value,vs.length=z∧∀j u,vs[j]? =some u→w.cell? ⟨gb,off + j,none⟩=some u∧∀c,cs[j]? =some c→Rep w h c u:=by
     refine⟨(List.range z).map fun j=>(w.cell? ⟨gb,off + j,none⟩).getD undef,by simp,fun j u hj=> ?_⟩;rw[List.getElem?_map]at hj;obtain⟨i,hi1,hi2⟩:=Option.map_eq_some_iff.1 hj;have hjz:j < z:=by
      have:=(List.getElem?_eq_some_iff.1 hi1).1;simpa using this
     rw[List.getElem?_range hjz]at hi1;injection hi1 with hi1;subst hi1
     obtain⟨u',q1,q2⟩:=hget j hjz;rw[q1]at hi2;simp only[Option.getD_some]at hi2;subst hi2;exact⟨q1,q2⟩
    obtain⟨vs,hvl,hvs⟩:=hex;have hrep:∀O,RepDs w h ρ ((cs.take z).map .p) O 0 vs:=fun O=>by
     refine RepDs.of_get (by simp[hvl];omega) fun i d v hd hv=> ?_
     rw[List.getElem?_map,List.getElem?_take]at hd;split at hd
     ·obtain⟨c,hc1,hc2⟩:=Option.map_eq_some_iff.1 hd;subst hc2;simp only[RepD];exact(hvs i v hv).2 c hc1
     ·simp at hd
    have hany:∀O,∃v,((g=true∧v= .agg vs.toArray)∨(g=false∧vs= [v]))∧RepD w h ρ d O v:=fun O=>
     asVal_rep h1 (hrep (fun _ _=>False)) O (fun _ _ _ hf=>hf.elim)
    obtain⟨v,hvv,_⟩:=hany (fun _ _=>False);unfold Oper.wp;have hrun:(execOp a.eval o).run C.P w= .ok (.value v) w:=by
     simp only[execOp,hop,hv,Sem.run_bind,load_run hz hg gb off w vs hvl (fun j u hj=>(hvs j u hj).1) v hvv,Result.andThen_ok,Sem.run_pure]
    rw[hrun];refine hK _ _ _ _ _ (r.put o.dst hd fun O=> ?_);obtain⟨v',hvv',hr⟩:=hany O;have:v'=v:=by
     rcases hvv with ⟨q1,q2⟩ | ⟨q1,q2⟩ <;> rcases hvv' with ⟨q3,q4⟩ | ⟨q3,q4⟩ <;> simp_all
    rw[←this];exact hr
   ·cases e
  ·cases e
 ·cases e
end Go.Proofs.Dm
namespace Go.Proofs.Dm
open Go Go.RowKit
def solids:List DV→Bool
 | []=>true
 | d::ds=>solid d&&solids ds
theorem solids_get:∀{ds:List DV},solids ds=true→∀(i:Nat) (d:DV),ds[i]? =some d→solid d=true
 | [],_,i,d,h=>by simp at h
 | d'::ds,hs,0,d,h=>by simp only[solids,Bool.and_eq_true]at hs;simp at h;subst h;exact hs.1
 | d'::ds,hs,i + 1,d,h=>by simp only[solids,Bool.and_eq_true]at hs;exact solids_get hs.2 i d (by simpa using h)
def mvStore (t id off:Nat) (agg:Bool):Pos→Pos
 | .tmp (i::q)=>if i=t then .cell (id::(if agg then(match q with | k::p=>(off + k)::p | []=> [off])else off::q))else .tmp (i::q)
 | x=>x
def storeD (P:Program) (o:Oper) (t:TypeId) (x y:Operand) (s:St):Option St:=
 match o.dst,tsz P t with
 | none,some z=>match evalD s x,evalD s y with
  | some (.ref id off),some v=>match flat v,s.hp[id]? with
   | some cs,some box=>if cs.length=z∧off + z≤box.length∧solids cs=true∧box≠ []then
     (if hasOwn v then(match y with
      | .tmp ty=>some {s.put (some ty) .un with hp:=s.hp.set id (box.take off ++ coerCells P (tcells P t) cs ++ box.drop (off + z))}
      | _=>none)else some {s with hp:=s.hp.set id (box.take off ++ coerCells P (tcells P t) cs ++ box.drop (off + z))})else none
   | _,_=>none
  | _,_=>none
 | _,_=>none
theorem splice3_get {α:Type} (l m:List α) (off z:Nat) (hm:m.length=z) (hl:off + z≤l.length) (i:Nat):
  (l.take off ++ m ++ l.drop (off + z))[i]? =if off≤i∧i < off + z then m[i - off]? else l[i]? :=by
 by_cases h1:i < off
 ·rw[if_neg (by omega),List.append_assoc,List.getElem?_append_left (by simp;omega),List.getElem?_take,if_pos h1]
 ·by_cases h2:i < off + z
  ·rw[if_pos ⟨by omega,h2⟩,List.getElem?_append_left (by simp;omega),List.getElem?_append_right (by simp;omega)]
   congr 1
   simp;omega
  ·rw[if_neg (by omega),List.getElem?_append_right (by simp;omega),List.getElem?_drop]
   congr 1
   simp;omega
theorem Rel.stored {C w0 h0 ow0 r0 n s a w h ow ρ} (r:Rel C w0 h0 ow0 r0 n s a w h ow ρ) {id off z b:Nat} {box ds:List DV} {vs:List Value} {cs:Array Value} {T:TypeId}
  (hb:s.hp[id]? =some box) (hρ:ρ[id]? =some b) (hh:w.heap[b]? =some (.cells cs T (0,0))) (hz:ds.length=z) (hoff:off + z≤box.length) (hne:box≠ [])
  (f:Pos→Pos) (hbox:∀i,f (.box i)= .box i) (hcell:∀p,f (.cell p)= .cell p)
  (hds:RepDs w h ρ ds (fun g q=>match q with | k::p=>(ow g).map f=some (.cell (id::(off + k)::p))| []=>False) 0 vs)
  (s':St) (hs':s'.hp=s.hp.set id (box.take off ++ ds ++ box.drop (off + z))) (hdom:∀i,n≤i→s'.tm i= .un)
  (htm:∀i,s'.tm i= .un∨(s'.tm i=s.tm i∧∀p,f (.tmp (i::p))= .tmp (i::p))):
  Rel C w0 h0 ow0 r0 n s' a (w.setRow b (cs.toList.take off ++ vs ++ cs.toList.drop (off + z)).toArray) h (fun g=>(ow g).map f) ρ:=by
 obtain⟨p1,p2,cs0,T0,hh0,hbl,hrr⟩:=r.hr.box id box b hb hρ hne;rw[hh]at hh0;obtain⟨rfl,rfl⟩:cs=cs0∧T=T0:=by injection hh0 with hh0;injection hh0 with q1 q2;exact⟨q1,q2⟩
 have hlen:=hrr.length;have hvl:=hds.length;have hst:Stable w h (w.setRow b (cs.toList.take off ++ vs ++ cs.toList.drop (off + z)).toArray) h:=⟨fun _=>Nat.le_refl _,fun b' i hi=>by
  have hne:b'≠b:=by
   intro e;subst e;rw[p2]at hi;omega
  simp only[World.cell?,setRow_other w b b' _ hne],fun b' cs' T' f' q=>by
  by_cases hbb:b'=b
  ·subst hbb;rw[hh]at q;injection q with q;injection q with q1 q2 q3;subst q1
   subst q2;exact⟨_,_,setRow_heap w b' cs _ T _ hh,by simp;omega⟩
  ·exact⟨cs',f',by rw[setRow_other w b b' _ hbb];exact q,rfl⟩⟩
 have hO : ∀ (P : Nat → List Nat → Prop) (Q : Nat → List Nat → Prop), (∀ g p, P g p → ow g ≠ some (.box id)) → (∀ g p, P g p → Q g p) →
     ∀g p,P g p→(w.setRow b (cs.toList.take off ++ vs ++ cs.toList.drop (off + z)).toArray).heap[g]? =w.heap[g]? ∧h g=h g∧Q g p:=by
   intro P Q h1 h2 g p hp
   have hne:g≠b:=fun e=>h1 g p hp (by rw[e];exact p1)
   exact⟨setRow_other w b g _ hne,rfl,h2 g p hp⟩
 have hsz:(w.setRow b (cs.toList.take off ++ vs ++ cs.toList.drop (off + z)).toArray).heap.size=w.heap.size:=by simp[World.setRow]
 have hfr:Fr w h ow (w.setRow b (cs.toList.take off ++ vs ++ cs.toList.drop (off + z)).toArray) h (fun g=>(ow g).map f):=
  ⟨hst,by rw[hsz];exact Nat.le_refl _,rfl,rfl,rfl,fun b' hb' ho=>⟨setRow_other w b b' _ (fun e=>by rw[e,p1]at ho;cases ho),rfl,by simp[ho]⟩⟩
 refine⟨r.glob.fr hfr,r.fr.trans hfr,⟨by rw[hs'];simp[r.hr.len],fun i bx b' h1 h2 hne'=> ?_,fun g hg=> ?_,fun b' hb'=>r.hr.hz b' (by rw[hsz]at hb';exact hb')⟩,r.defers,r.size,fun i=> ?_,hdom,r.pre⟩
 ·rw[hs']at h1
  by_cases hi:i=id
  ·subst hi;rw[hρ]at h2;injection h2 with h2;subst h2
   have hlt:i < s.hp.length:=(List.getElem?_eq_some_iff.1 hb).1;rw[List.getElem?_set_self hlt]at h1;injection h1 with h1;subst h1
   have hnl:(box.take off ++ ds ++ box.drop (off + z)).length=box.length:=by simp;omega
   refine⟨by simp[p1,hbox],p2,_,T,setRow_heap w b cs _ T _ hh,by rw[hnl];simp;omega,RepDs.of_get (by rw[hnl];simp;omega) fun k d1 v hd1 hv1=> ?_⟩
   ·have hkl:k < box.length:=by rw[←hnl];exact(List.getElem?_eq_some_iff.1 hd1).1
    have hv1:((cs.toList.take off ++ vs ++ cs.toList.drop (off + z)).take (box.take off ++ ds ++ box.drop (off + z)).length)[k]? =some v:=hv1;rw[List.getElem?_take,hnl,if_pos hkl]at hv1;rw[splice3_get box ds off z hz hoff k]at hd1;rw[splice3_get cs.toList vs off z (by omega) (by simp;omega) k]at hv1;split at hd1
    ·rename_i hk;rw[if_pos hk]at hv1;obtain⟨v',q1,q2⟩:=hds.get _ d1 hd1;rw[q1]at hv1;injection hv1 with hv1;subst hv1
     refine RepD.step hst (fun _ _ h=>h) d1 _ _ _ (hO _ _ (fun g p ho e=> ?_) (fun g p ho=> ?_)) q2
     ·simp only[Nat.zero_add]at ho;rw[e]at ho;simp[hbox]at ho
     ·simp only[Nat.zero_add]at ho⊢;rw[ho];have:off +(k - off)=k:=by omega
      rw[this]
    ·rename_i hk;rw[if_neg hk]at hv1;obtain⟨v',q1,q2⟩:=hrr.get k d1 hd1;rw[List.getElem?_take,if_pos hkl]at q1;rw[q1]at hv1;injection hv1 with hv1;subst hv1
     exact RepD.step hst (fun _ _ h=>h) d1 _ _ _ (hO _ _ (fun g p ho e=>by rw[e]at ho;simp at ho) (fun g p ho=>by simp[ho,hcell])) q2
  ·rw[List.getElem?_set_ne (fun e=>hi e.symm)]at h1;obtain⟨p1',p2',cs',T',hh',hl',hrr'⟩:=r.hr.box i bx b' h1 h2 hne';have hne:b'≠b:=fun e=>by rw[e,p1]at p1';injection p1' with p1';injection p1' with p1';exact hi p1'.symm
   refine⟨by simp[p1',hbox],p2',cs',T',by rw[setRow_other w b b' _ hne];exact hh',hl',?_⟩;exact RepDs.step hst (fun _ _ h=>h) bx _ _ 0 _ (hO _ _ (fun g p ho e=>by rw[e]at ho;simp at ho) (fun g p ho=>by simp[ho,hcell])) hrr'
 ·rw[hsz];exact r.hr.lt g (fun e=>hg (by simp[e]))
 ·rcases htm i with e | ⟨e,q⟩
  ·rw[e];simp only[RepD]
  ·rw[e];exact RepD.step hst (fun _ _ h=>h) _ _ _ _ (hO _ _ (fun g p ho e=>by rw[e]at ho;simp at ho) (fun g p ho=>by simp[ho,q])) (r.tm i)
theorem storeD_ok {C w0 h0 ow0 r0 n o t x y s s'} (hop:o.op= .store t x y) (e:storeD C.P o t x y s=some s'):StepOK C w0 h0 ow0 r0 n o s s':=by
 intro a w h ow ρ r K Q hK;unfold storeD at e;split at e
 ·rename_i z hdst hz;split at e
  ·rename_i id off v hx hy;split at e
   ·rename_i cs box hf hb;split at e
    ·rename_i hc;obtain⟨hcl,hoff,hsol,hne⟩:=hc;have hx':=evalD_rep r hx;simp only[RepD]at hx';obtain⟨b,hρ,hv⟩:=hx';obtain⟨p1,p2,cs0,T,hh,hbl,hrr⟩:=r.hr.box id box b hb hρ hne;obtain⟨O',hr,hO'⟩:=flat_rep hf (evalD_rep r hy);have hlen:=hrr.length;have hvl:=hr.length;have hone:∀u∈(a.eval y).cells.toList,u.oneCell'=true:=by
      intro u hu;obtain⟨i,hi⟩:=List.mem_iff_getElem?.1 hu;have:i < cs.length:=by rw[←hvl];exact(List.getElem?_eq_some_iff.1 hi).1
      obtain⟨v',q1,q2⟩:=hr.get i cs[i] (List.getElem?_eq_getElem this);rw[q1]at hi;injection hi with hi;subst hi
      exact solid_one (solids_get hsol i _ (List.getElem?_eq_getElem this)) q2
     have hst:=run_storeCells_at C.P b off T (a.eval y).cells.toList 0 cs0 w hh (by simp at hlen hvl⊢;omega) hone;have hrun:(execOp a.eval o).run C.P w= .ok .skip (w.setRow b (cs0.toList.take off ++(a.eval y).cells.toList ++ cs0.toList.drop (off + z)).toArray):=by
      have hsz:(a.eval y).cells.size=z:=by simp at hvl;omega
      simp only[execOp,hop,hv,Instr.storeAt,Instr.sureAddr,storeVar,Sem.run_bind,Sem.run_pure,Result.andThen_ok,tsz_spec hz,hsz];simp only[ne_eq,not_true_eq_false,if_false,Sem.run_bind,Sem.run_pure,Result.andThen_ok];have:(a.eval y).cells.toList.length=z:=by omega
      simp only[Nat.add_zero,this]at hst;rw[hst];rfl
     unfold Oper.wp;rw[hrun];show K (a.put o.dst undef) _;rw[hdst];split at e
     ·rename_i hown;split at e
      ·rename_i ty;injection e with e;subst e
       refine hK a _ h _ ρ (r.stored (z:=z) hb hρ hh (by rw[coerCells_len];exact hcl) hoff hne (mvStore ty id off (isAggD v)) (fun i=>rfl) (fun p=>rfl)
        (RepDs.wk (coerCells_wk _ _ _) (RepDs.of_get hvl fun i d u hd hu=> ?_)) _ rfl (fun i hi=> ?_) (fun i=> ?_))
       ·obtain⟨v',q1,q2⟩:=hr.get i d hd;rw[q1]at hu;injection hu with hu;subst hu
        refine q2.rename fun g p ho=> ?_
        have ho2:ow g=some (.tmp (ty::(if isAggD v then(0 + i)::p else p))):=hO' g (0 + i) p ho;simp only[Nat.zero_add]at ho2⊢;rw[ho2];simp only[Option.map_some,mvStore,if_true]
        by_cases hag:isAggD v=true
        ·simp[hag]
        ·simp only[hag,Bool.false_eq_true,if_false];have:i=0:=by
          have hi:=(List.getElem?_eq_some_iff.1 hd).1;have:cs.length=1:=by
           cases v <;> simp[isAggD]at hag <;> simp only[flat]at hf <;> split at hf <;> first
            |(injection hf with hf;subst hf;rfl)
            | cases hf
          omega
         subst this;simp
       ·simp only[St.put];split
        ·rfl
        ·exact r.dom i hi
       ·simp only[St.put]
        by_cases hit:i=ty
        ·rw[if_pos hit];exact .inl rfl
        ·rw[if_neg hit];exact .inr ⟨rfl,fun p=>by simp[mvStore,hit]⟩
      ·cases e
     ·rename_i hown;injection e with e;subst e
      have hmap:(fun g=>(ow g).map (fun x=>x))=ow:=by funext g;cases ow g <;> rfl
      have := r.stored (z := z) (ds := coerCells C.P (tcells C.P t) cs) hb hρ hh (by rw [coerCells_len]; exact hcl) hoff hne (fun x => x) (fun i => rfl) (fun p => rfl)
          (vs:=(a.eval y).cells.toList) (RepDs.wk (coerCells_wk _ _ _) ?_) {s with hp:=s.hp.set id (box.take off ++ coerCells C.P (tcells C.P t) cs ++ box.drop (off + z))} rfl r.dom
          (fun i=> .inr ⟨rfl,fun p=>rfl⟩)
      ·exact hK a _ h _ ρ this
      ·obtain⟨O2,hr2,_⟩:=flat_rep hf (RepD.free _ _ (fun _ _=>False) _ (by simpa using hown) (evalD_rep r hy));refine RepDs.of_get hr2.length fun i d u hd hu=> ?_
       obtain⟨v',q1,q2⟩:=hr2.get i d hd;rw[q1]at hu;injection hu with hu;subst hu
       obtain⟨O3,hr3,hO3⟩:=flat_rep hf (RepD.free _ _ (fun _ _=>False) _ (by simpa using hown) (evalD_rep r hy));obtain⟨v3,q3,q4⟩:=hr3.get i d hd;rw[q1]at q3;injection q3 with q3;subst q3
       exact q4.rename fun g p ho=>(hO3 g (0 + i) p ho).elim
    ·cases e
   ·cases e
  ·cases e
 ·cases e
end Go.Proofs.Dm
namespace Go.Proofs.Dm
open Go Go.RowKit
theorem pd_one {w h} {c:PD} {u:Value} (r:Rep w h c u):u.oneCell'=true:=by
 have:RepD w h [] (.p c) (fun _ _=>False) u:=by simpa only[RepD]using r
 exact solid_one (by cases c <;> rfl) this
theorem rows_vals {w h} {xs:List (List PD)} {z g off:Nat} (hz:∀x∈xs,x.length=z) (r:RepRows w h xs (fun j=>w.cell? ⟨g,off + j,none⟩)):
  ∃vs:List Value,vs.length=xs.length * z∧(∀j u,vs[j]? =some u→w.cell? ⟨g,off + j,none⟩=some u)∧RepRows w h xs (fun j=>vs[j]?)∧∀u∈vs,u.oneCell'=true:=by
 have hget:∀j,j < xs.length * z→∃u c,w.cell? ⟨g,off + j,none⟩=some u∧Rep w h c u:=by
  intro j hj;have hz0:0 < z:=by
   rcases Nat.eq_zero_or_pos z with e | e
   ·subst e;simp at hj
   ·exact e
  have hi:j / z < xs.length:=(Nat.div_lt_iff_lt_mul hz0).2 hj;have hrow:=r.get hz (j / z) xs[j / z] (List.getElem?_eq_getElem hi);have hm:j% z <(xs[j / z]).length:=by rw[hz _ (List.getElem_mem hi)];exact Nat.mod_lt _ hz0
  obtain⟨u,q1,q2⟩:=hrow.get (j% z) _ (List.getElem?_eq_getElem hm);have e:j / z * z + j% z=j:=by rw[Nat.mul_comm];exact Nat.div_add_mod j z
  simp only[e]at q1;exact⟨u,_,q1,q2⟩
 refine⟨(List.range (xs.length * z)).map fun j=>(w.cell? ⟨g,off + j,none⟩).getD undef,by simp,?_,?_,?_⟩
 ·intro j u hj;rw[List.getElem?_map]at hj;obtain⟨i,hi1,hi2⟩:=Option.map_eq_some_iff.1 hj;have hjz:j < xs.length * z:=by
   have:=(List.getElem?_eq_some_iff.1 hi1).1;simpa using this
  rw[List.getElem?_range hjz]at hi1;injection hi1 with hi1;subst hi1
  obtain⟨u',c,q1,q2⟩:=hget j hjz;rw[q1]at hi2⊢;simpa using hi2
 ·refine RepRows.mono (Stable.refl w h) xs _ _ (xs.length * z) (fun j hj=> ?_) (rowsLen xs z hz) r;rw[List.getElem?_map,List.getElem?_range hj];obtain⟨u',c,q1,q2⟩:=hget j hj;simp[q1]
 ·intro u hu;obtain⟨j,hj,rfl⟩:=List.mem_map.1 hu;obtain⟨u',c,q1,q2⟩:=hget j (by simpa using hj);rw[q1];exact pd_one q2
theorem RepRows.append {w h}:∀{xs ys:List (List PD)} {vs us:List Value},(xs.map List.length).sum=vs.length→RepRows w h xs (fun j=>vs[j]?)→RepRows w h ys (fun j=>us[j]?)→
  RepRows w h (xs ++ ys) (fun j=>(vs ++ us)[j]?):=by
 intro xs
 induction xs with
 | nil=>
  intro ys vs us hl _ h2;have:vs= []:=List.eq_nil_of_length_eq_zero (by simpa using hl.symm);subst this;simpa using h2
 | cons x xs ih=>
  intro ys vs us hl h1 h2;simp only[List.map_cons,List.sum_cons]at hl;simp only[RepRows,List.cons_append]at h1⊢;refine⟨RepRow.mono (Stable.refl w h) x _ _ x.length (fun j hj=> ?_) (Nat.le_refl _) h1.1,?_⟩
  ·rw[List.getElem?_append_left (by omega)]
  ·have:=ih (ys:=ys) (vs:=vs.drop x.length) (us:=us) (by simp;omega) (by
    refine RepRows.mono (Stable.refl w h) xs _ _ _ (fun j hj=> ?_) rfl h1.2;rw[List.getElem?_drop]) h2
   refine RepRows.mono (Stable.refl w h) (xs ++ ys) _ _ _ (fun j hj=> ?_) rfl this
   by_cases hlt:x.length + j < vs.length
   ·rw[List.getElem?_append_left hlt,List.getElem?_append_left (by simp;omega),List.getElem?_drop]
   ·rw[List.getElem?_append_right (by omega),List.getElem?_append_right (by simp;omega)]
    congr 1
    simp;omega
def appBase (P:Program) (e z:Nat) (s:St) (x:Operand):Option (List (List PD)×Option Tmp):=
 match evalD s x with
 | some (.own e' z' xs)=>match x with
  | .tmp t=>if e'=e∧z'=z then some (xs,some t)else none
  | _=>none
 | some .nil=>some ([],none)
 | _=>none
def appMore (z:Nat) (s:St) (y:Operand):Option (List (List PD)):=
 match evalD s y with
 | some .nil=>some []
 | some d=>match elems d with
  | some (z',ys)=>if z'=z then some ys else none
  | none=>none
 | none=>none
def bytesR (b:ByteArray):List (List PD):=b.data.toList.map fun c=> [.int .u8 c.toNat]
def appMoreT (P:Program) (t t':TypeId) (z by_:Nat) (s:St) (y:Operand):Option (List (List PD)):=
 if t=t' then appMore z s y else match evalD s y with
 | some (.p (.str b))=>if tkind P t'=some 0∧z=1∧by_=1 then some (bytesR b)else none
 | _=>none
def appendD (P:Program) (o:Oper) (c:Call) (s:St):Option St:=
 match c.callee with
 | .builtin .append=>match c.args.toList,c.argTypes.toList with
  | [x,y],[t,t']=>match tslice P t with
   | some e=>match tsz P e,tbytes P e,tzero P e,o.dst with
    | some z,some by_,some zv,some d=>match appBase P e z s x,appMoreT P t t' z by_ s y with
     | some (xs,own?),some ys=>if 0 < z∧zv.cells.size=z∧(xs.length + ys.length)* by_≤140737488355328∧xs.length + ys.length≤maxLen then
       some ((s.put own? .un).put (some d) (.own e z (xs ++ ys)))else none
     | _,_=>none
    | _,_,_,_=>none
   | none=>none
  | _,_=>none
 | _=>none
theorem run_append_none {P:Program} {t e:TypeId} (ht:P.underlying t=some (.slice e)) {z:Nat} (hz:tsz P e=some z) (ty:TypeId) (b:Option Addr) (n c:Nat) (hc:n≤c) (a:Option Addr) (k:Nat) (w:World):
  (Builtin.append_ #[t,t] ty #[.slice b n c,.slice a 0 k]).run P w= .ok (.slice b n c) w:=by
 have hl:∀(x:Addr),(loadCells x 0).run P w= .ok #[] w:=fun x=>by simpa using run_loadCells_list (P:=P) w x [] (by simp)
 cases b <;> cases a <;> simp[Builtin.append_,run_underlying ht,tsz_spec hz,Builtin.lenOf,Builtin.firstCells,hc,storeCells,hl]
theorem append_core {P:Program} {t e:TypeId} {z by_:Nat} {zv:Value} (ht:tslice P t=some e) (hz:tsz P e=some z) (hby:tbytes P e=some by_) (hzv:tzero P e=some zv) (h0:0 < z) (hzz:zv.cells.size=z)
  {w:World} {h:Mark} {xs ys:List (List PD)} {v vy:Value} {vals:List Value} (ty:TypeId)
  (hown:w.ownsRow 0 e z v xs.length vals) (hx:∀x∈xs,x.length=z) (hr:RepRows w h xs (fun j=>vals[j]?)) (h1:∀u∈vals,u.oneCell'=true) (hg:∀g,v.ownBlock=some g→h g=xs.length * z)
  (hhz:∀b,w.heap.size≤b→h b=0)
  (hy:Rep w h (.sl z ys) vy) (hb:(xs.length + ys.length)* by_≤140737488355328) (hm:xs.length + ys.length≤maxLen):
  ∃v' w' vals',(Builtin.append_ #[t,t] ty #[v,vy]).run P w= .ok v' w'∧w'.ownsRow 0 e z v' (xs ++ ys).length vals'∧(∀x∈xs ++ ys,x.length=z)∧RepRows w h (xs ++ ys) (fun j=>vals'[j]?)∧
   (∀u∈vals',u.oneCell'=true)∧w.grownBy w' v.ownBlock∧(v'.ownBlock=none∨v'.ownBlock=v.ownBlock∨v'.ownBlock=some w.heap.size)∧
   (∀b i,i < h b→w'.cell? ⟨b,i,none⟩=w.cell? ⟨b,i,none⟩)∧(v'.ownBlock=none→v.ownBlock=none)∧
   (∀(b:Nat) (cs:Array Value) (T:TypeId) (f:Nat×Nat),w.heap[b]? =some (.cells cs T f)→∃cs' f',w'.heap[b]? =some (.cells cs' T f')∧cs'.size=cs.size):=by
 have hu:=tslice_spec ht;have hrows:=rowsLen xs z hx;simp only[Rep]at hy;obtain⟨i,hi1,hi2⟩:=Option.map_eq_some_iff.1 hz;obtain⟨i',hi1',hi3⟩:=Option.map_eq_some_iff.1 hby;obtain⟨i'',hi1'',hi4⟩:=Option.bind_eq_some_iff.1 hzv;rw[hi1]at hi1' hi1'';injection hi1' with q;subst q
 injection hi1'' with q;subst q
 rcases hy with ⟨rfl,ay,cy,rfl,hay⟩ | ⟨gy,offy,capy,rfl,hcy,hhy,hzy,hry⟩
 ·
  have hv:∃b c,v= .slice b xs.length c∧xs.length≤c:=by
   rcases hown.2 with ⟨rfl,q⟩ | ⟨g,cap,cur,rfl,_,_,q,_⟩
   ·exact⟨none,0,by rw[q],by omega⟩
   ·exact⟨_,cap,rfl,q⟩
  obtain⟨b,c,rfl,hc⟩:=hv;refine⟨_,w,vals,run_append_none hu hz ty b _ c hc ay cy w,by simpa using hown,by simpa using hx,by simpa using hr,h1,⟨rfl,rfl,rfl,Nat.le_refl _,fun _ _ _=>rfl⟩,.inr (.inl rfl),fun _ _ _=>rfl,fun h=>h,fun b cs T f q=>⟨cs,f,q,rfl⟩⟩
 ·obtain⟨news,hnl,hnews,hnr,hn1⟩:=rows_vals hzy hry;obtain⟨v',w',q1,q2,q3,q4,q5⟩:=run_append_own_at (P:=P) w 0 t ty e i zv z by_ hu hi1 hi4 hi2 hi3 hzz h0 v xs.length vals hown ⟨gy,offy,none⟩ ys.length capy news hnl
   (fun j u hj=>by rw[addr_add];exact hnews j u hj) hn1 hm hb (by omega)
  refine⟨v',w',vals ++ news,q1,by simpa using q2,fun x hxx=> ?_,RepRows.append (by rw[hrows,hown.1]) hr hnr,fun u hu=> ?_,q3,?_,?_,?_,?_⟩
  ·rcases List.mem_append.1 hxx with q | q
   ·exact hx x q
   ·exact hzy x q
  ·rcases List.mem_append.1 hu with q | q
   ·exact h1 u q
   ·exact hn1 u q
  ·rcases q5 with q | q
   ·exact .inr (.inl q)
   ·exact .inr (.inr q)
  ·intro b k hk;have hblt:b < w.heap.size:=by
    rcases Nat.lt_or_ge b w.heap.size with q | q
    ·exact q
    ·rw[hhz b q]at hk;omega
   by_cases hvb:v.ownBlock=some b
   ·rcases hown.2 with ⟨rfl,_⟩ | ⟨g,cap,cur,rfl,_,hgh,hnc,hcm,hcs,htake⟩
    ·simp[Value.ownBlock]at hvb
    ·have hgb:g=b:=by simpa [Value.ownBlock]using hvb
     subst hgb
     by_cases hroom:xs.length + ys.length≤cap
     ·have hfit:xs.length * i.size + news.length≤cur.size:=by rw[hi2,hnl,hcs,←Nat.add_mul];exact Nat.mul_le_mul_right _ hroom
      have hr2:=run_append_room (P:=P) w t ty e i hu hi1 g xs.length cap cur hgh ⟨gy,offy,none⟩ ys.length capy news (by rw[hi2];exact hnl)
       (fun j u hj=>by rw[addr_add];exact hnews j u hj) hn1 hroom hfit
      rw[q1]at hr2;injection hr2 with e1 e2
      rw[e2];have hk2:k < xs.length * z:=by rw[hg g rfl]at hk;exact hk
      rw[hi2]at hfit⊢;simp only[World.cell?,setRow_heap w g cur _ e _ hgh,hgh];have:(cur.toList.take (xs.length * z)++ news ++ cur.toList.drop (xs.length * z + news.length))[k]? =cur.toList[k]? :=by
       rw[List.append_assoc,List.getElem?_append_left (by simp;omega),List.getElem?_take,if_pos hk2]
      simp only[Option.isSome_none,Bool.false_eq_true,if_false];rw[←Array.getElem?_toList,this,Array.getElem?_toList]
     ·have holds:∀j u,vals[j]? =some u→w.cell? ((⟨g,0,none⟩:Addr).add j)=some u:=hown.cells (g:=g) rfl;have hr2:=run_append_grow (P:=P) w t ty e i zv hu hi1 hi4 ⟨g,0,none⟩ xs.length cap vals (by rw[hi2];exact hown.1) holds ⟨gy,offy,none⟩ ys.length capy news (by rw[hi2];exact hnl)
       (fun j u hj=>by rw[addr_add];exact hnews j u hj) (by omega) (by simp only[maxLen]at hm;omega) (by rw[hi3];exact growslice_fits (by omega) hb)
      rw[q1]at hr2;injection hr2 with e1 e2
      rw[e2];have hlt':g < w.drew.heap.size:=hblt;simp only[World.cell?,heap_alloc_old w.drew _ hlt'];rfl
   ·simp only[World.cell?,q3.block b hblt (fun e=>hvb e.symm)]
  ·intro hn;rcases q5 with q | q
   ·rw[←q];exact hn
   ·rw[hn]at q;cases q
  ·intro b cs T f hb;have hblt:b < w.heap.size:=(Array.getElem?_eq_some_iff.1 hb).1
   by_cases hvb:v.ownBlock=some b
   ·rcases hown.2 with ⟨rfl,_⟩ | ⟨g,cap,cur,rfl,_,hgh,hnc,hcm,hcs,htake⟩
    ·simp[Value.ownBlock]at hvb
    ·have hgb:g=b:=by simpa [Value.ownBlock]using hvb
     subst hgb;rw[hgh]at hb;injection hb with hb;injection hb with hb1 hb2 hb3;subst hb1;subst hb2
     by_cases hroom:xs.length + ys.length≤cap
     ·have hfit:xs.length * i.size + news.length≤cur.size:=by rw[hi2,hnl,hcs,←Nat.add_mul];exact Nat.mul_le_mul_right _ hroom
      have hr2:=run_append_room (P:=P) w t ty e i hu hi1 g xs.length cap cur hgh ⟨gy,offy,none⟩ ys.length capy news (by rw[hi2];exact hnl)
       (fun j u hj=>by rw[addr_add];exact hnews j u hj) hn1 hroom hfit
      rw[q1]at hr2;injection hr2 with e1 e2
      rw[e2];exact⟨_,_,setRow_heap w g cur _ e _ hgh,by simp;omega⟩
     ·have holds:∀j u,vals[j]? =some u→w.cell? ((⟨g,0,none⟩:Addr).add j)=some u:=hown.cells (g:=g) rfl;have hr2:=run_append_grow (P:=P) w t ty e i zv hu hi1 hi4 ⟨g,0,none⟩ xs.length cap vals (by rw[hi2];exact hown.1) holds ⟨gy,offy,none⟩ ys.length capy news (by rw[hi2];exact hnl)
       (fun j u hj=>by rw[addr_add];exact hnews j u hj) (by omega) (by simp only[maxLen]at hm;omega) (by rw[hi3];exact growslice_fits (by omega) hb)
      rw[q1]at hr2;injection hr2 with e1 e2
      rw[e2];have hlt':g < w.drew.heap.size:=hblt;exact⟨cur,_,by rw[heap_alloc_old w.drew _ hlt'];exact hgh,rfl⟩
   ·exact⟨cs,f,by rw[q3.block b hblt (fun e=>hvb e.symm)];exact hb,rfl⟩
theorem bytesR_len (b:ByteArray):(bytesR b).length=b.size:=by
 simp only[bytesR,List.length_map,Array.length_toList];rfl
theorem bytesR_one (b:ByteArray):∀x∈bytesR b,x.length=1:=by
 intro x hx;simp only[bytesR,List.mem_map]at hx;obtain⟨c,_,rfl⟩:=hx;rfl
theorem bytesRows {w:World} {h:Mark}:∀(l:List UInt8),RepRows w h (l.map fun c=> [PD.int .u8 c.toNat]) (fun j=>(l.map fun b=>Value.int .u8 b.toNat)[j]?)
 | []=>by simp only[List.map_nil,RepRows]
 | c::l=>by
  simp only[List.map_cons,RepRows,RepRow];refine⟨⟨⟨_,rfl,by simp only[Rep]⟩,trivial⟩,?_⟩;have:=bytesRows (w:=w) (h:=h) l;have e:(fun j=>(Value.int .u8 c.toNat::l.map fun b=>Value.int .u8 b.toNat)[[PD.int .u8 c.toNat].length + j]?)=fun j=>(l.map fun b=>Value.int .u8 b.toNat)[j]? :=by
   funext j
   have e2: [PD.int .u8 c.toNat].length + j=j + 1:=by simp only[List.length_singleton];omega
   rw[e2,List.getElem?_cons_succ]
  rw[e];exact this
theorem append_core_str {P:Program} {t t' e:TypeId} {zv:Value} (ht:tslice P t=some e) (ht':tkind P t'=some 0) (hz:tsz P e=some 1) (hby:tbytes P e=some 1) (hzv:tzero P e=some zv) (hzz:zv.cells.size=1)
  {w:World} {h:Mark} {xs:List (List PD)} {v:Value} {vals:List Value} (s:ByteArray) (ty:TypeId)
  (hown:w.ownsRow 0 e 1 v xs.length vals) (hx:∀x∈xs,x.length=1) (hr:RepRows w h xs (fun j=>vals[j]?)) (h1:∀u∈vals,u.oneCell'=true) (hg:∀g,v.ownBlock=some g→h g=xs.length * 1)
  (hhz:∀b,w.heap.size≤b→h b=0)
  (hb:(xs.length +(bytesR s).length)* 1≤140737488355328) (hm:xs.length +(bytesR s).length≤maxLen):
  ∃v' w' vals',(Builtin.append_ #[t,t'] ty #[v,.string s]).run P w= .ok v' w'∧w'.ownsRow 0 e 1 v' (xs ++ bytesR s).length vals'∧(∀x∈xs ++ bytesR s,x.length=1)∧RepRows w h (xs ++ bytesR s) (fun j=>vals'[j]?)∧
   (∀u∈vals',u.oneCell'=true)∧w.grownBy w' v.ownBlock∧(v'.ownBlock=none∨v'.ownBlock=v.ownBlock∨v'.ownBlock=some w.heap.size)∧
   (∀b i,i < h b→w'.cell? ⟨b,i,none⟩=w.cell? ⟨b,i,none⟩)∧(v'.ownBlock=none→v.ownBlock=none)∧
   (∀(b:Nat) (cs:Array Value) (T:TypeId) (f:Nat×Nat),w.heap[b]? =some (.cells cs T f)→∃cs' f',w'.heap[b]? =some (.cells cs' T f')∧cs'.size=cs.size):=by
 have hu:=tslice_spec ht;have hu':=tkind0 ht';have hrows:=rowsLen xs 1 hx;have hbl:=bytesR_len s;rw[hbl]at hb hm;rw[Nat.mul_one]at hb;obtain⟨i,hi1,hi2⟩:=Option.map_eq_some_iff.1 hz;obtain⟨i',hi1',hi3⟩:=Option.map_eq_some_iff.1 hby;obtain⟨i'',hi1'',hi4⟩:=Option.bind_eq_some_iff.1 hzv;rw[hi1]at hi1' hi1'';injection hi1' with q;subst q
 injection hi1'' with q;subst q
 have hsl:=Lib.strCells_length s;have hrep:RepRows w h (xs ++ bytesR s) (fun j=>(vals ++ Lib.strCells s)[j]?):=RepRows.append (by rw[hrows,hown.1]) hr (bytesRows _);have hone:∀x∈xs ++ bytesR s,x.length=1:=fun x q=>by
  rcases List.mem_append.1 q with q | q
  ·exact hx x q
  ·exact bytesR_one s x q
 have hval:∀u∈vals ++ Lib.strCells s,u.oneCell'=true:=fun u q=>by
  rcases List.mem_append.1 q with q | q
  ·exact h1 u q
  ·exact Lib.strCells_oneCell s u q
 have hvl:vals.length=xs.length:=by have:=hown.1;simpa using this
 have hll:(vals ++ Lib.strCells s).length=(xs ++ bytesR s).length * 1:=by simp[hvl,hsl,hbl]
 have hm':xs.length + s.size≤9223372036854775807:=by simp only[maxLen]at hm;omega
 have new : ∀ (old : Nat), old < xs.length + s.size → ∀ (row : Option Nat),
     (w.drew.alloc (.cells (vals.toArray ++(Lib.strCells s).toArray ++ Builtin.zeroCells zv.cells (grownCap w (xs.length + s.size) old e -(xs.length + s.size))) e)).ownsRow 0 e 1
       (.slice (some ⟨w.heap.size,0,none⟩) (xs.length + s.size) (grownCap w (xs.length + s.size) old e)) (xs ++ bytesR s).length (vals ++ Lib.strCells s)∧
     w.grownBy (w.drew.alloc (.cells (vals.toArray ++(Lib.strCells s).toArray ++ Builtin.zeroCells zv.cells (grownCap w (xs.length + s.size) old e -(xs.length + s.size))) e)) row:=by
   intro old ho row
   have hge:=grownCap_ge w (xs.length + s.size) old e
   have hcm:grownCap w (xs.length + s.size) old e≤maxLen:=grownCap_le_maxLen w (xs.length + s.size) old e hm
   have hlen:(xs ++ bytesR s).length=xs.length + s.size:=by simp[hbl]
   refine⟨⟨hll,.inr ⟨w.heap.size,_,_,by rw[hlen],Nat.zero_le _,heap_alloc_new w.drew _,by rw[hlen];exact hge,hcm,?_,?_⟩⟩,⟨rfl,rfl,rfl,by simp,fun k hk _=>heap_alloc_old w.drew _ hk⟩⟩
   · simp only[Array.size_append,List.size_toArray,size_zeroCells,hzz,hvl,hsl]
     omega
   · simp only[Array.toList_append,List.append_assoc]
     rw[←List.append_assoc,←hll]
     exact List.take_left
 have stabNew:∀(cs:Array Value),∀b k,k < h b→(w.drew.alloc (.cells cs e)).cell? ⟨b,k,none⟩=w.cell? ⟨b,k,none⟩:=fun cs b k hk=>by
  have hblt:b < w.heap.size:=by
   rcases Nat.lt_or_ge b w.heap.size with q | q
   ·exact q
   ·rw[hhz b q]at hk;omega
  have hlt':b < w.drew.heap.size:=hblt;simp only[World.cell?,heap_alloc_old w.drew _ hlt'];rfl
 have keepNew:∀(cs0:Array Value),∀(b:Nat) (cs:Array Value) (T:TypeId) (f:Nat×Nat),w.heap[b]? =some (.cells cs T f)→∃cs' f',(w.drew.alloc (.cells cs0 e)).heap[b]? =some (.cells cs' T f')∧cs'.size=cs.size:=fun cs0 b cs T f q=>by
  have hlt':b < w.drew.heap.size:=(Array.getElem?_eq_some_iff.1 q).1;exact⟨cs,f,by rw[heap_alloc_old w.drew _ hlt'];exact q,rfl⟩
 rcases hown.2 with ⟨rfl,h0⟩ | ⟨g,cap,cur,rfl,hbg,hgh,hnc,hcm,hcs,htake⟩
 ·have hxs:xs= []:=List.eq_nil_of_length_eq_zero h0;subst hxs;have hvs:vals= []:=List.eq_nil_of_length_eq_zero (by simpa using hvl);subst hvs
  by_cases hs0:s.size=0
  ·have hn:bytesR s= []:=List.eq_nil_of_length_eq_zero (by rw[hbl];exact hs0);have hf:=Lib.run_firstCells_string (P:=P) w 1 s;rw[hs0]at hf;have hsc:Lib.strCells s= []:=List.eq_nil_of_length_eq_zero (by rw[hsl];exact hs0);rw[hsc]at hf;refine⟨.slice none 0 0,w,[],?_,by rw[hn];exact World.ownsRow_nil w 0 e 1,by simp[hn],by rw[hn];simp only[List.append_nil,RepRows],by simp,⟨rfl,rfl,rfl,Nat.le_refl _,fun _ _ _=>rfl⟩,.inl rfl,fun _ _ _=>rfl,fun q=>q,fun b cs T f q=>⟨cs,f,q,rfl⟩⟩;simp[Builtin.append_,run_underlying hu,run_underlying hu',sizeOf,typeInfo,hi1,hi2,Builtin.lenOf,hs0,hf]
  ·have hr0:=run_append_nil_string (P:=P) w t t' ty e i zv hu hu' hi1 hi4 s (by omega) (by simp at hm';omega) (by rw[hi3];simp at hb;omega);have e1:(s.data.map fun b=>Value.int .u8 b.toNat)=(Lib.strCells s).toArray:=by
    apply Array.ext';simp[Lib.strCells]
   rw[e1]at hr0;have hgr:=new 0 (by simp;omega) none;simp only[List.length_nil,Nat.zero_add,List.nil_append]at hgr hrep hone hval⊢;have e2:(([]:List Value).toArray ++(Lib.strCells s).toArray)=(Lib.strCells s).toArray:=by simp
   rw[e2]at hgr;exact⟨_,_,_,hr0,hgr.1,hone,hrep,hval,hgr.2,.inr (.inr rfl),stabNew _,fun q=>rfl,keepNew _⟩
 ·by_cases hroom:xs.length + s.size≤cap
  ·have hfit:xs.length + s.size≤cur.size:=by rw[hcs];omega
   have hr0:=Lib.run_append_room_string (P:=P) w t t' ty e i hu hu' hi1 hi2 g xs.length cap cur hgh s hroom hfit;have htk:cur.toList.take xs.length=vals:=by simpa using htake
   have hlen:(xs ++ bytesR s).length=xs.length + s.size:=by simp[hbl]
   refine⟨_,_,vals ++ Lib.strCells s,hr0,⟨hll,.inr ⟨g,cap,_,by rw[hlen],hbg,setRow_heap w g cur _ e _ hgh,by rw[hlen];exact hroom,hcm,?_,?_⟩⟩,hone,hrep,hval,⟨rfl,rfl,rfl,by simp[World.setRow],fun k _ hk=>setRow_other w g k _ (fun e=>hk (by simp[Value.ownBlock,e]))⟩,.inr (.inl rfl),?_,fun q=>by simp[Value.ownBlock]at q,?_⟩
   ·simp only[List.size_toArray,List.length_append,List.length_take,List.length_drop,Array.length_toList,hsl];omega
   ·rw[htk,←hll];exact List.take_left
   ·intro b k hk
    by_cases hgb:b=g
    ·subst hgb;have hk2:k < xs.length:=by have:=hg b rfl;omega
     simp only[World.cell?,setRow_heap w b cur _ e _ hgh,hgh,Option.isSome_none,Bool.false_eq_true,if_false];have:(cur.toList.take xs.length ++ Lib.strCells s ++ cur.toList.drop (xs.length + s.size))[k]? =cur.toList[k]? :=by
      rw[List.append_assoc,List.getElem?_append_left (by simp;omega),List.getElem?_take,if_pos hk2]
     rw[←Array.getElem?_toList,this,Array.getElem?_toList]
    ·simp only[World.cell?,setRow_other w g b _ hgb]
   ·intro b cs T f q
    by_cases hgb:b=g
    ·subst hgb;rw[hgh]at q;injection q with q;injection q with q1 q2 q3;subst q1;subst q2
     exact⟨_,_,setRow_heap w b cur _ e _ hgh,by simp[hsl];omega⟩
    ·exact⟨cs,f,by rw[setRow_other w g b _ hgb];exact q,rfl⟩
  ·have holds:∀j u,vals[j]? =some u→w.cell? ((⟨g,0,none⟩:Addr).add j)=some u:=hown.cells (g:=g) rfl;have hr0:=Lib.run_append_grow_string (P:=P) w t t' ty e i zv hu hu' hi1 hi4 ⟨g,0,none⟩ xs.length cap vals (by rw[hi2];simpa using hvl) holds s (by omega) (by omega) (by rw[hi3];exact growslice_fits (by omega) (by omega));have hgr:=new cap (by omega) (Value.ownBlock (.slice (some ⟨g,0,none⟩) xs.length cap));exact⟨_,_,_,hr0,hgr.1,hone,hrep,hval,hgr.2,.inr (.inr rfl),stabNew _,fun q=>by simp[Value.ownBlock]at q,keepNew _⟩
end Go.Proofs.Dm
namespace Go.Proofs.Dm
open Go Go.RowKit
theorem Rel.appended {C w0 h0 ow0 r0 n s a w h ow ρ} (r:Rel C w0 h0 ow0 r0 n s a w h ow ρ) (own? :Option Tmp) (d:Nat) (hd:d < n) {v v':Value} {w':World} {e z:Nat} {xs':List (List PD)} {vals':List Value}
  (hvo:∀g,v.ownBlock=some g→∃ts,own? =some ts∧ow g=some (.tmp [ts])) (hgrow:w.grownBy w' v.ownBlock)
  (stab:∀b i,i < h b→w'.cell? ⟨b,i,none⟩=w.cell? ⟨b,i,none⟩)
  (ksz:∀(b:Nat) (cs:Array Value) (T:TypeId) (f:Nat×Nat),w.heap[b]? =some (.cells cs T f)→∃cs' f',w'.heap[b]? =some (.cells cs' T f')∧cs'.size=cs.size) (h0z:0 < z) (hown:w'.ownsRow 0 e z v' xs'.length vals') (hx:∀x∈xs',x.length=z)
  (hr:RepRows w h xs' (fun j=>vals'[j]?)) (h1:∀u∈vals',u.oneCell'=true) (hat:v'.ownBlock=none∨v'.ownBlock=v.ownBlock∨v'.ownBlock=some w.heap.size)
  (hle:∀g,v'.ownBlock=some g→h g≤xs'.length * z):
  Rel C w0 h0 ow0 r0 n ((s.put own? .un).put (some d) (.own e z xs')) (a.put (some d) v') w' (fun b=>if v'.ownBlock=some b then xs'.length * z else h b)
   (fun b=>if v'.ownBlock=some b then some (.tmp [d])else ow b) ρ:=by
 have hd':d < a.tmps.size:=by rw[r.size];exact hd
 have hst:Stable w h w' (fun b=>if v'.ownBlock=some b then xs'.length * z else h b):=⟨fun b=>by
  show h b≤if _ then _ else _;split
  ·rename_i q;exact hle b q
  ·exact Nat.le_refl _,stab,ksz⟩
 have hnew:∀g,v'.ownBlock=some g→g < w'.heap.size:=by
  intro g hg;rcases hown.2 with ⟨rfl,_⟩ | ⟨g',cap,cur,rfl,_,hh,_⟩
  ·simp[Value.ownBlock]at hg
  ·have:g'=g:=by simpa [Value.ownBlock]using hg
   subst this;exact(Array.getElem?_eq_some_iff.1 hh).1
 have hO : ∀ (P Q : Nat → List Nat → Prop), (∀ g p, P g p → ow g ≠ none ∧ v.ownBlock ≠ some g) → (∀ g p, P g p → Q g p) →
     ∀g p,P g p→w'.heap[g]? =w.heap[g]? ∧(if v'.ownBlock=some g then xs'.length * z else h g)=h g∧((v'.ownBlock≠some g)∧Q g p):=by
   intro P Q q1 q2 g p hp
   obtain⟨k1,k2⟩:=q1 g p hp
   have hlt:=r.hr.lt g k1
   have hne:v'.ownBlock≠some g:=by
     intro e
     rcases hat with q | q | q
     · rw[q]at e;cases e
     · rw[q]at e;exact k2 e
     · rw[q]at e;injection e with e;omega
   exact⟨hgrow.block g hlt (fun e=>k2 e.symm),by rw[if_neg hne],hne,q2 g p hp⟩
 have hfr:Fr w h ow w' (fun b=>if v'.ownBlock=some b then xs'.length * z else h b) (fun b=>if v'.ownBlock=some b then some (.tmp [d])else ow b):=
  ⟨hst,hgrow.size,hgrow.os,hgrow.tape,hgrow.output,fun b hb ho=>by
   have k2:v.ownBlock≠some b:=fun e=>by
    obtain⟨ts,_,q⟩:=hvo b e;rw[ho]at q;cases q
   have hne:v'.ownBlock≠some b:=by
    intro e;rcases hat with q | q | q
    ·rw[q]at e;cases e
    ·rw[q]at e;exact k2 e
    ·rw[q]at e;injection e with e;omega
   exact⟨hgrow.block b hb (fun e=>k2 e.symm),by rw[if_neg hne],by rw[if_neg hne];exact ho⟩⟩
 refine⟨r.glob.fr hfr,r.fr.trans hfr,⟨?_,fun i bx b g1 g2 hne=> ?_,fun g hg=> ?_,fun b hb=> ?_⟩,r.defers,by simpa [Act.put]using r.size,fun i=> ?_,fun i hi=> ?_,r.pre⟩
 ·cases own? <;> simp[St.put,r.hr.len]
 ·have g1:s.hp[i]? =some bx:=by cases own? <;> simpa [St.put]using g1
  obtain⟨p1,p2,cs,T,hh,hl0,hrr⟩:=r.hr.box i bx b g1 g2 hne;have hnv:v.ownBlock≠some b:=fun e=>by
   obtain⟨ts,_,q⟩:=hvo b e;rw[p1]at q;cases q
  have hb:=hO (fun g _=>g=b) (fun _ _=>True) (fun g p e=>by rw[e,p1];exact⟨by simp,hnv⟩) (fun _ _ _=>trivial) b [] rfl;refine⟨by rw[if_neg hb.2.2.1];exact p1,by rw[if_neg hb.2.2.1];exact p2,cs,T,by rw[hb.1];exact hh,hl0,?_⟩;refine RepDs.step hst (fun _ _ h=>h) bx _ _ 0 _ (fun g p ho=> ?_) hrr;have:=hO (fun g p=>ow g=some (.cell (i::p))) (fun g p=>ow g=some (.cell (i::p))) (fun g p e=>⟨by rw[e];simp,fun e'=>by
   obtain⟨ts,_,q⟩:=hvo g e';rw[e]at q;cases q⟩) (fun _ _ h=>h) g p ho
  exact⟨this.1,this.2.1,by rw[if_neg this.2.2.1];exact this.2.2.2⟩
 ·by_cases q:v'.ownBlock=some g
  ·exact hnew g q
  ·rw[if_neg q]at hg;exact Nat.lt_of_lt_of_le (r.hr.lt g hg) hgrow.size
 ·have:v'.ownBlock≠some b:=fun e=>absurd (hnew b e) (Nat.not_lt_of_le hb)
  rw[if_neg this];exact r.hr.hz b (Nat.le_trans hgrow.size hb)
 ·rw[getD_put a d _ i hd'];have hold:RepD w' (fun b=>if v'.ownBlock=some b then xs'.length * z else h b) ρ ((s.put own? .un).tm i) (fun g p=>(if v'.ownBlock=some g then some (.tmp [d])else ow g)=some (.tmp (i::p))) (a.tmps.getD i undef):=by
   have main:(∀ts,own? =some ts→i≠ts)→RepD w' (fun b=>if v'.ownBlock=some b then xs'.length * z else h b) ρ (s.tm i) (fun g p=>(if v'.ownBlock=some g then some (.tmp [d])else ow g)=some (.tmp (i::p))) (a.tmps.getD i undef):=by
    intro hne;refine RepD.step hst (fun _ _ h=>h) _ _ _ _ (fun g p ho=> ?_) (r.tm i);have:=hO (fun g p=>ow g=some (.tmp (i::p))) (fun g p=>ow g=some (.tmp (i::p))) (fun g p e=>⟨by rw[e];simp,fun e'=>by
     obtain⟨ts,q1,q⟩:=hvo g e';rw[e]at q;injection q with q;injection q with q;injection q with q q3
     exact hne ts q1 q⟩) (fun _ _ h=>h) g p ho
    exact⟨this.1,this.2.1,by rw[if_neg this.2.2.1];exact this.2.2.2⟩
   cases own? with
   | none=>exact main (fun ts e=>by cases e)
   | some ts=>
    simp only[St.put]
    by_cases hit:i=ts
    ·rw[if_pos hit];simp only[RepD]
    ·rw[if_neg hit];exact main (fun ts' e=>by injection e with e;subst e;exact hit)
  by_cases hid:i=d
  ·rw[if_pos hid];simp only[St.put];rw[if_pos hid];simp only[RepD];refine⟨vals',h0z,hown,hx,RepRows.mono hst xs' _ _ _ (fun _ _=>rfl) rfl hr,h1,fun g hg=> ?_⟩;simp only[];rw[if_pos hg,if_pos hg];exact⟨rfl,by rw[hid]⟩
  ·rw[if_neg hid];have:((s.put own? .un).put (some d) (.own e z xs')).tm i=(s.put own? .un).tm i:=by simp only[St.put];rw[if_neg hid]
   rw[this];exact hold
 ·have hne:i≠d:=fun e=>by rw[e]at hi;exact absurd hi (Nat.not_le_of_gt hd)
  have:((s.put own? .un).put (some d) (.own e z xs')).tm i=(s.put own? .un).tm i:=by simp only[St.put];rw[if_neg hne]
  rw[this];cases own? with
  | none=>exact r.dom i hi
  | some ts=>
   simp only[St.put];split
   ·rfl
   ·exact r.dom i hi
theorem appendD_ok {C w0 h0 ow0 r0 n o c s s'} (hop:o.op= .call c) (hd:dstOk n o.dst=true) (e:appendD C.P o c s=some s'):StepOK C w0 h0 ow0 r0 n o s s':=by
 intro a w h ow ρ r K Q hK;obtain⟨callee,args,types⟩:=c;unfold appendD at e;split at e
 ·rename_i hc;dsimp only at hc e;subst hc;split at e
  ·rename_i x y t t' ha ht';have ha:args= #[x,y]:=by rw[←Array.toArray_toList (xs:=args),ha]
   have ht':types= #[t,t']:=by rw[←Array.toArray_toList (xs:=types),ht']
   subst ha;subst ht';split at e
   ·rename_i el hts;split at e
    ·rename_i z by_ zv d hz hby hzv hdst;split at e
     ·rename_i xs own? ys hbase hmore;split at e
      ·rename_i hcond;obtain⟨h0z,hzz,hb,hm⟩:=hcond;injection e with e;subst e
       have hy:t=t'→Rep w h (.sl z ys) (a.eval y):=by
        intro htt;unfold appMoreT at hmore;rw[if_pos htt]at hmore;unfold appMore at hmore;split at hmore
        ·rename_i hy;injection hmore with hmore;subst hmore
         have:=evalD_rep r hy;simp only[RepD]at this;simp only[Rep];exact .inl ⟨trivial,none,0,this,fun _=>rfl⟩
        ·rename_i d' _ hy;split at hmore
         ·rename_i z' ys' he;split at hmore
          ·rename_i hzz';injection hmore with hmore;subst hmore;subst hzz'
           exact elems_rep he (evalD_rep r hy)
          ·cases hmore
         ·cases hmore
        ·cases hmore
       have hxo : ∃ vals, w.ownsRow 0 el z (a.eval x) xs.length vals ∧ (∀ q ∈ xs, q.length = z) ∧ RepRows w h xs (fun j => vals[j]?) ∧ (∀ u ∈ vals, u.oneCell' = true) ∧
           (∀g,(a.eval x).ownBlock=some g→h g=xs.length * z)∧(∀g,(a.eval x).ownBlock=some g→∃ts,own? =some ts∧ow g=some (.tmp [ts])):=by
         unfold appBase at hbase
         split at hbase
         · rename_i e' z' xs' hx
           split at hbase
           · rename_i ts
             split at hbase
             · rename_i hez
               obtain⟨rfl,rfl⟩:=hez
               injection hbase with hbase;injection hbase with q1 q2;subst q1;subst q2
               have:=evalD_rep r hx
               simp only[RepD]at this
               obtain⟨vals,k1,k2,k3,k4,k5,k6⟩:=this
               exact⟨vals,k2,k3,k4,k5,fun g hg=>(k6 g hg).1,fun g hg=>⟨ts,rfl,(k6 g hg).2⟩⟩
             · cases hbase
           · cases hbase
         · rename_i hx
           injection hbase with hbase;injection hbase with q1 q2;subst q1;subst q2
           have:=evalD_rep r hx
           simp only[RepD]at this
           rw[this]
           exact⟨[],⟨by simp,.inl ⟨rfl,rfl⟩⟩,by simp,by simp only[RepRows],by simp,by simp[Value.ownBlock],by simp[Value.ownBlock]⟩
         · cases hbase
       obtain⟨vals,k1,k2,k3,k4,k5,k6⟩:=hxo
       obtain ⟨v', w', vals', q1, q2, q3, q4, q5, q6, q7, q8, q9, q10⟩ : ∃ v' w' vals', (Builtin.append_ #[t, t'] o.type #[a.eval x, a.eval y]).run C.P w = .ok v' w' ∧ w'.ownsRow 0 el z v' (xs ++ ys).length vals' ∧ (∀ x ∈ xs ++ ys, x.length = z) ∧ RepRows w h (xs ++ ys) (fun j => vals'[j]?) ∧
           (∀u∈vals',u.oneCell'=true)∧w.grownBy w' (a.eval x).ownBlock∧(v'.ownBlock=none∨v'.ownBlock=(a.eval x).ownBlock∨v'.ownBlock=some w.heap.size)∧
           (∀b i,i < h b→w'.cell? ⟨b,i,none⟩=w.cell? ⟨b,i,none⟩)∧(v'.ownBlock=none→(a.eval x).ownBlock=none)∧
           (∀(b:Nat) (cs:Array Value) (T:TypeId) (f:Nat×Nat),w.heap[b]? =some (.cells cs T f)→∃cs' f',w'.heap[b]? =some (.cells cs' T f')∧cs'.size=cs.size):=by
         by_cases htt:t=t'
         · have hy2:=hy htt
           subst htt
           exact append_core hts hz hby hzv h0z hzz o.type k1 k2 k3 k4 k5 r.hr.hz hy2 hb hm
         · unfold appMoreT at hmore
           rw[if_neg htt]at hmore
           split at hmore
           · rename_i b hyb
             split at hmore
             · rename_i hc2
               obtain⟨c1,rfl,rfl⟩:=hc2
               injection hmore with hmore;subst hmore
               have:=evalD_rep r hyb
               simp only[RepD,Rep]at this
               rw[this]
               exact append_core_str hts c1 hz hby hzv hzz b o.type k1 k2 k3 k4 k5 r.hr.hz hb hm
             · cases hmore
           · cases hmore
       unfold Oper.wp;have hrun:(execOp a.eval o).run C.P w= .ok (.value v') w':=by
        simp[execOp,hop,resolve,invoke,builtin,q1]
       rw[hrun];show K (a.put o.dst v') w';rw[hdst]at hd⊢;refine hK _ _ _ _ _ (r.appended own? d (by simpa [dstOk]using hd) k6 q6 q8 q10 h0z q2 q3 q4 q5 q7 fun g hg=> ?_);rcases q7 with q | q | q
       ·rw[q]at hg;cases hg
       ·rw[q]at hg;rw[k5 g hg];exact Nat.mul_le_mul_right _ (by simp)
       ·rw[q]at hg;injection hg with hg
        rw[r.hr.hz g (by omega)];exact Nat.zero_le _
      ·cases e
     ·cases e
    ·cases e
   ·cases e
  ·cases e
 ·cases e
def pds:List DV→Option (List PD)
 | []=>some []
 | .p x::ds=>(pds ds).map (x::·)
 | .own _ z xs::ds=>(pds ds).map (.sl z xs::·)
 | _=>none
theorem pds_rep {w h ρ}:∀{ds:List DV} {ps:List PD} {O k} {vs:List Value},pds ds=some ps→RepDs w h ρ ds O k vs→RepRow w h ps (fun j=>vs[j]?)∧ps.length=ds.length
 | [],ps,O,k,vs,e,r=>by simp only[pds,Option.some.injEq]at e;subst e;simp[RepRow]
 | d::ds,ps,O,k,vs,e,r=>by
  simp only[RepDs]at r;obtain⟨v,rest,rfl,h1,h2⟩:=r;cases d <;> simp only[pds]at e <;> first
   | (obtain ⟨qs, e1, e2⟩ := Option.map_eq_some_iff.1 e
      subst e2
      obtain⟨i1,i2⟩:=pds_rep e1 h2
      refine⟨?_,by simp[i2]⟩
      simp only[RepRow]
      refine⟨⟨v,by simp,?_⟩,by simpa using i1⟩
      simp only[RepD]at h1
      first | exact h1 | exact h1.freeze)
   | cases e
def rowsD (P:Program) (s:St) (e z:Nat):Nat→List (Nat×Operand)→Option (List (List PD))
 | _,[]=>some []
 | k,(i,x)::rest=>if i=k then(match evalD s x with
  | some v=>match flat v with
   | some cs=>match pds (coerCells P (tcells P e) cs)with
    | some row=>if row.length=z then(rowsD P s e z (k + 1) rest).map (row::·)else none
    | none=>none
   | none=>none
  | none=>none)else none
def ownD (e z:Nat):List (List PD)→DV
 | []=> .mt e z
 | r::rs=> .own e z (r::rs)
theorem ownD_wk (e z:Nat) (rs:List (List PD)):Wk (.own e z rs) (ownD e z rs):=by
 cases rs with
 | nil=>exact .ownmt e z
 | cons r rs=>exact .refl _
def buildSliceD (P:Program) (o:Oper) (t:TypeId) (len:Nat) (parts:List (Nat×Operand)) (s:St):Option St:=
 match tslice P t,o.dst with
 | some e,some d=>match tsz P e,tzero P e with
  | some z,some zv=>match rowsD P s e z 0 parts with
   | some rows=>if rows.length=len∧len * z≤2 ^ 24∧0 < z∧zv.cells.size=z then some (s.put (some d) (ownD e z rows))else none
   | none=>none
  | _,_=>none
 | _,_=>none
theorem foldl_splice:∀(vs:List Value) (k off:Nat) (cells:Array Value),off + k + vs.length≤cells.size→
  ((vs.zipIdx k).foldl (fun(cs:Array Value) (x:Value×Nat)=>cs.setIfInBounds (off + x.2) x.1) cells).toList=cells.toList.take (off + k)++ vs ++ cells.toList.drop (off + k + vs.length)
 | [],k,off,cells,h=>by simp
 | v::vs,k,off,cells,h=>by
  simp only[List.zipIdx_cons,List.foldl_cons,List.length_cons]at h⊢;rw[foldl_splice vs (k + 1) off _ (by simp;omega)];have hlt:off + k < cells.toList.length:=by simp;omega
  simp only[Array.toList_setIfInBounds];rw[List.take_set,List.drop_set];have e1:off +(k + 1)=off + k + 1:=by omega
  rw[e1,List.take_succ_eq_append_getElem hlt,if_pos (by omega)];have e2:(cells.toList.take (off + k)++ [cells.toList[off + k]]).set (off + k) v=cells.toList.take (off + k)++ [v]:=by
   rw[List.set_append_right _ _ (by simp;omega)];simp only[List.length_take];have:off + k - min (off + k) cells.toList.length=0:=by omega
   rw[this];rfl
  rw[e2];simp only[List.append_assoc,List.singleton_append]
  congr 3
  omega
theorem foldl_cells (v:Value) (off:Nat) (cells:Array Value) (h:off + v.cells.size≤cells.size):
  (v.cells.zipIdx.foldl (fun cs (c,j)=>cs.setIfInBounds (off + j) c) cells).toList=cells.toList.take off ++ v.cells.toList ++ cells.toList.drop (off + v.cells.size):=by
 have:=foldl_splice v.cells.toList 0 off cells (by simpa using h);rw[←Array.foldl_toList,Array.toList_zipIdx];simpa using this
theorem rows_fill {C w0 h0 ow0 r0 n s a w h ow ρ} (r:Rel C w0 h0 ow0 r0 n s a w h ow ρ) {e z:Nat}:∀(parts:List (Nat×Operand)) (k:Nat) (rows:List (List PD)) (cells:Array Value),
  rowsD C.P s e z k parts=some rows→cells.size=(k + rows.length)* z→
  ∃vals:List Value,Instr.fill (fun i=>some (i * z,z)) cells (parts.map fun p=>(p.1,a.eval p.2))=some (cells.toList.take (k * z)++ vals).toArray∧
   vals.length=rows.length * z∧(∀x∈rows,x.length=z)∧RepRows w h rows (fun j=>vals[j]?)∧∀u∈vals,u.oneCell'=true
 | [],k,rows,cells,e1,hs=>by
  simp only[rowsD,Option.some.injEq]at e1;subst e1;simp only[List.length_nil,Nat.add_zero]at hs;refine⟨[],?_,by simp,by simp,by simp only[RepRows],by simp⟩;simp only[List.map_nil,Instr.fill,List.append_nil];rw[List.take_of_length_le (by simp[hs]),Array.toArray_toList]
 |(i,x)::rest,k,rows,cells,e1,hs=>by
  simp only[rowsD]at e1;split at e1
  ·rename_i hik;subst hik;split at e1
   ·rename_i v hv;split at e1
    ·rename_i cs hf;split at e1
     ·rename_i row hrow;split at e1
      ·rename_i hrz;obtain⟨rows',h1,h2⟩:=Option.map_eq_some_iff.1 e1;subst h2;obtain⟨O',hr,_⟩:=flat_rep hf (evalD_rep r hv);have hrep:=RepDs.wk (coerCells_wk C.P (tcells C.P e) cs) hr;obtain⟨k1,k2⟩:=pds_rep hrow hrep;have hcl:(a.eval x).cells.size=z:=by
        have:=hrep.length;simp only[Array.length_toList]at this;omega
       simp only[List.length_cons]at hs;have hfit:i * z +(a.eval x).cells.size≤cells.size:=by
        rw[hs,hcl];have:(i + 1)* z≤(i +(rows'.length + 1))* z:=Nat.mul_le_mul_right _ (by omega);rw[Nat.add_mul,Nat.one_mul]at this;exact this
       have hfold:=foldl_cells (a.eval x) (i * z) cells hfit;have hsz:((a.eval x).cells.zipIdx.foldl (fun cs (c,j)=>cs.setIfInBounds (i * z + j) c) cells).size=cells.size:=by
        rw[←Array.length_toList,hfold];simp;omega
       obtain⟨vals,q1,q2,q3,q4,q5⟩:=rows_fill r rest (i + 1) rows' _ h1 (by rw[hsz,hs];congr 1;omega);refine⟨(a.eval x).cells.toList ++ vals,?_,?_,?_,?_,?_⟩
       ·simp only[List.map_cons,Instr.fill];rw[if_neg (by simp[hcl];omega),q1,hfold]
        congr 2
        have:(i + 1)* z=i * z + z:=by rw[Nat.add_mul,Nat.one_mul]
        rw[this,List.take_append_of_le_length (by simp;omega),List.take_of_length_le (by simp;omega),List.append_assoc]
       ·simp only[List.length_append,q2,Array.length_toList,hcl,List.length_cons,Nat.add_mul,Nat.one_mul];omega
       ·intro y hy;rcases List.mem_cons.1 hy with q | q
        ·rw[q];exact hrz
        ·exact q3 y q
       ·simp only[RepRows];refine⟨RepRow.mono (Stable.refl w h) row _ _ row.length (fun j hj=> ?_) (Nat.le_refl _) k1,RepRows.mono (Stable.refl w h) rows' _ _ _ (fun j hj=> ?_) rfl q4⟩
        ·rw[List.getElem?_append_left (by simp;omega)]
        ·rw[List.getElem?_append_right (by simp;omega)]
         congr 1
         simp;omega
       ·intro u hu;rcases List.mem_append.1 hu with q | q
        ·obtain⟨j,hj⟩:=List.mem_iff_getElem?.1 q;have hjl:j < row.length:=by
          have:=(List.getElem?_eq_some_iff.1 hj).1;simp at this;omega
         obtain⟨u',p1,p2⟩:=k1.get j row[j] (List.getElem?_eq_getElem hjl);rw[hj]at p1;injection p1 with p1;subst p1
         exact pd_one p2
        ·exact q5 u q
      ·cases e1
     ·cases e1
    ·cases e1
   ·cases e1
  ·cases e1
end Go.Proofs.Dm
namespace Go.Proofs.Dm
open Go Go.RowKit
def flatP (xs:List (List PD)):List DV:=xs.flatMap fun r=>r.map .p
theorem flatP_cons (x:List PD) (xs:List (List PD)):flatP (x::xs)=x.map .p ++ flatP xs:=rfl
theorem flatP_rep {w h ρ}:∀{xs:List (List PD)} {vs:List Value},(xs.map List.length).sum=vs.length→RepRows w h xs (fun j=>vs[j]?)→∀O k,RepDs w h ρ (flatP xs) O k vs
 | [],vs,hl,r,O,k=>by
  have:vs= []:=List.eq_nil_of_length_eq_zero (by simpa using hl.symm);subst this;simp[flatP,RepDs]
 | x::xs,vs,hl,r,O,k=>by
  simp only[List.map_cons,List.sum_cons]at hl;simp only[RepRows]at r;have h1:RepDs w h ρ (x.map DV.p) O k (vs.take x.length):=by
   refine RepDs.of_get (by simp;omega) fun i d v hd hv=> ?_
   rw[List.getElem?_map]at hd;obtain⟨c,hc,rfl⟩:=Option.map_eq_some_iff.1 hd;obtain⟨u,q1,q2⟩:=r.1.get i c hc;have hi:=(List.getElem?_eq_some_iff.1 hc).1;rw[List.getElem?_take,if_pos hi,q1]at hv;injection hv with hv;subst hv
   simp only[RepD];exact q2
  have h2:=flatP_rep (ρ:=ρ) (xs:=xs) (vs:=vs.drop x.length) (by simp;omega) (RepRows.mono (Stable.refl w h) xs _ _ _ (fun j hj=>by rw[List.getElem?_drop]) rfl r.2) O (k + x.length);rw[flatP_cons];have:=RepDs.append h1 (by simpa using h2)
  rwa [List.take_append_drop]at this
theorem flatP_len:∀{xs:List (List PD)} {z:Nat},(∀x∈xs,x.length=z)→(flatP xs).length=xs.length * z
 | [],z,h=>by simp[flatP]
 | x::xs,z,h=>by
  rw[flatP_cons,List.length_append,List.length_map,h x (by simp),flatP_len (fun y hy=>h y (by simp[hy])),List.length_cons,Nat.add_mul,Nat.one_mul];omega
def killB (hp:List (List DV)):Option Nat→List (List DV)
 | none=>hp
 | some i=>hp.set i []
theorem Rel.arrived {C w0 h0 ow0 r0 n s a w h ow ρ} (r:Rel C w0 h0 ow0 r0 n s a w h ow ρ) (own? :Option Tmp) (old? :Option Nat) (d:Nat) (hd:d < n) (g:Nat) {w':World} {cs:Array Value} {T:TypeId} {box:List DV} {z k:Nat} {v:Value}
  (hg:w.heap.size≤g∨(∃ts,own? =some ts∧ow g=some (.tmp [ts]))∨∃id,old? =some id∧ow g=some (.box id))
  (hgn:∀b,b < w.heap.size→b≠g→w'.heap[b]? =w.heap[b]?) (hsize:w.heap.size≤w'.heap.size) (hgs:g < w'.heap.size) (hos:w'.os=w.os) (htape:w'.tape=w.tape) (hout:w'.output=w.output)
  (hold:∀id,old? =some id→id < s.hp.length)
  (ksz:∀(cs0:Array Value) (T0:TypeId) (f:Nat×Nat),w.heap[g]? =some (.cells cs0 T0 f)→cs0.size=cs.size∧T0=T)
  (hh:w'.heap[g]? =some (.cells cs T (0,0))) (hl:box.length≤cs.size) (hb:∀O k,RepDs w h ρ box O k (cs.toList.take box.length)) (hmark:h g=0)
  (hv:(k=0∧∃a c,v= .slice a 0 c∧(a=none→c=0))∨∃cap,k≤cap∧v= .slice (some ⟨g,0,none⟩) k cap∧cap * z≤cs.size):
  Rel C w0 h0 ow0 r0 n ({(s.put own? .un).put (some d) (.arr s.hp.length 0 z k)with hp:=killB s.hp old? ++ [box]}) (a.put (some d) v) w' h
   (fun b=>if b=g then some (.box ρ.length)else ow b) (ρ ++ [g]):=by
 have hd':d < a.tmps.size:=by rw[r.size];exact hd
 have hst:Stable w h w' h:=⟨fun _=>Nat.le_refl _,fun b i hi=>by
  have hlt:b < w.heap.size:=by
   rcases Nat.lt_or_ge b w.heap.size with q | q
   ·exact q
   ·rw[r.hr.hz b q]at hi;omega
  have hne:b≠g:=fun e=>by rw[e,hmark]at hi;omega
  simp only[World.cell?,hgn b hlt hne],fun b cs0 T0 f0 q=>by
   by_cases hbg:b=g
   ·subst hbg;obtain⟨k1,k2⟩:=ksz cs0 T0 f0 q;exact⟨cs,_,by rw[k2];exact hh,k1.symm⟩
   ·exact⟨cs0,f0,by rw[hgn b (Array.getElem?_eq_some_iff.1 q).1 hbg];exact q,rfl⟩⟩
 have hgow:∀q,ow g=some q→(∃ts,own? =some ts∧q= .tmp [ts])∨∃id,old? =some id∧q= .box id:=by
  intro q hq;rcases hg with e | ⟨ts,e1,e2⟩ | ⟨id,e1,e2⟩
  ·exact absurd (r.hr.lt g (by rw[hq];simp)) (Nat.not_lt_of_le e)
  ·rw[hq]at e2;injection e2 with e2;exact .inl ⟨ts,e1,e2⟩
  ·rw[hq]at e2;injection e2 with e2;exact .inr ⟨id,e1,e2⟩
 have hO : ∀ (P : Nat → List Nat → Prop) (Q : Nat → List Nat → Prop), (∀ q p, P q p → ow q ≠ none ∧ q ≠ g) → (∀ q p, P q p → Q q p) →
     ∀q p,P q p→w'.heap[q]? =w.heap[q]? ∧h q=h q∧(q≠g∧Q q p):=by
   intro P Q h1 h2 q p hp
   obtain⟨k1,k2⟩:=h1 q p hp
   exact⟨hgn q (r.hr.lt q k1) k2,rfl,k2,h2 q p hp⟩
 have hρ:∀(i b:Nat),ρ[i]? =some b→(ρ ++ [g])[i]? =some b:=fun i b hi=>by
  rw[List.getElem?_append_left (List.getElem?_eq_some_iff.1 hi).1];exact hi
 have hfr:Fr w h ow w' h (fun b=>if b=g then some (.box ρ.length)else ow b):=
  ⟨hst,hsize,hos,htape,hout,fun b hb ho=>by
   have hne:b≠g:=by
    intro e;subst e;rcases hg with e | ⟨ts,e1,e2⟩ | ⟨id,e1,e2⟩
    ·omega
    ·rw[ho]at e2;cases e2
    ·rw[ho]at e2;cases e2
   exact⟨hgn b hb hne,rfl,by rw[if_neg hne];exact ho⟩⟩
 have hcellne:∀q i p,ow q=some (.cell (i::p))→q≠g:=by
  intro q i p hq e;subst e;rcases hgow _ hq with ⟨ts,_,e⟩ | ⟨id,_,e⟩ <;> cases e
 refine⟨r.glob.fr hfr,r.fr.trans hfr,⟨?_,fun id bx b h1 h2 hne=> ?_,fun q hq=> ?_,fun b hb=>r.hr.hz b (by omega)⟩,r.defers,by simpa [Act.put]using r.size,fun i=> ?_,fun i hi=> ?_,by obtain⟨ex,hex⟩:=r.pre;exact⟨ex ++ [g],by rw[hex,List.append_assoc]⟩⟩
 ·cases old? <;> simp[killB,r.hr.len]
 ·have hkl:(killB s.hp old?).length=s.hp.length:=by cases old? <;> simp[killB]
  by_cases hid:id < s.hp.length
  ·rw[List.getElem?_append_left (by rw[hkl];exact hid)]at h1;rw[List.getElem?_append_left (by rw[←r.hr.len];exact hid)]at h2;have hnold:old? ≠some id:=by
    intro e;subst e;simp only[killB]at h1;rw[List.getElem?_set_self hid]at h1;injection h1 with h1;exact hne h1.symm
   have h1':s.hp[id]? =some bx:=by
    cases old? with
    | none=>exact h1
    | some j=>
     simp only[killB]at h1;rw[List.getElem?_set_ne (fun e=>hnold (by rw[e]))]at h1;exact h1
   obtain⟨p,q,cs',T',hh',hl',hrr⟩:=r.hr.box id bx b h1' h2 hne;have hbne:b≠g:=by
    intro e;subst e;rcases hgow _ p with ⟨ts,_,e⟩ | ⟨id',e1,e⟩
    ·cases e
    ·injection e with e;subst e;exact hnold e1
   have hblt:=r.hr.lt b (by rw[p];simp);refine⟨by rw[if_neg hbne];exact p,q,cs',T',by rw[hgn b hblt hbne];exact hh',hl',?_⟩;refine RepDs.step hst hρ bx _ _ 0 _ (fun q p ho=> ?_) hrr;have:=hO (fun q p=>ow q=some (.cell (id::p))) (fun q p=>ow q=some (.cell (id::p))) (fun q p ho=>⟨by rw[ho];simp,hcellne q id p ho⟩) (fun _ _ h=>h) q p ho;exact⟨this.1,this.2.1,by rw[if_neg this.2.2.1];exact this.2.2.2⟩
  ·have hid':id=(killB s.hp old?).length:=by
    have:=(List.getElem?_eq_some_iff.1 h1).1;simp at this;omega
   subst hid';simp only[List.getElem?_concat_length,Option.some.injEq]at h1;subst h1;rw[hkl,r.hr.len]at h2;simp only[List.getElem?_concat_length,Option.some.injEq]at h2;subst h2;refine⟨by simp[hkl,r.hr.len],hmark,cs,T,hh,hl,?_⟩;exact RepDs.step hst hρ box (fun _ _=>False) _ 0 _ (fun q p hf=>hf.elim) (hb _ 0)
 ·by_cases hqg:q=g
  ·subst hqg;exact hgs
  ·rw[if_neg hqg]at hq;exact Nat.lt_of_lt_of_le (r.hr.lt q hq) hsize
 ·rw[getD_put a d _ i hd'];have hset:({(s.put own? .un).put (some d) (.arr s.hp.length 0 z k)with hp:=killB s.hp old? ++ [box]}:St).tm i=if i=d then .arr s.hp.length 0 z k else(s.put own? .un).tm i:=by
   simp[St.put]
  rw[hset]
  by_cases hid:i=d
  ·rw[if_pos hid,if_pos hid];simp only[RepD];refine⟨g,by rw[r.hr.len];simp,?_⟩;rcases hv with q | ⟨cap,q1,q2,q3⟩
   ·exact .inl q
   ·exact .inr ⟨cap,cs,T,_,q1,q2,hh,by omega⟩
  ·rw[if_neg hid,if_neg hid];have main:(∀ts,own? =some ts→i≠ts)→RepD w' h (ρ ++ [g]) (s.tm i) (fun q p=>(if q=g then some (.box ρ.length)else ow q)=some (.tmp (i::p))) (a.tmps.getD i undef):=by
    intro hne;refine RepD.step hst hρ _ _ _ _ (fun q p ho=> ?_) (r.tm i);have:=hO (fun q p=>ow q=some (.tmp (i::p))) (fun q p=>ow q=some (.tmp (i::p))) (fun q p ho=>⟨by rw[ho];simp,fun e=>by
     subst e;rcases hgow _ ho with ⟨ts,e1,e⟩ | ⟨id,_,e⟩
     ·injection e with e;injection e with e e3;exact hne ts e1 e
     ·cases e⟩) (fun _ _ h=>h) q p ho
    exact⟨this.1,this.2.1,by rw[if_neg this.2.2.1];exact this.2.2.2⟩
   cases own? with
   | none=>exact main (fun ts e=>by cases e)
   | some ts=>
    simp only[St.put]
    by_cases hit:i=ts
    ·rw[if_pos hit];simp only[RepD]
    ·rw[if_neg hit];exact main (fun ts' e=>by injection e with e;subst e;exact hit)
 ·have hne:i≠d:=fun e=>by rw[e]at hi;exact absurd hi (Nat.not_le_of_gt hd)
  have hset:({(s.put own? .un).put (some d) (.arr s.hp.length 0 z k)with hp:=killB s.hp old? ++ [box]}:St).tm i=(s.put own? .un).tm i:=by
   simp only[St.put];rw[if_neg hne]
  rw[hset];cases own? with
  | none=>exact r.dom i hi
  | some ts=>
   simp only[St.put];split
   ·rfl
   ·exact r.dom i hi
end Go.Proofs.Dm
namespace Go.Proofs.Dm
open Go Go.RowKit
theorem hasOwns_get:∀{ds:List DV},hasOwns ds=false→∀(i:Nat) (d:DV),ds[i]? =some d→hasOwn d=false
 | [],_,i,d,h=>by simp at h
 | d'::ds,hs,0,d,h=>by simp only[hasOwns,Bool.or_eq_false_iff]at hs;simp at h;subst h;exact hs.1
 | d'::ds,hs,i + 1,d,h=>by simp only[hasOwns,Bool.or_eq_false_iff]at hs;exact hasOwns_get hs.2 i d (by simpa using h)
theorem RepDs.free_any {w h ρ ds O k vs} (r:RepDs w h ρ ds O k vs) (hn:hasOwns ds=false) (O':Nat→List Nat→Prop) (k':Nat):RepDs w h ρ ds O' k' vs:=by
 refine RepDs.of_get r.length fun i d v hd hv=> ?_
 obtain⟨v',h1,h2⟩:=r.get i d hd;rw[h1]at hv;injection hv with hv;subst hv
 exact RepD.free _ _ _ _ (hasOwns_get hn i d hd) h2
theorem zeroCells_rep {P t cs} (e:zeroCells P t=some cs):∃zv,tzero P t=some zv∧∀{w h ρ} O,RepDs w h ρ cs O 0 zv.cells.toList:=by
 unfold zeroCells at e;split at e
 ·rename_i z hz;split at e
  ·rename_i d hd;obtain⟨ds,h1,h2⟩:=Option.map_eq_some_iff.1 e;subst h2;refine⟨z,hz,fun{w h ρ} O=>RepDs.wk (coerCells_wk _ _ _) ?_⟩;obtain⟨O',hr,hO'⟩:=flat_rep h1 (constD_rep (w:=w) (h:=h) (ρ:=ρ) (O:=fun _ _=>False) hd);refine RepDs.of_get hr.length fun i d v hd hv=> ?_
   obtain⟨v',q1,q2⟩:=hr.get i d hd;rw[q1]at hv;injection hv with hv;subst hv
   exact q2.rename fun g p ho=>(hO' g (0 + i) p ho).elim
  ·cases e
 ·cases e
theorem zeroCellsT_rep {P t cs} (e:zeroCellsT P t=some cs):∃zv,tzero P t=some zv∧∀{w h ρ} O,RepDs w h ρ cs O 0 zv.cells.toList:=by
 unfold zeroCellsT at e;split at e
 ·rename_i z hz;split at e
  ·rename_i d hd;obtain⟨ds,h1,h2⟩:=Option.map_eq_some_iff.1 e;subst h2;refine⟨z,hz,fun{w h ρ} O=>RepDs.wk (coerT_wk _ _ _) ?_⟩;obtain⟨O',hr,hO'⟩:=flat_rep h1 (constD_rep (w:=w) (h:=h) (ρ:=ρ) (O:=fun _ _=>False) hd);refine RepDs.of_get hr.length fun i d v hd hv=> ?_
   obtain⟨v',q1,q2⟩:=hr.get i d hd;rw[q1]at hv;injection hv with hv;subst hv
   exact q2.rename fun g p ho=>(hO' g (0 + i) p ho).elim
  ·cases e
 ·cases e
def makeSliceD (P:Program) (o:Oper) (t:TypeId) (l c:Operand) (s:St):Option St:=
 match tslice P t,o.dst,evalD s l,evalD s c with
 | some e,some d,some (.p (.int _ n)),some (.p (.int _ n'))=>match tsz P e,tbytes P e,zeroCells P e with
  | some z,some by_,some zc=>if n=n'∧0≤n∧zc.length=z∧0 < z∧by_ * n.toNat≤281474976710656∧n.toNat≤maxLen∧hasOwns zc=false then
    some {s.put (some d) (.arr s.hp.length 0 z n.toNat)with hp:=s.hp ++ [(List.replicate n.toNat zc).flatten]}else none
  | _,_,_=>none
 | _,_,_,_=>none
theorem flat_rep_get {α:Type} (zc:List α) (z:Nat) (hz:zc.length=z):∀(n j:Nat),j < n * z→((List.replicate n zc).flatten)[j]? =zc[j% z]?
 | 0,j,h=>by simp at h
 | n + 1,j,h=>by
  rw[List.replicate_succ,List.flatten_cons]
  by_cases hj:j < z
  ·rw[List.getElem?_append_left (by omega),Nat.mod_eq_of_lt hj]
  ·have h':j - z < n * z:=by rw[Nat.add_mul,Nat.one_mul]at h;omega
   rw[List.getElem?_append_right (by omega),hz,flat_rep_get zc z hz n (j - z) h']
   congr 1
   exact(Nat.mod_eq_sub_mod (by omega)).symm
theorem makeSliceD_ok {C w0 h0 ow0 r0 n o t l c s s'} (hop:o.op= .makeSlice t l c) (hd:dstOk n o.dst=true) (e:makeSliceD C.P o t l c s=some s'):StepOK C w0 h0 ow0 r0 n o s s':=by
 intro a w h ow ρ r K Q hK;unfold makeSliceD at e;split at e
 ·rename_i el d k1 nn k2 nn' hts hdst hl hc;split at e
  ·rename_i z by_ zc hz hby hzc;split at e
   ·rename_i hcond;obtain⟨rfl,h0n,hzl,h0z,hbytes,hmax,hown⟩:=hcond;injection e with e;subst e
    obtain⟨zv,hzv,hzr⟩:=zeroCells_rep hzc;have hl':=evalD_rep r hl;have hc':=evalD_rep r hc;simp only[RepD,Rep]at hl' hc';have hu:=tslice_spec hts;obtain⟨i,hi1,hi2⟩:=Option.map_eq_some_iff.1 hz;obtain⟨i',hi1',hi3⟩:=Option.map_eq_some_iff.1 hby;obtain⟨i'',hi1'',hi4⟩:=Option.bind_eq_some_iff.1 hzv;rw[hi1]at hi1' hi1'';injection hi1' with q;subst q
    injection hi1'' with q;subst q
    obtain⟨w',q1,q2,q3⟩:=run_make_full (P:=C.P) w 0 t el i zv z hu hi1 hi4 hi2 k1 k2 nn.toNat (by rw[hi3];exact hbytes) hmax (Nat.zero_le _);have hnn:((nn.toNat:Nat):Int)=nn:=by omega
    rw[hnn]at q1;have hrun:(execOp a.eval o).run C.P w= .ok (.value (.slice (some ⟨w.heap.size,0,none⟩) nn.toNat nn.toNat)) w':=by
     simp only[execOp,hop,hl',hc',Sem.run_bind,q1,Result.andThen_ok,Sem.run_pure]
    unfold Oper.wp;rw[hrun];show K (a.put o.dst _) _;rw[hdst]at hd⊢;have hzcl:zv.cells.toList.length=z:=by rw[(hzr (w:=w) (h:=h) (ρ:=ρ) (fun _ _=>False)).length,hzl]
    rcases q2.2 with ⟨hbad,_⟩ | ⟨g,cap,cur,hv,_,hh,hnc,hcm,hcs,htake⟩
    ·cases hbad
    injection hv with e1 e2 e3
    injection e1 with e1
    injection e1 with e1
    subst e1;subst e3;have hbl:((List.replicate nn.toNat zc).flatten).length=nn.toNat * z:=by
     simp[List.length_flatten,hzl]
    refine hK _ _ _ _ _ (r.arrived none none d (by simpa [dstOk]using hd) w.heap.size (cs:=cur) (T:=el) (.inl (Nat.le_refl _)) (fun b hb hne=>q3.block b hb (by simp)) q3.size
     (by have:=(Array.getElem?_eq_some_iff.1 hh).1;exact this) q3.os q3.tape q3.output (fun id q=>by cases q) (fun cs0 T0 f0 q=>by have:=(Array.getElem?_eq_some_iff.1 q).1;omega) hh (by rw[hbl,hcs];exact Nat.le_refl _) (fun O k=> ?_) (r.hr.hz _ (Nat.le_refl _)) (.inr ⟨_,Nat.le_refl _,rfl,by rw[hcs];exact Nat.le_refl _⟩))
    rw[hbl,htake];have hml:(madeCells zv.cells (nn.toNat * z)).toList.length=nn.toNat * z:=q2.1;refine RepDs.of_get (by rw[hml,hbl]) fun j dd v hdj hvj=> ?_
    have hj:j < nn.toNat * z:=by rw[←hbl];exact(List.getElem?_eq_some_iff.1 hdj).1
    rw[flat_rep_get zc z hzl _ j hj]at hdj;obtain⟨v',p1,p2⟩:=(hzr (w:=w) (h:=h) (ρ:=ρ) (fun _ _=>False)).get (j% z) dd hdj;have hvj2:(madeCells zv.cells (nn.toNat * z)).toList[j]? =some v:=hvj;have hve:v=v':=by
     have hjm:j% z < zv.cells.size:=by have:=(List.getElem?_eq_some_iff.1 p1).1;simpa using this
     have hsz:zv.cells.size=z:=by simpa using hzcl
     have p1':zv.cells[j% z]? =some v':=by rw[←Array.getElem?_toList];exact p1
     simp only[madeCells]at hvj2;rw[Array.getElem?_toList]at hvj2;simp[Array.getElem?_map,hj,hsz]at hvj2;rw[getElem!_def,p1']at hvj2;exact hvj2.symm
    subst hve;exact RepD.free _ _ _ _ (hasOwns_get hown _ _ hdj) p2
   ·cases e
  ·cases e
 ·cases e
end Go.Proofs.Dm
