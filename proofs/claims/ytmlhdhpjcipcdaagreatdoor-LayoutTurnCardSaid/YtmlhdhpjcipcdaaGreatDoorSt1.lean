/- Part of the proof: what the walked functions compute. No condition. -/
import Derived.Test.YtmlhdhpjcipcdaaGreatDoorYz
import Derived.Test.YtmlhdhpjcipcdaaGreatDoorFhx
namespace Go.Proofs
abbrev aa:=@Bool.false_eq_true
abbrev ae:=@Bool.and_eq_true
abbrev ah:=@List.getElem?_eq_getElem
abbrev ai:=@List.append_assoc
abbrev aj:=@List.mem_singleton
abbrev ak:=@Option.some.injEq
abbrev al:=@Nat.lt_or_ge
abbrev ao:=@List.mem_append
abbrev aq:=@List.getElem?_eq_none
abbrev ar:=@List.getLast?_append
abbrev au:=@Nat.le_refl
abbrev av:=@List.length_cons
abbrev aw:=@List.cons_append
abbrev az:=@List.mem_cons
abbrev aA:=@List.takeWhile_cons
abbrev aB:=@Bool.and_eq_false_iff
abbrev aD:=@Prod.mk.injEq
abbrev aE:=@List.length_append
abbrev aF:=@List.all_eq_true
abbrev aG:=@Bool.or_eq_true
abbrev aH:=@List.getLast?_eq_getElem?
abbrev aI:=@List.drop_eq_nil_of_le
abbrev aK:=@List.drop_eq_getElem_cons
abbrev aL:=@List.length_drop
abbrev aO:=@List.getLast?_singleton
abbrev aP:=@List.nil_append
abbrev aQ:=@List.length_nil
abbrev aS:=@List.getElem?_append_left
abbrev aT:=@Nat.eq_or_lt_of_le
abbrev aU:=@Nat.add_sub_cancel
abbrev aX:=@List.length_singleton
abbrev aY:=@List.cons.injEq
abbrev aZ:=@List.append_nil
abbrev ba:=@Nat.add_sub_cancel_left
abbrev be:=@UInt8.toNat_inj
abbrev bf:=@Bool.eq_iff_iff
abbrev bg:=@List.dropWhile_cons
abbrev bh:=@Nat.le_of_ble_eq_true
abbrev bj:=@List.take_append_drop
abbrev br:=@Nat.zero_le
abbrev bt:=@Nat.eq_zero_or_pos
abbrev bu:=@List.map_append
abbrev bz:=@List.mem_of_getElem?
abbrev bB:=@Option.getD_some
abbrev bC:=@List.getD_eq_getElem?_getD
abbrev bG:=@List.take_succ_cons
abbrev bH:=@List.take_add_one
abbrev bM:=@List.foldl_cons
abbrev bO:=@List.any_eq_true
abbrev bR:=@List.map_cons
abbrev bS:=@Int.toNat_natCast
abbrev bT:=@List.head?_drop
abbrev bV:=@List.getElem?_append_right
abbrev bW:=@List.not_mem_nil
abbrev bX:=@List.concat_eq_append
abbrev bZ:=@List.take_left
abbrev cd:=@List.mem_of_getLast?
abbrev cg:=@List.foldl_append
abbrev ch:=@List.getLast?_cons_cons
abbrev cj:=@List.getElem?_cons_zero
abbrev ck:=@List.getElem?_cons_succ
abbrev cm:=@Bool.true_and
abbrev cu:=@List.drop_drop
abbrev cB:=@Option.map_some
abbrev cC:=@List.head?_cons
abbrev cE:=@List.eq_nil_or_concat
abbrev cF:=@Bool.not_true
abbrev cI:=@List.drop_zero
abbrev cK:=@Bool.and_false
abbrev cM:=@Int.le_refl
abbrev cR:=@List.getElem?_drop
abbrev cS:=@List.append_cancel_left
abbrev cZ:=@List.take_of_length_le
abbrev c7:=@List.map_dropLast
abbrev c8:=@Bool.eq_false_iff
abbrev c9:=@Nat.zero_add
abbrev da:=@List.singleton_append
abbrev dg:=@List.length_take
abbrev dh:=@List.drop_append_of_le_length
abbrev di:=@List.pairwise_append
abbrev dk:=@List.count_le_length
abbrev dm:=@Bool.false_or
abbrev dr:=@List.replicate_succ
abbrev dt:=@List.length_pos_iff
abbrev du:=@List.getElem?_concat_length
abbrev dw:=@List.drop_succ_cons
abbrev dG:=@Nat.add_zero
abbrev dI:=@List.tail_drop
abbrev dJ:=@List.tail_cons
abbrev dK:=@List.getLast?_eq_some_iff
abbrev dO:=@List.getElem?_map
abbrev dV:=@List.any_cons
abbrev dW:=@List.all_cons
abbrev eA:=@Option.getD_none
abbrev eB:=@List.mem_reverse
abbrev eR:=@Option.any_some
abbrev eS:=@List.takeWhile_prefix
abbrev eT:=@List.any_nil
abbrev eU:=@Int.lt_or_le
abbrev eV:=@ByteArray.size_append
abbrev fj:=@List.reverse_reverse
abbrev fy:=@List.take_zero
abbrev fA:=@List.drop_left
abbrev fB:=@Bool.not_false
abbrev fT:=@Nat.add_assoc
abbrev fU:=@Bool.or_false
abbrev iF:=@Nat.sub_self
abbrev iM:=@List.take_append_of_le_length
abbrev iN:=@List.getElem_mem
abbrev iO:=@List.eq_nil_of_length_eq_zero
end Go.Proofs
set_option linter.unusedSimpArgs false
set_option linter.unusedVariables false
set_option maxHeartbeats 4000000
namespace Go.Proofs.Dm
open Go Go.Proofs Go.Proofs.Dm.Sc
namespace Gr
def spl:List UInt8->List (List UInt8)
 | []=> [[]]
 | c::r=>if c=10 then []::spl r else match spl r with
  | h::t=>(c::h)::t
  | []=> [[c]]
theorem dD:∀r:List UInt8,spl r≠ []
 | []=>by simp[spl]
 | c::r=>by
  unfold spl;split
  ·simp
  ·split <;> simp
theorem iW:∀r:List UInt8,(spl r).length=r.count 10 + 1
 | []=>rfl
 | c::r=>by
  have ih:=iW r;unfold spl;split
  ·rename_i h;subst h;simp[ih]
  ·rename_i h;have e:(c::r).count 10=r.count 10:=by rw[List.count_cons];simp[h]
   rw[e];split
   ·rename_i hd tl hr;rw[hr]at ih;simpa using ih
   ·rename_i hr;exact absurd hr (dD r)
theorem jz:∀p:List UInt8,(10:UInt8)∉p->spl p= [p]
 | [],h=>rfl
 | c::r,h=>by
  simp only[az,not_or]at h;unfold spl;rw[if_neg (fun e=>h.1 e.symm),jz r h.2]
theorem eF:∀(p r:List UInt8),(10:UInt8)∉p->spl (p ++ 10::r)=p::spl r
 | [],r,h=>by
  show spl (10::r)=_;rw[spl,if_pos rfl]
 | c::p,r,h=>by
  simp only[az,not_or]at h;show spl (c::(p ++ 10::r))=_;rw[spl,if_neg (fun e=>h.1 e.symm),eF p r h.2]
theorem l7:∀(k:Nat) (s:List UInt8),Lib.count s [10]<=k->Lib.splitK [10] 0 k s=spl s
 | k,s,h=>by
  have e:=Lib.index_one s 10;have hge:=Lib.indexByte_ge s 10;rcases eU (Lib.indexByte s 10) 0 with q | q
  ·have q1:Lib.indexByte s 10= -1:=by omega
   have hno:(10:UInt8)∉s:=by
    intro hm;obtain⟨i,hi⟩:=List.mem_iff_getElem?.1 hm;exact Lib.indexByte_none q1 i hi
   rw[jz s hno];cases k with
   | zero=>rfl
   | succ k=>
    unfold Lib.splitK;rw[e,q1];rfl
  ·obtain⟨i,hi⟩:=Int.eq_ofNat_of_zero_le q;obtain⟨h1,h2⟩:=Lib.indexByte_some hi;have hc:=Lib.count_hit (s:=s) (sub:= [10]) (i:=i) (by simp) (by rw[e,hi]);cases k with
   | zero=>omega
   | succ k=>
    unfold Lib.splitK;have hil:i < s.length:=by
     rcases al i s.length with q | q
     ·exact q
     ·rw[aq q]at h1;cases h1
    have hne:((i:Int)== -1)=false:=by rw[beq_eq_false_iff_ne];omega
    rw[e,hi,hne];simp only[aa,if_false,bS,dG,aX];rw[l7 k _ (by simp only[aX]at hc;omega)];have hs:s=s.take i ++ 10::s.drop (i + 1):=by
     have hd:=aK hil;have hg:s[i]=10:=by
      rw[ah hil]at h1;injection h1
     rw[hg]at hd;rw[<-hd,bj]
    conv=>rhs;rw[hs]
    rw[eF];intro hm;obtain⟨j,hj⟩:=List.mem_iff_getElem?.1 hm;rw[List.getElem?_take]at hj;split at hj
    ·rename_i hji;exact h2 j hji hj
    ·cases hj
termination_by k s _=>k
theorem dZ (s:ByteArray):(Fo.linesP s).map (·.data.toList)=spl s.data.toList:=by
 unfold Fo.linesP;rw[Lib.splitB_data];exact l7 _ _ (au _)
theorem j7:∀(a b:List ByteArray),a.map (·.data.toList)=b.map (·.data.toList)->a=b
 | [],[],h=>rfl
 | [],_::_,h=>by simp at h
 | _::_,[],h=>by simp at h
 | x::a,y::b,h=>by
  simp only[bR,aY]at h;rw[ba_ext h.1,j7 a b h.2]
theorem gh (s:ByteArray):(Fo.linesP s).length=s.data.toList.count 10 + 1:=by
 have:=congrArg List.length (dZ s);rw[List.length_map,iW]at this;exact this
end Gr
open Fo (isO zeroT LS nlB spB pad trimR)
namespace Rf
structure It where
 tok:Int
 line:Int
 note:ByteArray
 com:Bool
def tk (l:List Tok) (i:Nat):Tok:=(l[i]?).getD zeroT
theorem gj {α:Type} {p:α->Bool}:∀{r:List α},r.dropWhile p= []↔∀x∈r,p x=true
 | []=>by simp
 | c::r=>by
  rw[bg];split
  ·rename_i h;rw[gj];simp[h]
  ·rename_i h;constructor
   ·intro q;cases q
   ·intro q;exact absurd (q c (by simp)) h
def aV (c:Com):It:=⟨c.next,c.line,trimR c.text,true⟩
def aJ (i:Nat) (t:Tok):It:=⟨i,t.line,⟨#[]⟩,false⟩
def a8 (i:Nat):List Com->List Com×List Com
 | []=>([],[])
 | c::cs=>if c.next<=(i:Int)then(c::(a8 i cs).1,(a8 i cs).2)else([],c::cs)
def bQ:List Tok->Nat->List Com->List It
 | [],_,_=> []
 | t::ts,i,cs=>(a8 i cs).1.map aV ++((if t.kind !=6&&t.kind !=7 then [aJ i t]else [])++ bQ ts (i + 1) (a8 i cs).2)
def bc (l:List Tok):Nat->Tok
 | 0=>zeroT
 | n + 1=>if(tk l n).kind==6 then bc l n else tk l n
def atR (l:List Tok):Nat->Nat
 | 0=>0
 | n + 1=>if(tk l n).kind==6 then atR l n else n
def onR (a:Tok):Bool:=a.kind !=6&& !isO a [123]&& !isO a [125]
def bN (l:List Tok) (x:It):Bool:= !x.com&&isO (tk l x.tok.toNat) [125]
def aW (l:List Tok) (x:It):Int:=
 let n:=La.opens (l.take x.tok.toNat)
 let m:=if bN l x then n - 1 else n
 if decide (0 < x.tok)&& !bN l x then(if onR (tk l (x.tok.toNat - 1))then m + 1 else m)else m
def aC (l:List Tok) (b x:It):Bool:=
 if x.com then b.com || b.line !=x.line
 else if b.com then true
 else if isO (bc l x.tok.toNat) [123]then !isO (tk l x.tok.toNat) [125]
 else if(tk l (x.tok.toNat - 1)).kind==6 then true else isO (tk l x.tok.toNat) [125]
def fR (src:List ByteArray):Nat->Nat->Bool
 | 0,_=>false
 | n + 1,k=>if(trimR ((src[k]?).getD ⟨#[]⟩)).toList== []then true else fR src n (k + 1)
def cH (l:List Tok) (src:List ByteArray) (b x:It):Bool:=
 if isO (bc l x.tok.toNat) [123] || bN l x then false else fR src (x.line - 1 - b.line).toNat b.line.toNat
def cA (l:List Tok) (tok:Nat):Bool:=
 let at_:=atR l tok
 Fo.spaceT (if 1<=at_ then tk l (at_ - 1)else zeroT) (tk l at_) (tk l tok)
def cz (l:List Tok) (x:It):ByteArray:=if x.com then x.note else(tk l x.tok.toNat).text
def cO (l:List Tok) (src:List ByteArray):Option It->It->ByteArray
 | none,x=>pad (aW l x).toNat
 | some b,x=>if aC l b x then(if cH l src b x then nlB ++ nlB else nlB)++ pad (aW l x).toNat
  else if x.com then spB else if cA l x.tok.toNat then spB else⟨#[]⟩
def cY (l:List Tok) (src:List ByteArray):Option It->List It->ByteArray->ByteArray
 | _,[],o=>o
 | p,x::xs,o=>cY l src (some x) xs (o ++ cO l src p x ++ cz l x)
def fQ (l:List Tok) (cs:List Com) (src:List ByteArray):ByteArray:=cY l src none (bQ l 0 cs) ⟨#[]⟩ ++ nlB
theorem l6:∀(r:List UInt8),∀p∈Gr.spl r,p.length<=r.length
 | [],p,h=>by
  simp only[Gr.spl,aj]at h;subst h;exact au _
 | c::r,p,h=>by
  have ih:=l6 r;unfold Gr.spl at h;split at h
  ·simp only[az]at h;rcases h with rfl | h
   ·exact br _
   ·have:=ih p h;simp only[av];omega
  ·split at h
   ·rename_i hd tl hr;simp only[az]at h;rcases h with rfl | h
    ·have:=ih hd (by rw[hr];simp);simp only[av];omega
    ·have:=ih p (by rw[hr];simp[h]);simp only[av];omega
   ·simp only[aj]at h;subst h;simp
theorem iC (s:ByteArray):∀x∈Fo.linesP s,x.size<=s.size:=by
 intro x hx;have h1:x.data.toList∈(Fo.linesP s).map (·.data.toList):=List.mem_map_of_mem (f:=fun x:ByteArray=>x.data.toList) hx;rw[Gr.dZ]at h1;have:=l6 _ _ h1;rw[ba_size,ba_size];exact this
end Rf
end Go.Proofs.Dm
namespace Go.Proofs.Dm
open Go Go.Proofs Go.Proofs.Dm.Sc
namespace Gr
variable {α β:Type} {l:List Tok} {P:Nat->Prop}
def ob (l:List Tok) (i:Nat):Int:=La.opens (l.take i)
theorem iV (l:List Tok) (i:Nat):ob l (i + 1)=La.opT (ob l i) (tokAt l i):=by
 unfold ob;cases h:l[i]? with
 | some t=>
  rw[La.opens_take l i t h];simp only[tokAt,h,bB]
 | none=>
  have e:l.take (i + 1)=l.take i:=by rw[bH,h];simp
  rw[e];simp only[tokAt,h,eA];rfl
def nbr (l:List Tok) (i:Nat):Prop:=Fo.isO (tokAt l i) [123]=false/\Fo.isO (tokAt l i) [125]=false
theorem gv {i:Nat} (h:nbr l i):ob l (i + 1)=ob l i:=by
 rw[iV];unfold La.opT;rw[h.1,h.2];rfl
def Bal (l:List Tok) (m:Nat) (a a':Nat):Prop:=a<=a'/\ob l a'=ob l a/\∀i,a<=i->i<=a'->ob l a<=ob l i/\ob l i<=ob l a + m
theorem Bal.refl {m a:Nat}:Bal l m a a:=⟨au _,rfl,fun i h g=>by
 have:i=a:=by omega
 subst this;omega⟩
theorem Bal.trans {m a b c:Nat} (h:Bal l m a b) (g:Bal l m b c):Bal l m a c:=by
 refine⟨Nat.le_trans h.1 g.1,g.2.1.trans h.2.1,fun i h1 h2=> ?_⟩;rcases Nat.le_total i b with q | q
 ·exact h.2.2 i h1 q
 ·have:=g.2.2 i q h2;have:=h.2.1;omega
theorem Bal.mono {m n a b:Nat} (h:Bal l m a b) (hm:m<=n):Bal l n a b:=⟨h.1,h.2.1,fun i h1 h2=>by have:=h.2.2 i h1 h2;omega⟩
theorem Bal.one {m a:Nat} (h:nbr l a):Bal l m a (a + 1):=by
 have e:=gv h;refine⟨by omega,e,fun i h1 h2=> ?_⟩;have:i=a\/i=a + 1:=by omega
 rcases this with rfl | rfl <;> omega
def Br (l:List Tok) (P:Nat->Prop) (s:G α):Prop:=∀d a x a',d<=40->P a->s d a= .ok x a'->Bal l (40 - d) a a'
theorem aN {s:G α} {t:α->G β} {d a:Nat} {x:β} {a':Nat} (h:Gr.bind s t d a= .ok x a'):∃y b,s d a= .ok y b/\t y d b= .ok x a':=by
 unfold Gr.bind at h;cases hs:s d a with
 | ok y b=>rw[hs]at h;exact⟨y,b,rfl,h⟩
 | bad k=>rw[hs]at h;cases h
 | out=>rw[hs]at h;cases h
theorem Br.use {s:G α} (h:Br l Any s):Br l P s:=fun d a x a' hd _ q=>h d a x a' hd True.intro q
theorem Br.bind {s:G α} {t:α->G β} (h:Br l P s) (ht:∀x,Br l Any (t x)):Br l P (Gr.bind s t):=by
 intro d a x a' hd hp q;obtain⟨y,b,h1,h2⟩:=aN q;exact(h d a y b hd hp h1).trans (ht y d b x a' hd True.intro h2)
theorem cn {d a:Nat} {x:Int} {a':Nat} (h:adv l d a= .ok x a'):a'=a + 1/\(tokAt l a).kind≠7:=by
 unfold adv at h;split at h
 ·cases h
 ·rename_i q;cases h;exact⟨rfl,by simpa using q⟩
theorem Br.adv {t:Int->G β} (hp:∀a,P a->nbr l a) (ht:∀x,Br l Any (t x)):Br l P (Gr.bind (adv l) t):=Br.bind (fun d a x a' hd h q=>by
 obtain⟨rfl,_⟩:=cn q;exact Bal.one (hp a h)) ht
theorem gY {i:Nat} (h:(tokAt l i).kind≠4):nbr l i:=by
 have:((tokAt l i).kind==4)=false:=by simpa using h
 exact⟨by unfold Fo.isO;rw[this];rfl,by unfold Fo.isO;rw[this];rfl⟩
theorem jy {i:Nat} (h1:(tokAt l i).text.toList≠ [123]) (h2:(tokAt l i).text.toList≠ [125]):nbr l i:=by
 have e1:((tokAt l i).text.toList== [123])=false:=by simpa using h1
 have e2:((tokAt l i).text.toList== [125])=false:=by simpa using h2
 exact⟨by unfold Fo.isO;rw[e1,cK],by unfold Fo.isO;rw[e2,cK]⟩
theorem cV {i:Nat} {s:ByteArray} (h:Pp.word (tokAt l i) s=true) (h1:s.data.toList≠ [123]) (h2:s.data.toList≠ [125]):nbr l i:=by
 unfold Pp.word at h;rw[<-Lib.toList_data]at h1 h2;rw[ae,beq_iff_eq]at h;exact jy (by rw[h.2];exact h1) (by rw[h.2];exact h2)
theorem eX {k:Int} {d a:Nat} {x:Int} {a':Nat} (h:kindG l k d a= .ok x a'):a'=a + 1/\(tokAt l a).kind=k:=by
 unfold kindG at h;split at h
 ·rename_i q;split at h
  ·cases h
  ·cases h;exact⟨rfl,by simpa using q⟩
 ·cases h
theorem want_ok {s:ByteArray} {d a:Nat} {x:Int} {a':Nat} (h:wantG l s d a= .ok x a'):a'=a + 1/\Pp.word (tokAt l a) s=true:=by
 unfold wantG at h;split at h
 ·rename_i q;cases h;exact⟨rfl,q⟩
 ·cases h
theorem Br.kind {k:Int} {t:Int->G β} (hk:k≠4) (ht:∀x,Br l Any (t x)):Br l P (Gr.bind (kindG l k) t):=Br.bind (fun d a x a' hd h q=>by
 obtain⟨rfl,hk'⟩:=eX q;exact Bal.one (gY (by rw[hk'];exact hk))) ht
theorem Br.want {s:ByteArray} {t:Int->G β} (h1:s.data.toList≠ [123]) (h2:s.data.toList≠ [125]) (ht:∀x,Br l Any (t x)):Br l P (Gr.bind (wantG l s) t):=Br.bind (fun d a x a' hd h q=>by
 obtain⟨rfl,hk'⟩:=want_ok q;exact Bal.one (cV hk' h1 h2)) ht
def PW (l:List Tok) (s:ByteArray) (a:Nat):Prop:=Pp.word (tokAt l a) s=true
theorem Br.isI {s:ByteArray} {A B:G β} (h1:Br l (PW l s) A) (h2:Br l P B):Br l P (Gr.bind (isG l s) fun b=>Gr.ite b A B):=by
 intro d a x a' hd hp q;unfold Gr.bind isG at q;dsimp only[Res.andThen]at q;unfold Gr.ite at q;split at q
 ·rename_i hw;exact h1 d a x a' hd hw q
 ·exact h2 d a x a' hd hp q
def PL (l:List Tok) (P:Nat->Prop) (k:Nat) (t:Tok) (a:Nat):Prop:=P a/\tokAt l (a + k)=t
theorem Br.look {k:Nat} {t:Tok->G β} (ht:∀x,Br l (PL l P k x) (t x)):Br l P (Gr.bind (Gr.look l k) t):=fun d a x a' hd hp q=>ht _ d a x a' hd ⟨hp,rfl⟩ q
theorem Br.here {t:Int->G β} (ht:∀x,Br l P (t x)):Br l P (Gr.bind Gr.here t):=fun d a x a' hd hp q=>ht _ d a x a' hd hp q
theorem jT:∀(n d a:Nat) (x:Unit) (a' m:Nat),semisG l n d a= .ok x a'->Bal l m a a'
 | 0,d,a,x,a',m,h=>by cases h
 | n + 1,d,a,x,a',m,h=>by
  unfold semisG at h;split at h
  ·rename_i hk;exact(Bal.one (gY (by rw[beq_iff_eq]at hk;omega))).trans (jT n d (a + 1) x a' m h)
  ·cases h;exact Bal.refl
theorem Br.semis {n:Nat} {t:Unit->G β} (ht:∀x,Br l Any (t x)):Br l P (Gr.bind (semisG l n) t):=Br.bind (fun d a x a' hd h q=>jT n d a x a' _ q) ht
theorem Br.iteP {c:Bool} {s t:G α} (h1:c=true->Br l P s) (h2:c=false->Br l P t):Br l P (Gr.ite c s t):=by
 cases c
 ·exact h2 rfl
 ·exact h1 rfl
theorem Br.pure {x:α}:Br l P (Gr.pure x):=fun d a y a' hd hp q=>by
 unfold Gr.pure at q;cases q;exact Bal.refl
theorem Br.fail:Br l P (Gr.fail:G α):=fun d a y a' hd hp q=>by cases q
theorem Br.stop:Br l P (Gr.stop:G α):=fun d a y a' hd hp q=>by cases q
theorem Br.nest {s:G α} (h:Br l P s):Br l P (Gr.nest s):=fun d a y a' hd hp q=>by
 unfold Gr.nest at q;split at q
 ·cases q
 ·exact(h (d + 1) a y a' (by omega) hp q).mono (by omega)
theorem Br.fi {Q R:Nat->Prop} {t:Int->Int->G β} (hp:∀a,P a->nbr l a/\nbr l (a + 1)) (ht:∀x y,Br l Any (t x y)):Br l P (Gr.bind (Gr.adv l) fun x=>Gr.bind (Gr.adv l) fun y=>t x y):=by
 intro d a x a' hd h q;obtain⟨y,b,h1,h2⟩:=aN q;obtain⟨z,c,h3,h4⟩:=aN h2;obtain⟨rfl,_⟩:=cn h1;obtain⟨rfl,_⟩:=cn h3;exact((Bal.one (hp a h).1).trans (Bal.one (hp a h).2)).trans (ht _ _ d _ x a' hd True.intro h4)
theorem iA {t:Tok} {b:UInt8} (hk:t.kind=5->isIn keys t.text=true) (hb:b=123\/b=125) (h:Pp.word t ⟨#[b]⟩=true):Fo.isO t [b]=true:=by
 unfold Pp.word at h;rw[ae,aG,beq_iff_eq,beq_iff_eq,beq_iff_eq]at h;have e:t.text.toList= [b]:=by rw[h.2,Lib.toList_data]
 rcases h.1 with q | q
 ·unfold Fo.isO;rw[q,e];simp
 ·exfalso
  have h1:=hk q;simp only[isIn,bO,eqB,beq_iff_eq]at h1;obtain⟨x,hx,he⟩:=h1;rw[e]at he;have h2:keys.all (fun x=> !(x.toList== [123])&& !(x.toList== [125]))=true:=by kernel_rfl
  have h3:=aF.1 h2 x hx;rw[<-he]at h3;rcases hb with rfl | rfl <;> simp at h3
def KTs (l:List Tok):Prop:=∀i,(tokAt l i).kind=5->isIn keys (tokAt l i).text=true
theorem jS {S:GN} (hS:Br l Any S) {N:Nat}:∀(n:Nat) (ks:List Nd),Br l Any (curlyLG l S N n ks)
 | 0,ks=>Br.stop
 | n + 1,ks=>Br.isI Br.pure (Br.bind hS fun x=>Br.isI (Br.use (jS hS n _)) (Br.kind (by decide) fun _=>Br.semis fun _=>jS hS n _))
theorem lJ (hK:KTs l) {S:GN} (hS:Br l Any S) {N:Nat}:Br l Any (curlyG l S N):=by
 intro d a x a' hd _ q;unfold curlyG at q;obtain⟨b0,c0,h0,q⟩:=aN q;unfold isG at h0;cases h0;unfold Gr.ite at q;split at q
 rotate_left
 ·cases q
 rename_i hw;unfold Gr.nest at q;split at q
 ·cases q
 rename_i hd2;obtain⟨y,b,h1,h2⟩:=aN q;obtain⟨rfl,_⟩:=cn h1;obtain⟨z,c,h3,h4⟩:=aN h2;obtain⟨ks,e,h5,h6⟩:=aN h4;obtain⟨w,f,h7,h8⟩:=aN h6;obtain⟨rfl,hw2⟩:=want_ok h7;unfold Gr.pure at h8;cases h8;have B:=(jT N (d + 1) (a + 1) z c (40 -(d + 1)) h3).trans (jS hS N [] (d + 1) c ks e (by omega) True.intro h5);have o1:=iA (hK a) (.inl rfl) hw;have o2:=iA (hK e) (.inr rfl) hw2;have e1:ob l (a + 1)=ob l a + 1:=by rw[iV];unfold La.opT;rw[if_pos o1]
 have n2:Fo.isO (tokAt l e) [123]=false:=by
  unfold Fo.isO at o2|-;rw[ae,beq_iff_eq,beq_iff_eq]at o2;rw[o2.2,aB];right;decide
 have e2:ob l (e + 1)=ob l e - 1:=by rw[iV];unfold La.opT;rw[if_neg (by rw[n2];decide),if_pos o2]
 refine⟨by have:=B.1;omega,by have:=B.2.1;omega,fun i g1 g2=> ?_⟩;rcases al i (a + 1)with q1 | q1
 ·have:i=a:=by omega
  subst this;omega
 ·rcases al e i with q2 | q2
  ·have:i=e + 1:=by omega
   subst this;have:=B.2.1;omega
  ·have:=B.2.2 i q1 q2;omega
theorem eQ:Br l P (typG l):=Br.kind (by decide) fun _=>Br.isI (Br.adv (fun a h=>cV h (by decide) (by decide)) fun _=>Br.kind (by decide) fun _=>Br.pure) Br.pure
theorem mA {E:GN} (hE:Br l Any E):Br l (PW l ⟨#[118,97,114]⟩) (variableG l E):=Br.adv (fun a h=>cV h (by decide) (by decide)) fun _=>Br.kind (by decide) fun _=>Br.bind eQ fun _=>Br.isI (Br.adv (fun a h=>cV h (by decide) (by decide)) fun _=>Br.bind hE fun _=>Br.pure) Br.pure
theorem mz {E:GN} (hE:Br l Any E):Br l (PW l ⟨#[99,111,110,115,116]⟩) (constantG l E):=Br.adv (fun a h=>cV h (by decide) (by decide)) fun _=>Br.kind (by decide) fun _=>Br.want (by decide) (by decide) fun _=>Br.bind hE fun _=>Br.pure
theorem oJ (hK:KTs l) {S:GN} (hS:Br l Any S) {N:Nat}:Br l Any (blockG l S N):=Br.bind (lJ hK hS) fun _=>Br.pure
theorem qn (hK:KTs l) {N:Nat}:Br l (PW l ⟨#[116,121,112,101]⟩) (structureG l N):=Br.adv (fun a h=>cV h (by decide) (by decide)) fun _=>Br.kind (by decide) fun _=>Br.want (by decide) (by decide) fun _=>Br.bind (lJ hK (Br.kind (by decide) fun _=>Br.bind eQ fun _=>Br.pure)) fun _=>Br.pure
theorem jx:∀(n:Nat) (ks:List Nd),Br l Any (funcLG l n ks)
 | 0,ks=>Br.stop
 | n + 1,ks=>Br.isI Br.pure (Br.kind (by decide) fun _=>Br.bind eQ fun _=>Br.isI (Br.use (jx n _)) (Br.want (by decide) (by decide) fun _=>Br.isI Br.fail (jx n _)))
theorem qi {C:GN} (hC:Br l Any C) {N:Nat}:Br l (PW l ⟨#[102,117,110,99]⟩) (functionG l C N):=Br.adv (fun a h=>cV h (by decide) (by decide)) fun _=>Br.kind (by decide) fun _=>Br.want (by decide) (by decide) fun _=>Br.bind (jx N []) fun _=>Br.want (by decide) (by decide) fun _=>
 Br.look fun _=>Br.iteP (fun _=>Br.bind eQ fun _=>Br.bind hC fun _=>Br.pure) (fun _=>Br.bind (Br.use hC) fun _=>Br.pure)
theorem PL.fP {k:Int} {t:Tok} {a:Nat} (hk:k≠4) (hc:(t.kind==k)=true) (h:PL l P 0 t a):nbr l a:=by
 have e:tokAt l a=t:=h.2;rw[beq_iff_eq]at hc;exact gY (by rw[e,hc];exact hk)
theorem lI {w:ByteArray} (h1:w.data.toList≠ [123]) (h2:w.data.toList≠ [125]) (k:Int):Br l (PW l w) (leaveG l k):=Br.adv (fun a h=>cV h h1 h2) fun _=>Br.look fun _=>Br.iteP (fun hc=>Br.adv (fun a h=>PL.fP (by decide) hc h) fun _=>Br.pure) (fun _=>Br.pure)
theorem pP {E C R:GN} (hE:Br l Any E) (hC:Br l Any C) (hR:Br l (PW l ⟨#[105,102]⟩) R):Br l (PW l ⟨#[105,102]⟩) (branchG l E C R):=Br.adv (fun a h=>cV h (by decide) (by decide)) fun _=>Br.bind hE fun _=>Br.bind hC fun _=>
 Br.isI (Br.adv (fun a h=>cV h (by decide) (by decide)) fun _=>Br.isI (Br.bind (Br.nest hR) fun _=>Br.pure) (Br.bind hC fun _=>Br.pure)) Br.pure
theorem kL {E C:GN} (hE:Br l Any E) (hC:Br l Any C):Br l (PW l ⟨#[102,111,114]⟩) (loopG l E C):=Br.adv (fun a h=>cV h (by decide) (by decide)) fun _=>Br.bind hE fun _=>Br.bind hC fun _=>Br.pure
theorem nD {E:GN} (hE:Br l Any E):Br l (PW l ⟨#[114,101,116,117,114,110]⟩) (backG l E):=Br.adv (fun a h=>cV h (by decide) (by decide)) fun _=>Br.look fun _=>Br.iteP (fun _=>Br.pure) (fun _=>Br.isI Br.pure (Br.bind (Br.use hE) fun _=>Br.pure))
theorem kK {E:GN} (hE:Br l Any E):Br l P (restG l E):=Br.here fun _=>Br.bind (Br.use hE) fun _=>Br.isI (Br.adv (fun a h=>cV h (by decide) (by decide)) fun _=>Br.bind hE fun _=>Br.pure) Br.pure
theorem pO {E L:GN} (hE:Br l Any E) (hL:Br l (PW l ⟨#[102,111,114]⟩) L):Br l P (simpleG l E L):=Br.look fun t=>Br.iteP (fun hc=>Br.look fun n=>Br.iteP
  (fun hw=>Br.fi (Q:=Any) (R:=Any) (fun a h=>⟨PL.fP (by decide) hc h.1,cV (by rw[h.2];exact hw) (by decide) (by decide)⟩) fun _ _=>Br.bind hE fun _=>Br.pure)
  (fun _=>Br.iteP (fun hw=>Br.fi (Q:=Any) (R:=Any) (fun a h=>⟨PL.fP (by decide) hc h.1,cV (by rw[h.2];exact hw) (by decide) (by decide)⟩) fun _ _=>Br.isI (Br.bind hL fun _=>Br.pure) Br.fail) (fun _=>kK hE)))
 (fun _=>kK hE)
theorem nC {V C K I L R M:GN} (hV:Br l (PW l ⟨#[118,97,114]⟩) V) (hC:Br l (PW l ⟨#[99,111,110,115,116]⟩) C) (hK:Br l Any K) (hI:Br l (PW l ⟨#[105,102]⟩) I) (hL:Br l (PW l ⟨#[102,111,114]⟩) L) (hR:Br l (PW l ⟨#[114,101,116,117,114,110]⟩) R) (hM:Br l Any M):Br l Any (stmtG l V C K I L R M):=
 Br.isI hV (Br.isI hC (Br.isI (Br.use hK) (Br.isI hI (Br.isI hL (Br.isI hR (Br.isI (lI (by decide) (by decide) 17) (Br.isI (lI (by decide) (by decide) 18) hM)))))))
theorem nB {V C S F:GN} (hV:Br l (PW l ⟨#[118,97,114]⟩) V) (hC:Br l (PW l ⟨#[99,111,110,115,116]⟩) C) (hS:Br l (PW l ⟨#[116,121,112,101]⟩) S) (hF:Br l (PW l ⟨#[102,117,110,99]⟩) F):Br l Any (declG l V C S F):=
 Br.isI hV (Br.isI hC (Br.isI hS (Br.isI hF Br.fail)))
theorem mm {s:ByteArray} (h:s.toList= [123]\/s.toList= [125]):Pp.rank s=0:=by
 unfold Pp.rank;rcases h with h | h <;> rw[h] <;> rfl
theorem ml {Y:Int->GN} (hY:∀r,Br l Any (Y r)):∀(n:Nat) (rk:Int) (x:Nd),Br l Any (binaryLG l Y n rk x)
 | 0,rk,x=>Br.stop
 | n + 1,rk,x=>Br.look fun t=>Br.iteP (fun _=>Br.pure) fun _=>Br.iteP (fun _=>Br.pure) fun _=>Br.iteP (fun _=>Br.pure) fun hr=>Br.adv (fun a h=>by
   have e:tokAt l a=t:=h.2;have hr':Pp.rank t.text≠0:=by simpa using hr
   exact jy (fun q=>hr' (mm (.inl (by rw[<-e];exact q)))) (fun q=>hr' (mm (.inr (by rw[<-e];exact q)))))
  fun _=>Br.bind (hY _) fun _=>ml hY n rk _
theorem pN {U:GN} {Y:Int->GN} (hU:Br l Any U) (hY:∀r,Br l Any (Y r)) {N:Nat} (rk:Int):Br l Any (binaryG l U Y N rk):=Br.bind hU fun x=>ml hY N rk x
theorem oI {U F:GN} (hU:Br l Any U) (hF:Br l Any F):Br l Any (unaryG l U F):=Br.look fun t=>Br.iteP (fun _=>Br.use hF) fun _=>Br.iteP (fun hu=>Br.nest (Br.adv (fun a h=>by
 have e:tokAt l a=t:=h.2;unfold Pp.unaryS at hu;rw[aG,beq_iff_eq,beq_iff_eq]at hu;exact jy (by rw[e];rcases hu with q | q <;> rw[q] <;> decide) (by rw[e];rcases hu with q | q <;> rw[q] <;> decide)) fun _=>Br.bind hU fun _=>Br.pure)) fun _=>Br.use hF
theorem oH {E:GN} (hE:Br l Any E):Br l Any (firstG l E):=Br.look fun t=>Br.iteP (fun hc=>Br.adv (fun a h=>PL.fP (by decide) hc h) fun _=>Br.pure) fun _=>Br.iteP (fun hc=>Br.adv (fun a h=>PL.fP (by decide) hc h) fun _=>Br.pure) fun _=>
 Br.iteP (fun hc=>Br.adv (fun a h=>PL.fP (by decide) hc h) fun _=>Br.pure) fun _=>Br.isI (Br.nest (Br.adv (fun a h=>cV h (by decide) (by decide)) fun _=>Br.bind hE fun _=>Br.want (by decide) (by decide) fun _=>Br.pure)) Br.fail
theorem jw {K:Nd->GN} (hK:∀x,Br l (PW l ⟨#[40]⟩) (K x)):∀(n:Nat) (x:Nd),Br l Any (primLG l K n x)
 | 0,x=>Br.stop
 | n + 1,x=>Br.isI (Br.bind (hK x) fun y=>jw hK n y) (Br.isI (Br.adv (fun a h=>cV h (by decide) (by decide)) fun _=>Br.kind (by decide) fun _=>jw hK n _) Br.pure)
theorem jv {E:GN} (hE:Br l Any E):∀(n:Nat) (ks:List Nd),Br l Any (callLG l E n ks)
 | 0,ks=>Br.stop
 | n + 1,ks=>Br.isI Br.pure (Br.bind hE fun _=>Br.isI (Br.use (jv hE n _)) (Br.want (by decide) (by decide) fun _=>Br.isI Br.fail (jv hE n _)))
theorem nA {E:GN} (hE:Br l Any E) {N:Nat} (x:Nd):Br l (PW l ⟨#[40]⟩) (callG l E N x):=Br.nest (Br.adv (fun a h=>cV h (by decide) (by decide)) fun _=>Br.bind (jv hE N [x]) fun _=>Br.want (by decide) (by decide) fun _=>Br.pure)
theorem nz {E:GN} (hE:Br l Any E) {N:Nat}:Br l Any (primG l (firstG l E) (callG l E N) N):=Br.bind (oH hE) fun x=>jw (fun y=>nA hE y) N x
theorem lH {N:Nat}:∀(n:Nat) (ks:List Nd),Br l Any (fileIG l N n ks)
 | 0,ks=>Br.stop
 | n + 1,ks=>Br.isI (Br.adv (fun a h=>cV h (by decide) (by decide)) fun _=>Br.kind (by decide) fun _=>Br.kind (by decide) fun _=>Br.semis fun _=>lH n _) Br.pure
theorem lG {D:GN} (hD:Br l Any D) {N:Nat}:∀(n:Nat) (ks:List Nd),Br l Any (fileDG l D N n ks)
 | 0,ks=>Br.stop
 | n + 1,ks=>Br.look fun t=>Br.iteP (fun _=>Br.bind (Br.use hD) fun _=>Br.kind (by decide) fun _=>Br.semis fun _=>lG hD n _) fun _=>Br.pure
theorem ny {D:GN} (hD:Br l Any D) {N:Nat}:Br l Any (fileG l D N):=Br.want (by decide) (by decide) fun _=>Br.kind (by decide) fun _=>Br.kind (by decide) fun _=>Br.semis fun _=>Br.bind (lH N _) fun _=>Br.bind (lG hD N _) fun _=>Br.pure
structure BrF (l:List Tok) (F:SF):Prop where
 binary:∀r,Br l Any (F.binary r)
 unary:Br l Any F.unary
 block:Br l Any F.block
 branch:Br l (PW l ⟨#[105,102]⟩) F.branch
 stmt:Br l Any F.stmt
theorem iK (hK:KTs l) {N:Nat}:∀n,BrF l (sf l N n)
 | 0=>⟨fun _=>Br.stop,Br.stop,Br.stop,Br.stop,Br.stop⟩
 | n + 1=>by
  have h:=iK hK (N:=N) n;exact⟨fun r=>pN h.unary h.binary r,oI h.unary (nz (h.binary 1)),oJ hK h.stmt,pP (h.binary 1) h.block h.branch,
   nC (mA (h.binary 1)) (mz (h.binary 1)) h.block h.branch (kL (h.binary 1) h.block) (nD (h.binary 1)) (pO (h.binary 1) (kL (h.binary 1) h.block))⟩
theorem oG (hK:KTs l) {N n:Nat}:Br l Any (fileS l N (sf l N n)):=by
 have h:=iK hK (N:=N) n;exact ny (nB (mA (h.binary 1)) (mz (h.binary 1)) (qn hK) (qi h.block))
theorem mj {D:GN} {N:Nat}:∀(n:Nat) (ks:List Nd) (d a:Nat) (x:List Nd) (a':Nat),fileDG l D N n ks d a= .ok x a'->(tokAt l a').kind=7
 | 0,ks,d,a,x,a',h=>by cases h
 | n + 1,ks,d,a,x,a',h=>by
  unfold fileDG at h;obtain⟨t,b,h1,h2⟩:=aN h;unfold Gr.look at h1;cases h1;unfold Gr.ite at h2;split at h2
  ·obtain⟨_,_,_,h3⟩:=aN h2;obtain⟨_,_,_,h4⟩:=aN h3;obtain⟨_,_,_,h5⟩:=aN h4;exact mj n _ _ _ _ _ h5
  ·rename_i hk;unfold Gr.pure at h2;cases h2;simpa using hk
theorem ik {D:GN} {N d a:Nat} {x:Nd} {a':Nat} (h:fileG l D N d a= .ok x a'):(tokAt l a').kind=7:=by
 unfold fileG at h;obtain⟨_,_,_,h⟩:=aN h;obtain⟨_,_,_,h⟩:=aN h;obtain⟨_,_,_,h⟩:=aN h;obtain⟨_,_,_,h⟩:=aN h;obtain⟨_,_,_,h⟩:=aN h;obtain⟨ks,b,h1,h⟩:=aN h;have:=mj N _ _ _ _ _ h1;unfold Gr.pure at h;cases h;exact this
end Gr
end Go.Proofs.Dm
namespace Go.Proofs.Dm
open Go Go.Proofs Go.Proofs.Dm.Sc
namespace Gr
theorem gX {s:ByteArray} {I:SS->Prop} (hs:∀x y,x.at_ < s.size->I x->Sc.step s x=some y->I y):∀(n:Nat) (x:SS),I x->I (loopS s n x).1
 | 0,x,h=>h
 | n + 1,x,h=>by
  unfold loopS;split
  ·rename_i hlt;cases q:Sc.step s x with
   | none=>exact h
   | some y=>exact gX hs n y (hs x y hlt h q)
  ·exact h
def ss0:SS:=⟨0,1,[],[]⟩
def aR (s:ByteArray):SS:=(loopS s (s.size + 1) ss0).1
theorem eJ {s:ByteArray} (hf:(scanP s).2.2 < 0):(scanP s).1=ended (aR s)/\(scanP s).2.1=(aR s).c/\(loopS s (s.size + 1) ss0).2 < 0:=by
 unfold aR ss0;unfold scanP at hf|-;dsimp only at hf|-;split at hf
 ·rename_i q;exact absurd hf (by simp only;omega)
 ·rename_i q;rw[if_neg q];refine⟨rfl,rfl,?_⟩;generalize (loopS s (s.size + 1) ⟨0,1,[],[]⟩).2=f at *;rcases eU f 0 with h | h
  ·exact h
  ·exfalso;apply q
   unfold scanF least
   repeat' split
   all_goals omega
inductive Adds (s:ByteArray) (x y:SS):Prop
 | blank (h:y={x with at_:=x.at_ + 1}) (c:UInt8) (hc:s[x.at_]? =some c) (hn:c≠10)
 | line (h:y={semi x with at_:=x.at_ + 1,line:=x.line + 1}) (hc:s[x.at_]? =some 10)
 | note (h:y=Sc.note s x) (c:UInt8) (hc:s[x.at_]? =some c) (hn:c≠10)
 | tok (k:Int) (e:Nat) (h:y=Sc.add s k e x) (c:UInt8) (hc:s[x.at_]? =some c) (hn:c≠10) (hk:k≠7) (h5:k=5->isIn keys (s.extract x.at_ e)=true) (h4:k=4->isIn ops (s.extract x.at_ e)=true) (hl:x.at_ < e/\e<=s.size) (hno:(10:UInt8)∉(s.data.toList.drop x.at_).take (e - x.at_))
theorem kH {s:ByteArray} {x y:SS} {c:UInt8} (hc:s[x.at_]? =some c) (hn:c≠10):∀n,opR s x n=some y->Adds s x y
 | 0,q=>by cases q
 | n + 1,q=>by
  simp only[opR]at q;split at q
  ·rename_i hi;cases q;rw[ae,decide_eq_true_eq]at hi;refine .tok 4 _ rfl c hc hn (by decide) (fun q=>absurd q (by decide)) (fun _=>hi.2) ⟨by omega,hi.1⟩ ?_;rw[<-ext_list];have h2:=hi.2;simp only[isIn,bO,eqB,beq_iff_eq]at h2;obtain⟨o,ho,he⟩:=h2;have h3:ops.all (fun x=> !(x.toList.contains 10))=true:=by kernel_rfl
   have h4:=aF.1 h3 o ho;rw[<-he,Lib.toList_data]at h4;simpa using h4
  ·exact kH hc hn n q
theorem gQ {s:ByteArray} {p:UInt8->Bool} {i:Nat} (hp:p 10=false):(10:UInt8)∉(s.data.toList.drop i).take (Sc.stop s p i - i):=by
 rw[stop_tw,ba];generalize s.data.toList.drop i=r;intro h
 induction r with
 | nil=>simp at h
 | cons c r ih=>
  rw[aA]at h;split at h
  ·rename_i hc;simp only[av,bG,az]at h;rcases h with h | h
   ·rw[<-h,hp]at hc;cases hc
   ·exact ih h
  ·simp at h
theorem jR {s:ByteArray} {x y:SS} (h1:x.at_ < s.size) (q:Sc.step s x=some y):Adds s x y:=by
 have hle:=(step_ok h1 q).2.1;have hlt:=(step_ok h1 q).1;unfold Sc.step at q;split at q
 ·cases q
 ·rename_i c hc;split at q
  ·rename_i hn;cases q;have e:c=10:=by
    rw[beq_iff_eq]at hn;apply be.1;show c.toNat=10;omega
   subst e;exact .line rfl hc
  rename_i hn;have hn':c≠10:=by rintro rfl;exact hn rfl
  split at q
  ·cases q;exact .blank rfl c hc hn'
  split at q
  ·cases q;exact .note rfl c hc hn'
  split at q
  ·rename_i hl;unfold nameS at q;split at q
   ·cases q
   ·cases q;refine .tok _ _ rfl c hc hn' (by split <;> decide) (fun h=> ?_) (fun h=>by split at h <;> omega) ⟨hlt,hle⟩ (gQ (p:=wordB) (by decide));split at h
    ·assumption
    ·cases h
  split at q
  ·unfold numS at q;split at q
   ·cases q
   ·cases q;exact .tok _ _ rfl c hc hn' (by decide) (fun q=>absurd q (by decide)) (fun q=>absurd q (by decide)) ⟨hlt,hle⟩ (gQ (p:=digit) (by decide))
  split at q
  ·rename_i hq;unfold textS at q;split at q
   ·rename_i ht;cases q;refine .tok _ _ rfl c hc hn' (by decide) (fun q=>absurd q (by decide)) (fun q=>absurd q (by decide)) ⟨hlt,hle⟩ ?_;have e0:c=34:=by
     rw[beq_iff_eq]at hq;apply be.1;show c.toNat=34;omega
    subst e0;obtain⟨_,hd⟩:=drop_next s hc;have hs:=gQ (s:=s) (p:=fun b=>b !=34&&b !=10) (i:=x.at_ + 1) (by decide);have hle2:x.at_ + 1<=textE s x.at_:=(Sc.stop_le s _ _ (by omega)).1;unfold textE at ht hle2|-;generalize Sc.stop s (fun b=>b !=34&&b !=10) (x.at_ + 1)=e at *;obtain⟨he,hd2⟩:=drop_next s ht;intro hm;rw[hd,show e + 1 - x.at_=(e -(x.at_ + 1)+ 1)+ 1 by omega,bG,az,bH,ao]at hm;rcases hm with hm | hm | hm
    ·cases hm
    ·exact hs hm
    ·rw[cR,show x.at_ + 1 +(e -(x.at_ + 1))=e by omega,<-ba_get,ht]at hm;simp at hm
   ·cases q
  split at q
  ·cases q;refine .tok _ _ rfl c hc hn' (by decide) (fun q=>absurd q (by decide)) (fun q=>absurd q (by decide)) ⟨hlt,hle⟩ ?_;obtain⟨_,hd⟩:=drop_next s hc;rw[hd,ba];simpa using(Ne.symm hn')
  ·exact kH hc hn' 2 q
def KI (x:SS):Prop:=∀t∈x.l,t.kind≠7/\(t.kind=5->isIn keys t.text=true)/\(t.kind=4->isIn ops t.text=true)
theorem KI.semi {x:SS} (h:KI x):KI (Sc.semi x):=by
 unfold Sc.semi;split
 ·intro t ht;simp only[ao,aj]at ht;rcases ht with q | rfl
  ·exact h t q
  ·exact⟨by simp,by simp,by simp⟩
 ·exact h
theorem KI.step {s:ByteArray} {x y:SS} (h1:x.at_ < s.size) (h:KI x) (q:Sc.step s x=some y):KI y:=by
 cases jR h1 q with
 | blank h'=>subst h';exact h
 | line h'=>subst h';exact h.semi
 | note h'=>subst h';exact h.semi
 | tok k e h' c hc hn hk h5 h4 hl hno=>
  subst h';intro t ht;simp only[Sc.add,ao,aj]at ht;rcases ht with q | rfl
  ·exact h t q
  ·exact⟨hk,h5,h4⟩
theorem kG (s:ByteArray):KI (aR s):=gX (I:=KI) (fun x y h1 h2 h3=>KI.step h1 h2 h3) _ _ (fun t ht=>by cases ht)
theorem pM {y:SS} {i:Nat} (h:i <(semi y).l.length):(ended y)[i]? =(semi y).l[i]? :=by
 unfold ended;rw[aS h]
theorem iz {s:ByteArray} (hf:(scanP s).2.2 < 0):KTs (scanP s).1/\∀i,(tokAt (scanP s).1 i).kind=7->(scanP s).1.length<=i + 1:=by
 obtain⟨e1,_,_⟩:=eJ hf;have hk:=(kG s).semi;rw[e1];constructor
 ·intro i h5;unfold tokAt at h5|-;cases hg:(ended (aR s))[i]? with
  | none=>
   rw[hg]at h5;simp only[eA]at h5;exact absurd h5 (by decide)
  | some t=>
   rw[hg]at h5;simp only[bB]at h5|-;have hm:=bz hg;simp only[ended,ao,aj]at hm;rcases hm with q | rfl
   ·exact(hk t q).2.1 h5
   ·simp at h5
 ·intro i h7;rcases al i (semi (aR s)).l.length with q | q
  ·exfalso
   unfold tokAt at h7;rw[pM q,ah q]at h7;exact(hk _ (iN q)).1 h7
  ·simp only[ended,aE,aX];omega
theorem ju {s:ByteArray} (hs:s.size < 10000000) (h:(textP s).2.2 < 0):(scanP s).2.2 < 0/\(textP s).2.1=(scanP s).1/\∀i,0<=ob (scanP s).1 i/\ob (scanP s).1 i<=40:=by
 have hf:(scanP s).2.2 < 0:=by
  rcases eU (scanP s).2.2 0 with q | q
  ·exact q
  ·have hd:decide (0<=(scanP s).2.2)=true:=by simpa using q
   unfold textP at h;rw[if_pos hd]at h;exact absurd h (by simp only;omega)
 have hd:decide (0<=(scanP s).2.2)=false:=by simp;omega
 obtain⟨hg,_,_⟩:=scan_good hs hf;have hfin:=answer_fin hg;obtain⟨hK,h7⟩:=iz hf;unfold textP at h|-;simp only[hd,aa,if_false]at h|-;refine⟨hf,?_⟩;cases ha:answer (scanP s).1 with
 | bad k=>
  rw[ha]at h;simp only at h;have:=(scan_tb (s:=s) (tokAt (scanP s).1 k) (by
   rw[ha]at hfin;have hk':k <(scanP s).1.length:=hfin;unfold tokAt;rw[ah hk'];exact iN hk')).1
  omega
 | out=>rw[ha]at hfin;exact absurd hfin (fun h=>h)
 | ok nd a'=>
  refine⟨rfl,fun i=> ?_⟩;have hb:=oG hK (N:=(scanP s).1.length + 2) (n:=3 *(scanP s).1.length + 4) 0 0 nd a' (by omega) True.intro ha;have he:=h7 a' (ik ha);have o0:ob (scanP s).1 0=0:=rfl;have hbey:∀j,a' + j<=a' + j->ob (scanP s).1 (a' + j)=0:=by
   intro j _
   induction j with
   | zero=>rw[dG];have:=hb.2.1;omega
   | succ j ih=>
    rw[<-fT,gv (gY ?_),ih (au _)];rcases bt j with rfl | hj
    ·rw[dG,ik ha];decide
    ·unfold tokAt;rw[aq (by omega)]
     decide
  rcases Nat.le_total i a' with q | q
  ·have:=hb.2.2 i (br _) q;omega
  ·obtain⟨j,rfl⟩:=Nat.exists_eq_add_of_le q;have:=hbey j (au _);omega
end Gr
end Go.Proofs.Dm
namespace Go.Proofs.Dm
open Go Go.Proofs Go.Proofs.Dm.Sc
namespace Gr
def nl (s:ByteArray) (i:Nat):Nat:=(s.data.toList.take i).count 10
theorem mH (s:ByteArray) (i:Nat):nl s i<=s.data.toList.count 10:=(List.take_sublist i _).count_le 10
theorem mG {s:ByteArray} {a e:Nat} (h:a<=e) (hno:(10:UInt8)∉(s.data.toList.drop a).take (e - a)):nl s e=nl s a:=by
 unfold nl;obtain⟨d,rfl⟩:=Nat.exists_eq_add_of_le h;rw[ba]at hno;rw[List.take_add,List.count_append,List.count_eq_zero.2 hno];rfl
theorem nv {s:ByteArray} {a:Nat} {c:UInt8} (h:s[a]? =some c):nl s (a + 1)=nl s a + if c=10 then 1 else 0:=by
 unfold nl;rw[ba_get]at h;rw[bH,h,List.count_append];simp only[Option.toList_some,List.count_singleton,beq_iff_eq]
structure LI (s:ByteArray) (x:SS):Prop where
 at_:x.at_<=s.size
 line:x.line=1 +(nl s x.at_:Int)
 toks:∀t∈x.l,1<=t.line/\t.line<=x.line
 pair:x.l.Pairwise (fun t u=>t.line<=u.line)
 coms:∀c∈x.c,1<=c.line/\(c.line < x.line\/(c.line=x.line/\∀b,s[x.at_]? =some b->b=10))
 cpair:x.c.Pairwise (fun b c=>b.line < c.line/\b.next<=c.next)
 next:∀c∈x.c,0<=c.next/\c.next<=x.l.length
 rel:∀c∈x.c,∀(i:Nat) t,x.l[i]? =some t->((i:Int)< c.next->t.line<=c.line)/\(c.next<=i->c.line<=t.line)
theorem LI.push {s:ByteArray} {x:SS} (h:LI s x) {t:Tok} (ht:t.line=x.line):LI s {x with l:=x.l ++ [t]} where
 at_:=h.at_
 line:=h.line
 toks:=by
  intro u hu;simp only[ao,aj]at hu;rcases hu with q | rfl
  ·exact h.toks u q
  ·rw[ht];exact⟨by have:=h.line;omega,cM _⟩
 pair:=by
  rw[di];refine⟨h.pair,by simp,fun a ha b hb=> ?_⟩;rw[aj]at hb;subst hb;rw[ht];exact(h.toks a ha).2
 coms:=h.coms
 cpair:=h.cpair
 next:=fun c hc=>by have:=h.next c hc;simp only[aE,aX];omega
 rel:=by
  intro c hc i u hu;have hn:=h.next c hc;have hl:=(h.coms c hc).2;rcases Nat.lt_trichotomy i x.l.length with q | q | q
  ·rw[aS q]at hu;exact h.rel c hc i u hu
  ·subst q;simp only[du,ak]at hu;subst hu;refine⟨fun g=>by omega,fun g=> ?_⟩;rw[ht];rcases hl with g | g
   ·omega
   ·omega
  ·rw[aq (by simp;omega)]at hu;cases hu
theorem LI.semi {s:ByteArray} {x:SS} (h:LI s x):LI s (Sc.semi x):=by
 unfold Sc.semi;split
 ·exact h.push rfl
 ·exact h
theorem LI.on {s:ByteArray} {x:SS} (h:LI s x) {e:Nat} {c:UInt8} (hc:s[x.at_]? =some c) (hn:c≠10) (h1:x.at_<=e) (h2:e<=s.size) (hno:(10:UInt8)∉(s.data.toList.drop x.at_).take (e - x.at_)):LI s {x with at_:=e} where
 at_:=h2
 line:=by simp only;rw[mG h1 hno];exact h.line
 toks:=h.toks
 pair:=h.pair
 coms:=fun d hd=>by
  obtain⟨q1,q2⟩:=h.coms d hd;refine⟨q1,.inl ?_⟩;rcases q2 with q | q
  ·exact q
  ·exact absurd (q.2 c hc) hn
 cpair:=h.cpair
 next:=h.next
 rel:=h.rel
theorem LI.step {s:ByteArray} {x y:SS} (h1:x.at_ < s.size) (h:LI s x) (q:Sc.step s x=some y):LI s y:=by
 have hle:=(step_ok h1 q).2.1;cases jR h1 q with
 | blank h' c hc hn=>
  subst h';refine h.on hc hn (by omega) (by omega) ?_;obtain⟨_,hd⟩:=drop_next s hc;rw[hd,ba];simpa using(Ne.symm hn)
 | line h' hc=>
  subst h';have g:=h.semi;have e:=nv hc;rw[if_pos rfl]at e;exact{
   at_:=by simp only;omega
   line:=by simp only;rw[e];have:=h.line;omega
   toks:=fun t ht=>by have:=g.toks t ht;rw[semi_line]at this;simp only;omega
   pair:=g.pair
   coms:=fun c hc=>by
    obtain⟨q1,q2⟩:=g.coms c hc;rw[semi_line]at q2;refine⟨q1,.inl ?_⟩;simp only;rcases q2 with q | q <;> omega
   cpair:=g.cpair
   next:=g.next
   rel:=g.rel}
 | note h' c hc hn=>
  subst h';have g:=h.semi;have hE:x.at_<=eol s x.at_/\eol s x.at_<=s.size:=stop_le s _ _ h.at_;have hno:(10:UInt8)∉(s.data.toList.drop x.at_).take (eol s x.at_ - x.at_):=gQ (by decide);have g2:=g.on (e:=eol s x.at_) (by rw[semi_at];exact hc) hn (by rw[semi_at];exact hE.1) hE.2 (by rw[semi_at];exact hno);have hlt:∀b∈x.c,b.line < x.line:=fun b hb=>by
   rcases(h.coms b hb).2 with q | q
   ·exact q
   ·exact absurd (q.2 c hc) hn
  have ec:(Sc.semi x).c=x.c:=by unfold Sc.semi;split <;> rfl
  exact{
   at_:=hE.2
   line:=g2.line
   toks:=g2.toks
   pair:=g2.pair
   coms:=fun d hd=>by
    simp only[Sc.note,ao,aj]at hd|-;rcases hd with hd | rfl
    ·have:=hlt d hd;have:=(h.coms d hd).1;refine⟨this,.inl ?_⟩;simp only[semi_line];omega
    ·refine⟨by have:=h.line;simp only;omega,.inr ⟨by simp only[semi_line],fun b hb=> ?_⟩⟩;unfold eol at hb;rw[stop_tw,ba_get,<-cR]at hb;generalize s.data.toList.drop x.at_=r at hb
     induction r with
     | nil=>simp at hb
     | cons d r ih=>
      rw[aA]at hb;split at hb
      ·simp only[av,ck]at hb;exact ih hb
      ·rename_i hd;simp only[aQ,cj,ak]at hb;subst hb;simpa using hd
   cpair:=by
    simp only[Sc.note];rw[di];refine⟨h.cpair,by simp,fun a ha b hb=> ?_⟩;rw[aj]at hb;subst hb;exact⟨hlt a ha,(g.next a (by rw[ec];exact ha)).2⟩
   next:=fun d hd=>by
    simp only[Sc.note,ao,aj]at hd|-;rcases hd with hd | rfl
    ·exact g.next d (by rw[ec];exact hd)
    ·simp only;omega
   rel:=fun d hd i t ht=>by
    simp only[Sc.note,ao,aj]at hd ht;rcases hd with hd | rfl
    ·exact g.rel d (by rw[ec];exact hd) i t ht
    ·simp only;have:=(g.toks t (bz ht)).2;rw[semi_line]at this;refine⟨fun _=>this,fun q=> ?_⟩;have:i <(Sc.semi x).l.length:=by
      rcases al i (Sc.semi x).l.length with q | q
      ·exact q
      ·rw[aq q]at ht;cases ht
     omega}
 | tok k e h' c hc hn hk h5 h4 hl hno=>
  subst h';exact(h.push (t:=⟨k,s.extract x.at_ e,x.at_,x.line,false⟩) rfl).on hc hn (by simp only;omega) hl.2 hno
theorem nu (s:ByteArray):LI s (aR s):=gX (I:=LI s) (fun x y h1 h2 h3=>LI.step h1 h2 h3) _ _ ⟨br _,rfl,(fun t ht=>by cases ht),List.Pairwise.nil,(fun t ht=>by cases ht),List.Pairwise.nil,(fun t ht=>by cases ht),(fun t ht=>by cases ht)⟩
structure Scanned (s:ByteArray) (l:List Tok) (cs:List Com):Prop where
 toks:∀t∈l,1<=t.line/\t.line<=(Fo.linesP s).length
 pair:l.Pairwise (fun t u=>t.line<=u.line)
 coms:∀c∈cs,1<=c.line/\c.line<=(Fo.linesP s).length
 cpair:cs.Pairwise (fun b c=>b.line < c.line/\b.next<=c.next)
 next:∀c∈cs,0<=c.next/\c.next < l.length
 rel:∀c∈cs,∀(i:Nat) t,l[i]? =some t->((i:Int)< c.next->t.line<=c.line)/\(c.next<=i->c.line<=t.line)
 kinds:∀i t,l[i]? =some t->t.kind=7->l.length=i + 1
 last:∃t,l.getLast? =some t/\t.kind=7
theorem cW {s:ByteArray} (hf:(scanP s).2.2 < 0):Scanned s (scanP s).1 (scanP s).2.1:=by
 obtain⟨e1,e2,_⟩:=eJ hf;obtain⟨_,hk⟩:=iz hf;have h:=(nu s).semi;have hn:=mH s (semi (aR s)).at_;have hl:=gh s;have hline:=h.line;have ec:(Sc.semi (aR s)).c=(aR s).c:=by unfold Sc.semi;split <;> rfl
 have g:=h.push (t:=⟨7,⟨#[]⟩,(semi (aR s)).at_,(semi (aR s)).line,false⟩) rfl;have el:({semi (aR s)with l:=(semi (aR s)).l ++ [⟨7,⟨#[]⟩,(semi (aR s)).at_,(semi (aR s)).line,false⟩]}:SS).l=ended (aR s):=rfl;rw[e1]at hk|-;rw[e2,<-ec];refine⟨fun t ht=> ?_,g.pair,fun c hc=> ?_,h.cpair,fun c hc=> ?_,g.rel,fun i t ht h7=> ?_,?_⟩
 ·have:=g.toks t ht;simp only at this;omega
 ·have:=h.coms c hc;omega
 ·have:=h.next c hc;simp only[ended,aE,aX];omega
 ·have:=hk i (by unfold tokAt;rw[ht];exact h7);have:i <(ended (aR s)).length:=by
   rcases al i (ended (aR s)).length with q | q
   ·exact q
   ·rw[aq q]at ht;cases ht
  omega
 ·exact⟨⟨7,⟨#[]⟩,(semi (aR s)).at_,(semi (aR s)).line,false⟩,by unfold ended;rw[ar,aO];rfl,rfl⟩
end Gr
end Go.Proofs.Dm
namespace Go.Proofs.Dm
open Go Go.Proofs Go.Proofs.Dm.Sc
open Fo (isO zeroT LS nlB spB pad trimR)
namespace Rf
theorem nil_append (a:ByteArray):a ++(⟨#[]⟩:ByteArray)=a:=by
 apply ba_ext;show(a.append _).data.toList=_;simp
theorem lF (a:ByteArray):(⟨#[]⟩:ByteArray)++ a=a:=by
 apply ba_ext;simp
theorem jQ (a b c:ByteArray):a ++ b ++ c=a ++(b ++ c):=by
 apply ba_ext;simp
theorem lE (l:List Tok) (src:List ByteArray):∀(xs ys:List It) (p:Option It) (o:ByteArray),cY l src p (xs ++ ys) o=cY l src (xs.getLast?.or p) ys (cY l src p xs o)
 | [],ys,p,o=>rfl
 | x::xs,ys,p,o=>by
  show cY l src (some x) (xs ++ ys) _=_;rw[lE l src xs ys (some x) _];cases xs with
  | nil=>rfl
  | cons y xs=>
   show cY l src ((y::xs).getLast?.or (some x)) ys _=cY l src ((x::y::xs).getLast?.or p) ys _;rw[ch];cases h:(y::xs).getLast? with
   | none=>simp at h
   | some z=>rfl
theorem l5 (src:List ByteArray):∀(n k:Nat),(0 < n->k + n<=src.length)->Fo.emptyN src n k=some (fR src n k)
 | 0,k,h=>rfl
 | n + 1,k,h=>by
  have hk:k < src.length:=by have:=h (by omega);omega
  unfold Fo.emptyN fR;rw[ah hk];simp only[bB];have e:Fo.blank src[k]=((trimR src[k]).toList== []):=by
   generalize src[k]=s;unfold Fo.blank trimR;rw[Lib.toList_data,Lib.toList_data];show s.data.toList.all _=((Lib.trimRightS s.data.toList [32,9])== [])
   rw[bf,beq_iff_eq];unfold Lib.trimRightS;rw[List.reverse_eq_nil_iff];constructor
   ·intro h;rw[gj];intro x hx;exact aF.1 h x (eB.1 hx)
   ·intro h;rw[gj]at h;exact aF.2 fun x hx=>h x (eB.2 hx)
  rw[e];split
  ·rfl
  ·exact l5 src n (k + 1) (fun _=>by omega)
structure Inv (l:List Tok) (i:Nat) (x:LS) (p:Option It) (o:ByteArray):Prop where
 out:x.out=o
 opn:x.opn=Gr.ob l i
 last:x.last= -1\/∃j:Nat,x.last=j/\j < i/\(tk l j).kind≠6
 semis:∀k:Nat,x.last < k->k < i->(tk l k).kind=6
 semi:x.semi=decide (x.last + 1 < i)
 none_:p=none->x.last= -1/\x.aside=false/\x.line=0
 some_:∀b,p=some b->x.line=b.line/\1<=b.line/\x.aside=b.com/\(0<=x.last->(Fo.endT l x).line<=b.line)/\(b.com=false->0<=x.last/\(Fo.endT l x).line=b.line)
theorem jt {l:List Tok} {x:LS}:∀i:Nat,(x.last= -1\/∃j:Nat,x.last=j/\j < i/\(tk l j).kind≠6)->(∀k:Nat,x.last < k->k < i->(tk l k).kind=6)->bc l i=Fo.endT l x/\(0<=x.last->atR l i=x.last.toNat)
 | 0,h,g=>by
  rcases h with h | ⟨j,_,h,_⟩
  ·unfold bc Fo.endT;rw[if_pos (by omega)];exact⟨rfl,fun q=>by omega⟩
  ·omega
 | i + 1,h,g=>by
  unfold bc atR
  by_cases e:x.last=(i:Int)
  ·have hk:(tk l i).kind≠6:=by
    rcases h with h | ⟨j,h1,h2,h3⟩
    ·omega
    ·have:j=i:=by omega
     subst this;exact h3
   have hk':((tk l i).kind==6)=false:=by simpa using hk
   rw[hk'];simp only[aa,if_false];refine⟨?_,fun _=>by omega⟩;unfold Fo.endT tk;rw[if_neg (by omega),e,bS]
  ·have hlt:x.last < i:=by
    rcases h with h | ⟨j,h1,h2,h3⟩ <;> omega
   have hk:=g i hlt (by omega);rw[hk];simp only[beq_self_eq_true,if_true];refine jt i ?_ (fun k h1 h2=>g k h1 (by omega));rcases h with h | ⟨j,h1,h2,h3⟩
   ·exact .inl h
   ·exact .inr ⟨j,h1,by omega,h3⟩
theorem nr {l:List Tok} {next:Int} {closes:Bool} (h0:0<=next) (h:next<=l.length):Fo.goesOn l next closes=some (if decide (0 < next)&& !closes then(if onR (tk l (next.toNat - 1))then 1 else 0)else 0):=by
 unfold Fo.goesOn
 by_cases q:0 < next
 ·have e:(next - 1).toNat=next.toNat - 1:=by omega
  have hlt:next.toNat - 1 < l.length:=by omega
  cases closes with
  | true=>simp[q]
  | false=>
   simp only[q,decide_true,fB,Bool.and_self,if_true];rw[e,ah hlt];unfold tk onR;rw[ah hlt];rfl
 ·simp[q]
def fh (l:List Tok) (src:List ByteArray) (x:LS) (line:Int) (closes:Bool):Option It->ByteArray
 | none=>⟨#[]⟩
 | some b=>if fR src (line - 1 - b.line).toNat b.line.toNat&& !isO (Fo.endT l x) [123]&& !closes then nlB ++ nlB else nlB
theorem ke {l:List Tok} {src:List ByteArray} {x:LS} {line:Int} {closes:Bool} {p:Option It} (hp0:p=none->x.line=0) (hp:∀b,p=some b->x.line=b.line/\1<=b.line) (hl:line<=src.length):
  Fo.gapS l src x line closes=some (fh l src x line closes p):=by
 unfold Fo.gapS;cases p with
 | none=>rw[hp0 rfl];rfl
 | some b=>
  obtain⟨h1,h2⟩:=hp b rfl;rw[if_pos (by omega),h1];unfold Fo.emptyS;have e:(line - b.line - 1).toNat=(line - 1 - b.line).toNat:=by omega
  rw[e,l5 src _ _ (fun q=>by omega)];rfl
def fe (l:List Tok) (o next:Int) (closes:Bool):ByteArray:=pad (o +(if decide (0 < next)&& !closes then(if onR (tk l (next.toNat - 1))then 1 else 0)else 0)).toNat
theorem begin_ok {l:List Tok} {src:List ByteArray} {x:LS} {next line:Int} {closes:Bool} {p:Option It} (hp0:p=none->x.line=0) (hp:∀b,p=some b->x.line=b.line/\1<=b.line) (hl:line<=src.length)
  (h0:0<=next) (hn:next<=l.length) (ho:0<=x.opn/\x.opn<=40):
  Fo.beginS l src x next line closes=some {x with out:=x.out ++(fh l src x line closes p)++ fe l x.opn next closes}:=by
 unfold Fo.beginS;rw[ke hp0 hp hl,nr h0 hn];simp only;have hk:0<=x.opn +(if(decide (0 < next)&& !closes)=true then(if onR (tk l (next.toNat - 1))=true then 1 else 0)else 0)/\x.opn +(if(decide (0 < next)&& !closes)=true then(if onR (tk l (next.toNat - 1))=true then 1 else 0)else 0)<=64:=by
  cases (decide (0 < next)&& !closes)<;> cases onR (tk l (next.toNat - 1))<;> simp <;> omega
 rw[if_pos hk];rfl
variable {s:ByteArray} {l:List Tok} {cs:List Com} {src:List ByteArray}
theorem bk {i:Nat} {t:Tok} (h:l[i]? =some t):tk l i=t:=by unfold tk;rw[h];rfl
theorem iU {i:Nat} {t:Tok} (h:l[i]? =some t):Gr.ob l (i + 1)=La.opT (Gr.ob l i) t:=La.opens_take l i t h
theorem eI (l:List Tok) (src:List ByteArray) (b x:It):cO l src (some b) x=if aC l b x then(if cH l src b x then nlB ++ nlB else nlB)++ pad (aW l x).toNat else if x.com then spB else if cA l x.tok.toNat then spB else⟨#[]⟩:=rfl
theorem fo (l:List Tok) (src:List ByteArray) (x:It):cO l src none x=pad (aW l x).toNat:=rfl
theorem oF {i:Nat} {x:LS} {p:Option It} {o:ByteArray} {c:Com} (h:Inv l i x p o) (hi:i<=l.length) (hb:∀j,0<=Gr.ob l j/\Gr.ob l j<=40) (hc:c.next=i) (hl:1<=c.line/\c.line<=src.length)
  (hp:∀b,p=some b->b.com=true->b.line < c.line) (hr:∀t,l[x.last.toNat]? =some t->0<=x.last->t.line<=c.line):
  ∃y,Fo.comS l src x c=some y/\Inv l i y (some (aV c)) (o ++ cO l src p (aV c)++ cz l (aV c)):=by
 obtain⟨e1,e2⟩:=jt i h.last h.semis;have ht:(aV c).tok.toNat=i:=by simp only[aV];omega
 have hs:bN l (aV c)=false:=rfl;have hob:La.opens (l.take i)=Gr.ob l i:=rfl;have htabs:fe l x.opn c.next false=pad (aW l (aV c)).toNat:=by
  unfold fe
  congr 2
  symm
  unfold aW;rw[ht,hs,hob,h.opn];have h2:c.next.toNat=i:=by omega
  have h3:(aV c).tok=c.next:=rfl;rw[h2,h3];cases decide (0 < c.next)<;> cases onR (tk l (i - 1))<;> simp
 have hB:=begin_ok (l:=l) (src:=src) (x:=x) (next:=c.next) (line:=c.line) (closes:=false) (p:=p) (fun q=>(h.none_ q).2.2) (fun b q=>⟨(h.some_ b q).1,(h.some_ b q).2.1⟩) hl.2 (by omega) (by omega) (by rw[h.opn];exact hb i);have hkeep:∀z:LS,z={x with out:=z.out}->Inv l i {z with out:=z.out ++ trimR c.text,line:=c.line,aside:=true} (some (aV c)) (z.out ++ trimR c.text):=by
  intro z hz;have ee:Fo.endT l {z with out:=z.out ++ trimR c.text,line:=c.line,aside:=true}=Fo.endT l x:=by
   unfold Fo.endT;have:z.last=x.last:=by rw[hz]
   simp only[this]
  refine⟨rfl,by simp only;rw[hz];exact h.opn,by simp only;rw[hz];exact h.last,by simp only;rw[hz];exact h.semis,by simp only;rw[hz];exact h.semi,fun q=>by (cases q),fun b q=> ?_⟩;cases q;refine⟨rfl,hl.1,rfl,fun g=> ?_,fun q=>by (cases q)⟩;rw[ee];have hlx:0<=x.last:=by
   have:z.last=x.last:=by rw[hz]
   simp only[this]at g;exact g
  unfold Fo.endT;rw[if_neg (by omega)];cases hg:l[x.last.toNat]? with
  | none=>simp only[eA];show(0:Int)<=_;simp only[aV];omega
  | some t=>simp only[bB];exact hr t hg hlx
 have hnl:∀b,p=some b->b.com=true->¬(0<=x.last/\(Fo.endT l x).line=c.line):=by
  rintro b hb1 hb2 ⟨q1,q2⟩;have:=(h.some_ b hb1).2.2.2.1 q1;have:=hp b hb1 hb2;omega
 unfold Fo.comS;have ho:=h.out
 by_cases q:0<=x.last/\(Fo.endT l x).line=c.line
 ·rw[if_pos q];cases hpp:p with
  | none=>have:=(h.none_ hpp).1;omega
  | some b=>
   cases hbc:b.com with
   | true=>exact absurd q (hnl b hpp hbc)
   | false=>
    have h5:=((h.some_ b hpp).2.2.2.2 hbc).2;have hbr:aC l b (aV c)=false:=by
     unfold aC;rw[hbc];simp only[aV,if_true,dm];rw[bne_eq_false_iff_eq];omega
    refine⟨_,rfl,?_⟩;have:=hkeep {x with out:=x.out ++ spB} rfl;have hsep:cO l src (some b) (aV c)=spB:=by
     rw[eI,hbr];rfl
    have htx:cz l (aV c)=trimR c.text:=rfl;rw[hsep,htx,<-ho];exact this
 ·rw[if_neg q,hB];refine⟨_,rfl,?_⟩;have:=hkeep {x with out:=x.out ++(fh l src x c.line false p)++ fe l x.opn c.next false} rfl;have hsep:cO l src p (aV c)=(fh l src x c.line false p)++ fe l x.opn c.next false:=by
   rw[htabs];cases hpp:p with
   | none=>
    rw[fo];show _=(⟨#[]⟩:ByteArray)++ _;rw[lF]
   | some b=>
    have hbr:aC l b (aV c)=true:=by
     unfold aC;simp only[aV,if_true];cases hbc:b.com with
     | true=>rfl
     | false=>
      rw[dm,bne_iff_ne];have h5:=(h.some_ b hpp).2.2.2.2 hbc;intro e;exact q ⟨h5.1,h5.2.trans e⟩
    rw[eI,hbr,if_pos rfl]
    congr 1
    unfold cH;rw[ht,e1,hs];unfold fh;simp only[aV,fU,fB,Bool.and_true];cases isO (Fo.endT l x) [123] <;> simp
  have e:o ++ cO l src p (aV c)++ cz l (aV c)=x.out ++(fh l src x c.line false p)++ fe l x.opn c.next false ++ trimR c.text:=by
   rw[hsep,ho,<-jQ o];rfl
  rw[e];exact this
theorem oE {i:Nat} {x:LS} {p:Option It} {o:ByteArray} {t:Tok} (h:Inv l i x p o) (hb:∀j,0<=Gr.ob l j/\Gr.ob l j<=40) (hg:l[i]? =some t) (hk:t.kind≠6) (hl:1<=t.line/\t.line<=src.length):
  ∃y,Fo.tokS l src x i t=some y/\Inv l (i + 1) y (some (aJ i t)) (o ++ cO l src p (aJ i t)++ cz l (aJ i t)):=by
 obtain⟨e1,e2⟩:=jt i h.last h.semis;have hi:i < l.length:=by
  rcases al i l.length with q | q
  ·exact q
  ·rw[aq q]at hg;cases hg
 have ett:=bk hg;have ht:(aJ i t).tok.toNat=i:=by simp only[aJ];omega
 have hs:bN l (aJ i t)=isO t [125]:=by
  unfold bN;rw[ht,ett];rfl
 have hob:La.opens (l.take i)=Gr.ob l i:=rfl;have hn1:isO t [125]=true->isO t [123]=false:=by
  intro q;unfold Fo.isO at q|-;rw[ae,beq_iff_eq,beq_iff_eq]at q;rw[q.2,aB];right;decide
 have hstep:=iU hg;unfold La.opT at hstep;obtain⟨x',hx'⟩:∃x':LS,x'={x with opn:=if isO t [125]then x.opn - 1 else x.opn}:=⟨_,rfl⟩
 have e':Fo.endT l x'=Fo.endT l x:=by rw[hx'];rfl
 have ea':Fo.aheadT l x'=Fo.aheadT l x:=by rw[hx'];rfl
 have hopn:0<=x'.opn/\x'.opn<=40:=by
  rw[hx'];simp only;have h1:=hb i;have h2:=hb (i + 1);rw[h.opn];split
  ·rename_i q;rw[hn1 q,if_neg (by decide),if_pos q]at hstep;omega
  ·exact h1
 have hB:=begin_ok (l:=l) (src:=src) (x:=x') (next:=i) (line:=t.line) (closes:=isO t [125]) (p:=p) (fun q=>by rw[hx'];exact(h.none_ q).2.2) (fun b q=>by rw[hx'];exact⟨(h.some_ b q).1,(h.some_ b q).2.1⟩) hl.2 (by omega) (by omega) hopn;have htabs:fe l x'.opn i (isO t [125])=pad (aW l (aJ i t)).toNat:=by
  unfold fe
  congr 2
  symm
  unfold aW;rw[ht,hs,hob,hx',bS];simp only[aJ,h.opn];cases isO t [125] <;> simp
  repeat' split
  all_goals omega
 have hsep:Fo.sepS l src x' i t=some {x' with out:=x'.out ++ cO l src p (aJ i t)}:=by
  unfold Fo.sepS;simp only;rw[e',ea'];cases hpp:p with
  | none=>
   obtain⟨h1,h2,h3⟩:=h.none_ hpp;have hlt:decide (x'.last < 0)=true:=by rw[hx'];simp only[decide_eq_true_eq];omega
   rw[hlt,Bool.true_or,Bool.true_or,if_pos rfl,hB,hpp];rw[fo];rw[htabs,jQ];have hg0:fh l src x' t.line (isO t [125]) none=⟨#[]⟩:=rfl;rw[hg0,lF]
  | some b=>
   obtain⟨h1,h2,h3,h4,h5⟩:=h.some_ b hpp;have hbegin:aC l b (aJ i t)=true->Fo.beginS l src x' i t.line (isO t [125])=some {x' with out:=x'.out ++ cO l src (some b) (aJ i t)}:=by
    intro hbr;rw[hB,hpp];rw[eI,hbr,if_pos rfl];rw[htabs,jQ]
    congr 3
    unfold fh;rw[e'];unfold cH;rw[ht,e1,hs];simp only[aJ];cases isO (Fo.endT l x) [123] <;> cases isO t [125] <;> simp
   cases hbc:b.com with
   | true=>
    have ha:x'.aside=true:=by rw[hx'];simp only;rw[h3,hbc]
    rw[if_pos (by rw[ha];simp)];exact hbegin (by unfold aC;simp only[aJ,hbc,if_true,aa,if_false])
   | false=>
    have ha:x'.aside=false:=by rw[hx'];simp only;rw[h3,hbc]
    obtain⟨h6,h7⟩:=h5 hbc;have hlt:decide (x'.last < 0)=false:=by rw[hx'];simp only[decide_eq_false_iff_not];omega
    have hsm:x'.semi=((tk l (i - 1)).kind==6):=by
     have e0:x'.semi=x.semi:=by rw[hx']
     rw[e0,h.semi];obtain⟨j,q1,q2,q3⟩:∃j:Nat,x.last=j/\j < i/\(tk l j).kind≠6:=by
      rcases h.last with q | q
      ·omega
      ·exact q
     by_cases q:x.last + 1 <(i:Int)
     ·have:=h.semis (i - 1) (by omega) (by omega);rw[decide_eq_true q,this];rfl
     ·have:i - 1=j:=by omega
      rw[decide_eq_false q,this]
      symm;simpa using q3
    have hbr:aC l b (aJ i t)=(!(isO t [125]&&isO (Fo.endT l x) [123]&& !false)&&(x'.semi || isO t [125] || isO (Fo.endT l x) [123])):=by
     unfold aC;rw[ht,e1,hbc,hsm,ett];simp only[aJ,aa,if_false];cases isO (Fo.endT l x) [123] <;> cases isO t [125] <;> cases ((tk l (i - 1)).kind==6)<;> rfl
    have hcond:(decide (x'.last < 0)|| x'.aside ||(!(isO t [125]&&isO (Fo.endT l x) [123]&& !x'.aside)&&(x'.semi || isO t [125] || isO (Fo.endT l x) [123])))=aC l b (aJ i t):=by
     rw[hbr,ha,hlt,dm,dm]
    rw[hcond];cases hq:aC l b (aJ i t)with
    | true=>
     rw[if_pos rfl];exact hbegin hq
    | false=>
     rw[if_neg (by decide)];have hsp:cA l i=Fo.spaceT (Fo.aheadT l x) (Fo.endT l x) t:=by
      unfold cA;simp only;rw[e2 h6,ett];have g1:tk l x.last.toNat=Fo.endT l x:=by unfold tk Fo.endT;rw[if_neg (by omega)]
      have g2:(if 1<=x.last.toNat then tk l (x.last.toNat - 1)else zeroT)=Fo.aheadT l x:=by
       unfold Fo.aheadT
       by_cases q:x.last < 1
       ·rw[if_pos q,if_neg (by omega)]
       ·rw[if_neg q,if_pos (by omega)];unfold tk;have:x.last.toNat - 1=(x.last - 1).toNat:=by omega
        rw[this]
      rw[g1,g2]
     have hsep2:cO l src (some b) (aJ i t)=if Fo.spaceT (Fo.aheadT l x) (Fo.endT l x) t then spB else⟨#[]⟩:=by
      have hc:(aJ i t).com=false:=rfl;rw[eI,hq,hc,ht,hsp];simp only[aa,if_false]
     rw[hsep2];cases Fo.spaceT (Fo.aheadT l x) (Fo.endT l x) t with
     | true=>rfl
     | false=>
      simp only[aa,if_false];rw[nil_append]
 unfold Fo.tokS;rw[<-hx',hsep];refine⟨_,rfl,?_⟩;have etx:cz l (aJ i t)=t.text:=by unfold cz;rw[ht,ett];rfl
 refine⟨?_,?_,.inr ⟨i,rfl,by omega,by rw[ett];exact hk⟩,fun k g1 g2=>by simp only at g1;omega,?_,fun q=>by (cases q),fun b q=> ?_⟩
 ·simp only;rw[etx,hx',<-h.out]
 ·simp only;rw[hstep,hx'];simp only[h.opn];cases q:isO t [125]with
  | true=>rw[hn1 q];simp
  | false=>cases isO t [123] <;> simp
 ·simp only
  symm;simp
 ·cases q;have ee:(Fo.endT l {x' with out:=x'.out ++ cO l src p (aJ i t)++ t.text,opn:=if isO t [123]then x'.opn + 1 else x'.opn,last:=i,line:=t.line,semi:=false,aside:=false}).line=t.line:=by
   unfold Fo.endT;simp only;rw[if_neg (by omega),bS,hg];rfl
  exact⟨rfl,hl.1,rfl,fun _=>by simp only;rw[ee];exact cM _,fun _=>⟨by simp only;omega,ee⟩⟩
end Rf
end Go.Proofs.Dm
namespace Go.Proofs.Dm
open Go Go.Proofs Go.Proofs.Dm.Sc
open Fo (isO zeroT LS nlB spB pad trimR)
namespace Rf
variable {l:List Tok} {src:List ByteArray}
theorem mh (i:Nat):∀cs:List Com,(∀c∈cs,(i:Int)<=c.next)->Fo.aheadC i cs=a8 i cs
 | [],h=>rfl
 | c::cs,h=>by
  have h1:=h c (by simp);unfold Fo.aheadC a8;rw[mh i cs (fun d hd=>h d (by simp[hd]))]
  by_cases q:c.next=(i:Int)
  ·rw[if_pos q,if_pos (by omega)]
  ·rw[if_neg q,if_neg (by omega)]
theorem fN (i:Nat):∀cs:List Com,cs=(a8 i cs).1 ++(a8 i cs).2
 | []=>rfl
 | c::cs=>by
  unfold a8;split
  ·show c::cs=c::((a8 i cs).1 ++(a8 i cs).2);rw[<-fN i cs]
  ·rfl
theorem jr (i:Nat):∀cs:List Com,∀c∈(a8 i cs).1,c.next<=(i:Int)
 | [],c,h=>by cases h
 | d::cs,c,h=>by
  unfold a8 at h;split at h
  ·rename_i q;simp only[az]at h;rcases h with rfl | h
   ·exact q
   ·exact jr i cs c h
  ·cases h
theorem gW (i:Nat):∀cs:List Com,cs.Pairwise (fun b c=>b.line < c.line/\b.next<=c.next)->∀c∈(a8 i cs).2,(i:Int)< c.next
 | [],_,c,h=>by cases h
 | d::cs,hp,c,h=>by
  rw[List.pairwise_cons]at hp;unfold a8 at h;split at h
  ·exact gW i cs hp.2 c h
  ·rename_i q;simp only[az]at h;rcases h with rfl | h
   ·omega
   ·have:=(hp.1 c h).2;omega
structure Todo (l:List Tok) (src:List ByteArray) (p:Option It) (cs:List Com):Prop where
 pair:cs.Pairwise (fun b c=>b.line < c.line/\b.next<=c.next)
 line:∀c∈cs,1<=c.line/\c.line<=src.length
 next:∀c∈cs,0<=c.next/\c.next < l.length
 rel:∀c∈cs,∀(i:Nat) t,l[i]? =some t->(i:Int)< c.next->t.line<=c.line
 last:∀b,p=some b->b.com=true->∀c∈cs,b.line < c.line
theorem kF {i:Nat} (hi:i<=l.length) (hb:∀j,0<=Gr.ob l j/\Gr.ob l j<=40):∀(cs rest:List Com) (x:LS) (p:Option It) (o:ByteArray),Inv l i x p o->(∀c∈cs,c.next=i)->Todo l src p (cs ++ rest)->
  ∃y p',Fo.comsS l src x cs=some y/\Inv l i y p' (cY l src p (cs.map aV) o)/\Todo l src p' rest/\p'=(cs.map aV).getLast?.or p
 | [],rest,x,p,o,h,hn,ht=>⟨x,p,rfl,h,ht,rfl⟩
 | c::cs,rest,x,p,o,h,hn,ht=>by
  have hc:=hn c (by simp);have hlast:x.last < i:=by
   rcases h.last with q | ⟨j,q1,q2,_⟩ <;> omega
  obtain⟨y,h1,h2⟩:=oF (src:=src) (c:=c) h hi hb hc (ht.line c (by simp)) (fun b q1 q2=>ht.last b q1 q2 c (by simp)) (fun t g1 g2=>ht.rel c (by simp) x.last.toNat t g1 (by omega));have hp:=ht.pair;rw[aw,List.pairwise_cons]at hp;have ht2:Todo l src (some (aV c)) (cs ++ rest):=⟨hp.2,fun d hd=>ht.line d (by simp only[aw,az];exact .inr hd),fun d hd=>ht.next d (by simp only[aw,az];exact .inr hd),fun d hd=>ht.rel d (by simp only[aw,az];exact .inr hd),
   fun b q1 q2 d hd=>by cases q1;exact(hp.1 d hd).1⟩
  obtain⟨z,p',g1,g2,g3,g4⟩:=kF hi hb cs rest y (some (aV c)) _ h2 (fun d hd=>hn d (by simp[hd])) ht2;refine⟨z,p',?_,g2,g3,?_⟩
  ·unfold Fo.comsS;rw[h1];exact g1
  ·rw[g4];cases cs with
   | nil=>rfl
   | cons d cs=>
    rw[bR (a:=c),bR (a:=d),ch];cases hq:(aV d::cs.map aV).getLast? with
    | none=>simp at hq
    | some z=>rfl
theorem gw (hb:∀j,0<=Gr.ob l j/\Gr.ob l j<=40) (hl:∀t∈l,1<=t.line/\t.line<=(src.length:Int)) (hk:∀i t,l[i]? =some t->t.kind=7->l.length=i + 1):
 ∀(ts:List Tok) (i:Nat) (x:LS) (p:Option It) (o:ByteArray) (cs:List Com),l.drop i=ts->i<=l.length->Inv l i x p o->(∀c∈cs,(i:Int)<=c.next)->Todo l src p cs->
  ∃y,Fo.goS l src ts i x cs=some (y,[])/\y.out=cY l src p (bQ ts i cs) o
 | [],i,x,p,o,cs,hd,hi,h,hn,ht=>by
  have hl:l.length<=i:=by
   have:=congrArg List.length hd;simp only[aL,aQ]at this;omega
  have:cs= []:=by
   cases cs with
   | nil=>rfl
   | cons c cs=>
    have:=(ht.next c (by simp)).2;have:=hn c (by simp);omega
  subst this;exact⟨x,rfl,h.out⟩
 | t::ts,i,x,p,o,cs,hd,hi,h,hn,ht=>by
  have hg:l[i]? =some t:=by
   have:=congrArg List.head? hd;rw[bT]at this;exact this
  have hlt:i < l.length:=by
   rcases al i l.length with q | q
   ·exact q
   ·rw[aq q]at hg;cases hg
  have hd2:l.drop (i + 1)=ts:=by
   rw[<-dI,hd,dJ]
  have hsp:=fN i cs;have hnx:∀c∈(a8 i cs).1,c.next=(i:Int):=fun c hc=>by
   have h1:=jr i cs c hc;have h2:=hn c (by rw[hsp];simp[hc]);omega
  have ht':Todo l src p ((a8 i cs).1 ++(a8 i cs).2):=by rw[<-hsp];exact ht
  obtain⟨y,p',g1,g2,g3,g4⟩:=kF (by omega) hb (a8 i cs).1 (a8 i cs).2 x p o h hnx ht';have hrest:∀c∈(a8 i cs).2,((i + 1:Nat):Int)<=c.next:=fun c hc=>by
   have:=gW i cs ht.pair c hc;omega
  unfold Fo.goS bQ;rw[mh i cs hn,g1];simp only;rw[lE,<-g4];unfold Fo.oneS
  by_cases h6:t.kind=6
  ·rw[if_pos h6];simp only;have e1:(t.kind !=6&&t.kind !=7)=false:=by rw[h6];rfl
   rw[e1];simp only[aa,if_false,aP];have hob:Gr.ob l (i + 1)=Gr.ob l i:=by
    rw[iU hg];unfold La.opT Fo.isO;rw[h6];rfl
   have hi2:Inv l (i + 1) {y with semi:=true} p' (cY l src p ((a8 i cs).1.map aV) o):=by
    refine⟨g2.out,g2.opn.trans hob.symm,?_,fun k q1 q2=> ?_,?_,g2.none_,g2.some_⟩
    ·rcases g2.last with q | ⟨j,q1,q2,q3⟩
     ·exact .inl q
     ·exact .inr ⟨j,q1,by omega,q3⟩
    ·rcases al k i with q | q
     ·exact g2.semis k q1 q
     ·have:k=i:=by omega
      subst this;rw[bk hg];exact h6
    ·simp only
     symm
     rw[decide_eq_true_eq];rcases g2.last with q | ⟨j,q1,q2,q3⟩ <;> omega
   exact gw hb hl hk ts (i + 1) _ p' _ (a8 i cs).2 hd2 (by omega) hi2 hrest g3
  ·rw[if_neg h6]
   by_cases h7:t.kind=7
   ·rw[if_pos h7];simp only;have e1:(t.kind !=6&&t.kind !=7)=false:=by rw[h7];rfl
    rw[e1];simp only[aa,if_false,aP];have hlen:=hk i t hg h7;have hts:ts= []:=by
     rw[<-hd2];exact aI (by omega)
    have hcs:(a8 i cs).2= []:=by
     cases hq:(a8 i cs).2 with
     | nil=>rfl
     | cons c r=>
      have q1:=hrest c (by rw[hq];simp);have q2:=(g3.next c (by rw[hq];simp)).2;omega
    rw[hts,hcs];exact⟨y,rfl,g2.out⟩
   ·rw[if_neg h7];have e1:(t.kind !=6&&t.kind !=7)=true:=by
     rw[ae,bne_iff_ne,bne_iff_ne];exact⟨h6,h7⟩
    rw[e1];simp only[if_true,aw,aP];obtain⟨z,k1,k2⟩:=oE (src:=src) g2 hb hg h6 (hl t (bz hg));rw[k1];simp only;refine gw hb hl hk ts (i + 1) z (some (aJ i t)) _ (a8 i cs).2 hd2 (by omega) k2 hrest ⟨g3.pair,g3.line,g3.next,g3.rel,fun b q1 q2=>by (cases q1;cases q2)⟩
theorem kd {s:ByteArray} {l:List Tok} {cs:List Com} (h:Gr.Scanned s l cs) (hb:∀j,0<=Gr.ob l j/\Gr.ob l j<=40):Fo.layS l cs (Fo.linesP s)=some (fQ l cs (Fo.linesP s)):=by
 have h0:Inv l 0 Fo.ls0 none ⟨#[]⟩:=⟨rfl,rfl,.inl rfl,fun k q1 q2=>by omega,rfl,fun _=>⟨rfl,rfl,rfl⟩,fun b q=>by cases q⟩
 obtain⟨y,h1,h2⟩:=gw (src:=Fo.linesP s) hb h.toks h.kinds l 0 Fo.ls0 none ⟨#[]⟩ cs rfl (br _) h0 (fun c hc=>(h.next c hc).1) ⟨h.cpair,h.coms,h.next,fun c hc i t q1 q2=>(h.rel c hc i t q1).1 q2,fun b q=>by cases q⟩;unfold Fo.layS;rw[h1];simp only[Fo.comsS];rw[h2];rfl
structure SI (s:ByteArray) (x:SS):Prop where
 at_:x.at_<=s.size
 len:x.c.length<=x.at_
 txt:∀c∈x.c,c.text.size<=s.size
theorem SI.step {s:ByteArray} {x y:SS} (h1:x.at_ < s.size) (h:SI s x) (q:Sc.step s x=some y):SI s y:=by
 have hle:=step_ok h1 q;have ec:(Sc.semi x).c=x.c:=by unfold Sc.semi;split <;> rfl
 refine⟨hle.2.1,by have:=h.len;omega,?_⟩;cases Gr.jR h1 q with
 | blank h'=>subst h';exact h.txt
 | line h'=>subst h';intro c hc;simp only at hc;rw[ec]at hc;exact h.txt c hc
 | note h'=>
  subst h';intro c hc;simp only[Sc.note,ao,aj]at hc;rcases hc with hc | rfl
  ·exact h.txt c hc
  ·simp only[ByteArray.size_extract];omega
 | tok k e h'=>subst h';exact h.txt
theorem nq (s:ByteArray):SI s (Gr.aR s):=Gr.gX (I:=SI s) (fun x y h1 h2 h3=>SI.step h1 h2 h3) _ _ ⟨br _,br _,fun t ht=>by cases ht⟩
end Rf
end Go.Proofs.Dm
namespace Go.Proofs.Dm
open Go Go.Proofs Go.Proofs.Dm.Sc
open Fo (isO zeroT LS nlB spB pad trimR)
namespace Rf
theorem oD {s:ByteArray} (hs:s.size < 100000) (hf:(scanP s).2.2 < 0):Fo.sizedB (scanP s).1 (scanP s).2.1 (Fo.linesP s)=true:=by
 have h:=Gr.cW hf;obtain⟨_,_,hl⟩:=Gr.scan_good (s:=s) (by omega) hf;obtain⟨_,e2,_⟩:=Gr.eJ hf;have hc:=nq s;have hlen:=Gr.gh s;have hcount:s.data.toList.count 10<=s.size:=by rw[ba_size];exact dk
 have hc1:=hc.len;have hc2:=hc.at_;simp only[Fo.sizedB,ae,aF,decide_eq_true_eq];refine⟨⟨⟨⟨by omega,by rw[e2];omega⟩,fun t ht=> ?_⟩,fun c q=> ?_⟩,fun x hx=> ?_⟩
 ·have h1:=h.toks t ht;have h2:=(Gr.scan_tb t ht).2.2;omega
 ·have h1:=h.coms c q;have h2:=h.next c q;rw[e2]at q;have h3:=hc.txt c q;omega
 ·have:=iC s x hx;omega
def eP (s:ByteArray):List UInt8×Int:=
 if 0<=(Gr.textP s).2.2 then([],(Gr.textP s).2.2)else
  if 2000 <(fQ (scanP s).1 (scanP s).2.1 (Fo.linesP s)).size then([],2000)else((fQ (scanP s).1 (scanP s).2.1 (Fo.linesP s)).data.toList,-1)
theorem np {s:ByteArray} (hs:s.size < 100000):Fo.fmtE s=some (eP s):=by
 unfold Fo.fmtE eP
 by_cases h:0<=(Gr.textP s).2.2
 ·rw[if_pos h,decide_eq_true h,if_pos rfl]
 ·rw[if_neg h,decide_eq_false h,if_neg (by decide)];obtain⟨h1,h2,h3⟩:=Gr.ju (s:=s) (by omega) (by omega);rw[h2];unfold Fo.layE;rw[if_pos (oD hs h1),kd (Gr.cW h1) h3]
end Rf
end Go.Proofs.Dm
namespace Go.Proofs.Dm
open Go Go.Proofs Go.Proofs.Dm.Sc
open Fo (isO zeroT LS nlB spB pad trimR)
namespace Rf
theorem eK {α:Type} {p:α->Bool}:∀{r:List α} {x:α},x∈r.takeWhile p->p x=true
 | [],x,h=>by cases h
 | c::r,x,h=>by
  rw[aA]at h;split at h
  ·rename_i hc;rcases az.1 h with rfl | h
   ·exact hc
   ·exact eK h
  ·cases h
def bU (s:ByteArray):Nat:=stop s (fun b=>b==9) 0
def cL (l:List Tok):Bool:=match l.getLast? with
 | none=>false
 | some t=>onR t
def bE (l:List Tok) (L:List ByteArray) (i:Nat) (ln:ByteArray) (at_:Int):Bool:=
 if !((trimR ln).toList==ln.toList)then false
 else if ln.toList.isEmpty then decide (0 < i)&& !((L[i - 1]?).getD ⟨#[]⟩).toList.isEmpty&&decide (i + 1 < L.length)
 else
  let o:=La.opens (l.take (La.skipD at_ l 0))
  let b:=(ln[bU ln]?).getD 0
  let n:Int:=bU ln
  if b==125 then n==o - 1 else !(b==32)&&(n==o ||(cL (l.take (La.skipD at_ l 0))&&n==o + 1))
def goR (l:List Tok) (L:List ByteArray):List ByteArray->Nat->Int->Int
 | [],_,_=> -1
 | ln::r,i,at_=>if bE l L i ln at_ then goR l L r (i + 1) (at_ +((ln.size:Int)+ 1))else(i:Int)+ 1
def b9 (s:ByteArray):Bool:=match s[s.size - 1]? with
 | some b=>b==10
 | none=>false
end Rf
namespace Gr
theorem oC {s:ByteArray}:∀(n:Nat) (x:SS),x.at_<=s.size->s.size < x.at_ + n->(loopS s n x).2 < 0->(loopS s n x).1.at_=s.size
 | 0,x,h,g,f=>by omega
 | n + 1,x,h,g,f=>by
  unfold loopS at f|-;split
  ·rename_i hlt;rw[if_pos hlt]at f;cases q:Sc.step s x with
   | none=>
    rw[q]at f;simp only at f;omega
   | some y=>
    rw[q]at f;have:=step_ok hlt q;exact oC n y this.2.1 (by omega) f
  ·show x.at_=s.size;omega
theorem oB {s:ByteArray} (hf:(scanP s).2.2 < 0) (i:Nat) (h4:(tokAt (scanP s).1 i).kind=4):isIn ops (tokAt (scanP s).1 i).text=true:=by
 obtain⟨e1,_,_⟩:=eJ hf;have hk:=(kG s).semi;rw[e1]at h4|-;unfold tokAt at h4|-;cases hg:(ended (aR s))[i]? with
 | none=>
  rw[hg]at h4;simp only[eA]at h4;exact absurd h4 (by decide)
 | some t=>
  rw[hg]at h4;simp only[bB]at h4|-;have hm:=bz hg;simp only[ended,ao,aj]at hm;rcases hm with q | rfl
  ·exact(hk t q).2.2 h4
  ·simp at h4
end Gr
end Go.Proofs.Dm
namespace Go.Proofs.Dm
open Go Go.Proofs Go.Proofs.Dm.Sc
inductive Pc where
 | sp (b:UInt8)
 | nl
 | com (w:List UInt8)
 | tok (k:Int) (w:List UInt8)
namespace Pc
def bytes:Pc->List UInt8
 | .sp b=> [b]
 | .nl=> [10]
 | .com w=>w
 | .tok _ w=>w
def ap (x:SS):Pc->SS
 | .sp _=>{x with at_:=x.at_ + 1}
 | .nl=>{semi x with at_:=x.at_ + 1,line:=x.line + 1}
 | .com w=>{semi x with c:=x.c ++ [⟨⟨w.toArray⟩,x.at_,x.line,(semi x).l.length⟩],at_:=x.at_ + w.length}
 | .tok k w=>{x with l:=x.l ++ [⟨k,⟨w.toArray⟩,x.at_,x.line,false⟩],at_:=x.at_ + w.length}
def ff (w:List UInt8) (d:Option UInt8):Bool:=decide (12 < w.length)||(decide (1 < w.length)&&w.head?.any (fun b=>(b.toNat:Int)==48))|| d.any letter
def opQ (c:UInt8) (r:List UInt8):Option (Pc×List UInt8):=
 if r.head?.any (fun d=>isIn ops ⟨#[c,d]⟩)then some (.tok 4 (c::r.take 1),r.drop 1)
 else if isIn ops ⟨#[c]⟩then some (.tok 4 [c],r)else none
def dH (c:UInt8) (r:List UInt8):Option (Pc×List UInt8):=
 let w:=r.takeWhile (fun b=>b !=34&&b !=10)
 if(r.drop w.length).head? =some 34 then some (.tok 3 (c::(w ++ [34])),r.drop (w.length + 1))else none
def bI:List UInt8->Option (Pc×List UInt8)
 | []=>none
 | c::r=>
  if(c.toNat:Int)==10 then some (.nl,r)
  else if(c.toNat:Int)==32 ||(c.toNat:Int)==9 then some (.sp c,r)
  else if c==47&&r.head? ==some 47 then some (.com ((c::r).takeWhile (fun b=>b !=10)),(c::r).dropWhile (fun b=>b !=10))
  else if letter c then(if 24 <((c::r).takeWhile wordB).length then none else some (.tok (if isIn keys ⟨((c::r).takeWhile wordB).toArray⟩then 5 else 1) ((c::r).takeWhile wordB),(c::r).dropWhile wordB))
  else if digit c then(if ff ((c::r).takeWhile digit) ((c::r).dropWhile digit).head? then none else some (.tok 2 ((c::r).takeWhile digit),(c::r).dropWhile digit))
  else if(c.toNat:Int)==34 then dH c r
  else if(c.toNat:Int)==59 then some (.tok 6 [c],r)
  else opQ c r
theorem jq {α:Type} (p:α->Bool) (r:List α):r=r.takeWhile p ++ r.dropWhile p:=List.takeWhile_append_dropWhile.symm
theorem fE (s:ByteArray) (i:Nat):s[i]? =(s.data.toList.drop i).head? :=by
 rw[bT,ba_get]
theorem dR {s:ByteArray} {i:Nat} {c r} (h:s.data.toList.drop i=c::r):i < s.size/\s.data.toList.drop (i + 1)=r/\i +(r.length + 1)=s.size:=by
 have h1:=congrArg List.length h;simp only[aL,av]at h1;have h2:=ba_size s;refine⟨by omega,?_,by omega⟩;rw[<-dI,h,dJ]
theorem eC (s:ByteArray) (i k:Nat):s.extract i (i + k)=⟨((s.data.toList.drop i).take k).toArray⟩:=by
 apply ba_ext;rw[ext_list,ba]
theorem fM {α:Type} (p:α->Bool):∀r:List α,r.take (r.takeWhile p).length=r.takeWhile p
 | []=>rfl
 | c::r=>by
  simp only[aA];split
  ·simp only[av,bG,fM p r]
  ·rfl
theorem iy {α:Type} (p:α->Bool):∀r:List α,r.drop (r.takeWhile p).length=r.dropWhile p
 | []=>rfl
 | c::r=>by
  simp only[aA,bg];split
  ·simp only[av,dw,iy p r]
  ·rfl
theorem eD {s:ByteArray} {x:SS} {r:List UInt8} (hr:s.data.toList.drop x.at_=r) (k:Int) (n:Nat) (hn:n<=r.length):add s k (x.at_ + n) x=ap x (.tok k (r.take n)):=by
 subst hr;simp only[add,ap,eC,dg,Nat.min_eq_left hn]
theorem pL {s:ByteArray} {i:Nat} {c r} (h:s.data.toList.drop i=c::r):slashes s i=(c==47&&r.head? ==some 47):=by
 obtain⟨h1,h2,h3⟩:=dR h;unfold slashes;rw[Lib.toList_data,eC,h];cases r with
 | nil=>
  have:¬i + 2<=s.size:=by simp at h3;omega
  rw[decide_eq_false this];simp
 | cons d r=>
  have:i + 2<=s.size:=by simp at h3;omega
  rw[decide_eq_true this];simp only[cm,bG,fy,cC];rw[bf];simp
theorem qq {s:ByteArray} {x:SS} {c r} (hr:s.data.toList.drop x.at_=c::r):opR s x 2=(opQ c r).map (fun q=>ap x q.1):=by
 obtain⟨h1,h2,h3⟩:=dR hr;have o1:opR s x 1=if isIn ops ⟨#[c]⟩then some (ap x (.tok 4 [c]))else none:=by
  have e1:decide (x.at_ + 1<=s.size)=true:=by simp;omega
  have e2:s.extract x.at_ (x.at_ + 1)=⟨#[c]⟩:=by rw[eC,hr];rfl
  simp only[opR,c9,e1,e2,cm];rw[eD hr 4 1 (by simp)];rfl
 have o2:opR s x 2=if decide (x.at_ + 2<=s.size)&&isIn ops (s.extract x.at_ (x.at_ + 2))then some (add s 4 (x.at_ + 2) x)else opR s x 1:=rfl;rw[o2,o1];cases r with
 | nil=>
  have e1:decide (x.at_ + 2<=s.size)=false:=by simp at h3|-;omega
  rw[e1];show(if(false&&_)=true then _ else _)=Option.map _ (if isIn ops ⟨#[c]⟩=true then some (Pc.tok 4 [c],([]:List UInt8))else none);rw[Bool.false_and,if_neg (by decide)];split <;> rfl
 | cons d r=>
  have e1:decide (x.at_ + 2<=s.size)=true:=by simp at h3|-;omega
  have e2:s.extract x.at_ (x.at_ + 2)=⟨#[c,d]⟩:=by rw[eC,hr];rfl
  rw[e1,e2];show _=Option.map _ (if isIn ops ⟨#[c,d]⟩=true then some (Pc.tok 4 [c,d],r)else if isIn ops ⟨#[c]⟩=true then some (Pc.tok 4 [c],d::r)else none);rw[cm]
  by_cases hq:isIn ops ⟨#[c,d]⟩=true
  ·rw[if_pos hq,if_pos hq,eD hr 4 2 (by simp)];rfl
  ·rw[if_neg hq,if_neg hq];split <;> rfl
theorem fu {s:ByteArray} {x:SS} {r:List UInt8} (hr:s.data.toList.drop x.at_=r):Sc.step s x=(bI r).map (fun q=>ap x q.1):=by
 cases r with
 | nil=>
  have hg:s[x.at_]? =none:=by rw[fE,hr];rfl
  unfold Sc.step;rw[hg];rfl
 | cons c r=>
 obtain⟨h1,h2,h3⟩:=dR hr;have hg:s[x.at_]? =some c:=by rw[fE,hr];rfl
 unfold Sc.step;rw[hg];simp only[bI];split
 ·rfl
 split
 ·rfl
 rw[pL hr];split
 ·unfold Sc.note eol;rw[stop_tw,hr,eC,hr,fM];rfl
 split
 ·rename_i hl;unfold nameS;rw[stop_tw,hr,ba];have hle:((c::r).takeWhile wordB).length<=(c::r).length:=(eS _).length_le;split
  ·rfl
  ·rw[eD hr _ _ hle,fM,eC,hr,fM];rfl
 split
 ·rename_i hd;unfold numS;rw[stop_tw,hr,ba,hg];have hle:((c::r).takeWhile digit).length<=(c::r).length:=(eS _).length_le;have e1:s[x.at_ +((c::r).takeWhile digit).length]? =((c::r).dropWhile digit).head? :=by
   rw[fE,<-cu,hr,iy]
  have e2:((c::r).takeWhile digit).head? =some c:=by rw[aA,if_pos hd];rfl
  rw[e1];have e3:(decide (12 <((c::r).takeWhile digit).length)||(decide (1 <((c::r).takeWhile digit).length)&&(some c).any (fun b=>(b.toNat:Int)==48))||((c::r).dropWhile digit).head?.any letter)=ff ((c::r).takeWhile digit) ((c::r).dropWhile digit).head? :=by
   unfold ff;rw[e2]
  rw[e3];split
  ·rfl
  ·rw[eD hr _ _ hle,fM];rfl
 split
 ·unfold textS dH textE;rw[stop_tw,h2];simp only;have e1:s[x.at_ + 1 +(r.takeWhile (fun b=>b !=34&&b !=10)).length]? =(r.drop (r.takeWhile (fun b=>b !=34&&b !=10)).length).head? :=by
   rw[fE,<-cu,h2]
  rw[e1];split
  ·rename_i hq;have e2:x.at_ + 1 +(r.takeWhile (fun b=>b !=34&&b !=10)).length + 1=x.at_ +((r.takeWhile (fun b=>b !=34&&b !=10)).length + 2):=by omega
   have hlen:(r.takeWhile (fun b=>b !=34&&b !=10)).length < r.length:=by
    rcases al (r.takeWhile (fun b=>b !=34&&b !=10)).length r.length with q | q
    ·exact q
    ·rw[aI q]at hq;cases hq
   rw[e2,eD hr _ _ (by simp only[av];omega)];have e3:(c::r).take ((r.takeWhile (fun b=>b !=34&&b !=10)).length + 2)=c::(r.takeWhile (fun b=>b !=34&&b !=10)++ [34]):=by
    rw[bG,bH,fM];rw[bT]at hq;rw[hq];rfl
   rw[e3];rfl
  ·rfl
 split
 ·rw[eD hr 6 1 (by simp)];rfl
 ·exact qq hr
theorem ef {r:List UInt8} {p:Pc} {r':List UInt8} (h:bI r=some (p,r')):r=bytes p ++ r'/\bytes p≠ []:=by
 cases r with
 | nil=>cases h
 | cons c r=>
 simp only[bI]at h;have tws:∀(q:UInt8->Bool),q c=true->(c::r)=(c::r).takeWhile q ++(c::r).dropWhile q/\(c::r).takeWhile q≠ []:=fun q hq=>⟨jq q _,by rw[aA,if_pos hq];simp⟩
 split at h
 ·rename_i hc;cases h;refine⟨?_,by simp[bytes]⟩;have:c=10:=by
   rw[beq_iff_eq]at hc;apply be.1;show c.toNat=10;omega
  subst this;rfl
 split at h
 ·cases h;exact⟨rfl,by simp[bytes]⟩
 split at h
 ·rename_i hn _ _;cases h;exact tws (fun b:UInt8=>b !=10) (by
   have:c≠10:=by rintro rfl;exact hn rfl
   simpa using this)
 split at h
 ·rename_i hl;split at h
  ·cases h
  ·cases h;exact tws _ (by simp[wordB,hl])
 split at h
 ·rename_i hd;split at h
  ·cases h
  ·cases h;exact tws _ hd
 split at h
 ·unfold dH at h;simp only at h;split at h
  ·rename_i hq;cases h;refine⟨?_,by simp[bytes]⟩;simp only[bytes,aw,ai,aY,true_and];generalize hw:r.takeWhile (fun b=>b !=34&&b !=10)=w at *;have h1:r=w ++ r.drop w.length:=by
    rw[<-hw,iy];exact jq _ _
   rw[bT]at hq;have h2:r.drop w.length=34::r.drop (w.length + 1):=by
    have hlt:w.length < r.length:=by
     rcases al w.length r.length with q | q
     ·exact q
     ·rw[aq q]at hq;cases hq
    rw[aK hlt];rw[ah hlt]at hq;injection hq with hq
    rw[hq]
   conv=>lhs;rw[h1,h2]
   simp
  ·cases h
 split at h
 ·cases h;exact⟨rfl,by simp[bytes]⟩
 ·unfold opQ at h;split at h
  ·cases h;refine⟨?_,by simp[bytes]⟩;simp only[bytes,aw,bj]
  ·split at h
   ·cases h;exact⟨rfl,by simp[bytes]⟩
   ·cases h
inductive Reads:List UInt8->List Pc->Prop where
 | nil:Reads [] []
 | cons {r p r' ps} (h:bI r=some (p,r')) (hr:Reads r' ps):Reads r (p::ps)
theorem Reads.bytes {r ps} (h:Reads r ps):r=(ps.map Pc.bytes).flatten:=by
 induction h with
 | nil=>rfl
 | cons h _ ih=>
  have:=(ef h).1;rw[this,bR,List.flatten_cons,<-ih]
theorem dU (x:SS) (p:Pc):(ap x p).at_=x.at_ +(Pc.bytes p).length:=by
 cases p <;> rfl
theorem Reads.loop {s:ByteArray} {r ps} (h:Reads r ps):∀(n:Nat) (x:SS),s.data.toList.drop x.at_=r->x.at_<=s.size->s.size < x.at_ + n->loopS s n x=(ps.foldl ap x,-1):=by
 induction h with
 | nil=>
  intro n x hr hx hn;have h1:=congrArg List.length hr;simp only[aL,aQ]at h1;have h2:=ba_size s;cases n with
  | zero=>rfl
  | succ n=>unfold loopS;rw[if_neg (by omega)];rfl
 | @cons r p r' ps h _ ih=>
  intro n x hr hx hn;have hb:=ef h;have hst:=fu hr;rw[h]at hst;simp only[cB]at hst;have hlt:x.at_ < s.size:=by
   cases hq:r with
   | nil=>rw[hq]at h;cases h
   | cons c r0=>rw[hq]at hr;exact(dR hr).1
  cases n with
  | zero=>omega
  | succ n=>
   unfold loopS;rw[if_pos hlt,hst];simp only;have hat:=dU x p;have hpos:0 <(Pc.bytes p).length:=dt.2 hb.2;have h5:=(step_ok hlt hst).2.1;rw[bM];refine ih n (ap x p) ?_ h5 (by omega);rw[hat,<-cu,hr,hb.1,fA]
theorem mg {s:ByteArray}:∀(n:Nat) (x:SS) (r:List UInt8),s.data.toList.drop x.at_=r->x.at_<=s.size->s.size < x.at_ + n->(loopS s n x).2 < 0->∃ps,Reads r ps
 | 0,x,r,hr,hx,hn,hf=>by omega
 | n + 1,x,r,hr,hx,hn,hf=>by
  unfold loopS at hf;split at hf
  ·rename_i hlt;have hst:=fu hr;cases hq:bI r with
   | none=>
    rw[hq]at hst;simp only[Option.map_none]at hst;rw[hst]at hf;simp only at hf;omega
   | some q=>
    obtain⟨p,r'⟩:=q;rw[hq]at hst;simp only[cB]at hst;rw[hst]at hf;simp only at hf;have hb:=ef hq;have hat:=dU x p;have hpos:0 <(Pc.bytes p).length:=dt.2 hb.2;have h5:=(step_ok hlt hst).2.1;obtain⟨ps,hps⟩:=mg n (ap x p) r' (by rw[hat,<-cu,hr,hb.1,fA]) h5 (by omega) hf;exact⟨p::ps,.cons hq hps⟩
  ·have:r= []:=by
    rw[<-hr];exact aI (by rw[<-ba_size];omega)
   subst this;exact⟨[],.nil⟩
def Good (p:Pc):Prop:=bI (bytes p)=some (p,[])
def Sep:Pc->Option UInt8->Prop
 | .sp _,_=>True
 | .nl,_=>True
 | .com _,c=>∀b,c=some b->b=10
 | .tok k w,c=>∀b,c=some b->(k=1\/k=5->wordB b=false)/\(k=2->digit b=false/\letter b=false)/\(k=4->∀a,w= [a]->isIn ops ⟨#[a,b]⟩=false)
theorem dA {α:Type} (p:α->Bool):∀(w r:List α),w.all p=true->(∀b,r.head? =some b->p b=false)->(w ++ r).takeWhile p=w/\(w ++ r).dropWhile p=r
 | [],r,h,g=>by
  cases r with
  | nil=>exact⟨rfl,rfl⟩
  | cons c r=>
   have:=g c rfl;simp[aA,bg,this]
 | c::w,r,h,g=>by
  rw[dW,ae]at h;obtain⟨h1,h2⟩:=dA p w r h.2 g;simp only[aw,aA,bg,h.1,if_true,h1,h2,and_self]
theorem fO {α:Type} (p:α->Bool) (r:List α):(r.takeWhile p).all p=true:=by
 rw[aF];intro x hx;exact Rf.eK hx
theorem gk {α:Type} (p:α->Bool):∀(r:List α) b,(r.dropWhile p).head? =some b->p b=false
 | [],b,h=>by cases h
 | c::r,b,h=>by
  rw[bg]at h;split at h
  ·exact gk p r b h
  ·rename_i hc;simp only[cC,ak]at h;subst h;simpa using hc
theorem fp {r:List UInt8} {p:Pc} {r':List UInt8} (h:bI r=some (p,r')):Good p/\Sep p r'.head? :=by
 cases r with
 | nil=>cases h
 | cons c r=>
 have hb:=ef h;unfold Good;simp only[bI]at h;split at h
 ·cases h;exact⟨rfl,True.intro⟩
 rename_i n1;split at h
 ·rename_i n2;cases h;refine⟨?_,True.intro⟩;simp only[bytes,bI,n1,n2,if_true,aa,if_false]
 rename_i n2;split at h
 ·rename_i n3;cases h;have hc10:(fun b:UInt8=>b !=10) c=true:=by
   have:c≠10:=by rintro rfl;exact n1 rfl
   simpa using this
  refine⟨?_,fun b hb=>by
   have:=gk (fun b:UInt8=>b !=10) _ b hb;simpa using this⟩
  have e:(c::r).takeWhile (fun b=>b !=10)=c::r.takeWhile (fun b=>b !=10):=by rw[aA,if_pos hc10]
  have hh:(r.takeWhile (fun b=>b !=10)).head? =r.head? :=by
   rw[ae,beq_iff_eq,beq_iff_eq]at n3;cases r with
   | nil=>rfl
   | cons d r=>
    have:d=47:=by simpa using n3.2
    subst this;rfl
  have hall:=fO (fun b:UInt8=>b !=10) (c::r);have ht:=dA (fun b:UInt8=>b !=10) _ [] hall (fun b h=>by cases h);rw[aZ]at ht;simp only[bytes];rw[e]at ht|-;simp only[bI];rw[if_neg n1,if_neg n2,hh,if_pos n3,ht.1,ht.2]
 rename_i n3;have n3':∀r2:List UInt8,r2.head? =none\/r2.head? =r.head? ->¬(c==47&&r2.head? ==some 47)=true:=by
  intro r2 h2;rcases h2 with h2 | h2
  ·rw[h2];simp
  ·rw[h2];exact n3
 split at h
 ·rename_i hl;split at h
  ·cases h
  ·rename_i hlen;cases h;refine⟨?_,fun b hb=>⟨fun _=>gk wordB _ b hb,?_,?_⟩⟩
   ·have hw:wordB c=true:=by simp[wordB,hl]
    have e:(c::r).takeWhile wordB=c::r.takeWhile wordB:=by rw[aA,if_pos hw]
    have hall:=fO wordB (c::r);have ht:=dA wordB _ [] hall (fun b h=>by cases h);rw[aZ]at ht;simp only[bytes];rw[e]at ht hlen|-;have hx:¬(c==47&&(r.takeWhile wordB).head? ==some 47)=true:=by
     cases hq:(r.takeWhile wordB).head? with
     | none=>simp
     | some d=>
      cases r with
      | nil=>cases hq
      | cons d' r=>
       rw[aA]at hq;split at hq
       ·simp only[cC,ak]at hq;subst hq;exact n3
       ·cases hq
    simp only[bI];rw[if_neg n1,if_neg n2,if_neg hx,if_pos hl,ht.1,ht.2,if_neg hlen]
   ·intro hk;split at hk <;> omega
   ·intro hk;split at hk <;> omega
 rename_i hl;split at h
 ·rename_i hd;split at h
  ·cases h
  ·rename_i hnum;cases h;refine⟨?_,fun b hb=>⟨fun hk=>by omega,fun _=>⟨gk digit _ b hb,?_⟩,fun hk=>by omega⟩⟩
   ·have e:(c::r).takeWhile digit=c::r.takeWhile digit:=by rw[aA,if_pos hd]
    have hall:=fO digit (c::r);have ht:=dA digit _ [] hall (fun b h=>by cases h);rw[aZ]at ht;have hnum':¬ff ((c::r).takeWhile digit) none=true:=by
     intro q;apply hnum;unfold ff at q|-;rw[aG]at q|-;rcases q with q | q
     ·exact .inl q
     ·cases q
    simp only[bytes];rw[e]at ht hnum'|-;have hx:¬(c==47&&(r.takeWhile digit).head? ==some 47)=true:=by
     cases hq:(r.takeWhile digit).head? with
     | none=>simp
     | some d=>
      cases r with
      | nil=>cases hq
      | cons d' r=>
       rw[aA]at hq;split at hq
       ·simp only[cC,ak]at hq;subst hq;exact n3
       ·cases hq
    simp only[bI];rw[if_neg n1,if_neg n2,if_neg hx,if_neg hl,if_pos hd,ht.1,ht.2,List.head?_nil,if_neg hnum']
   ·unfold ff at hnum;rw[aG,not_or]at hnum;rw[hb]at hnum;simpa using hnum.2
 rename_i hd;split at h
 ·rename_i hq;unfold dH at h;simp only at h;split at h
  ·rename_i hh;cases h;refine⟨?_,fun b hb=>⟨fun hk=>by omega,fun hk=>by omega,fun hk=>by omega⟩⟩;generalize hw:r.takeWhile (fun b=>b !=34&&b !=10)=w at *;have hall:w.all (fun b=>b !=34&&b !=10)=true:=by rw[<-hw];exact fO _ _
   have ht:=dA (fun b:UInt8=>b !=34&&b !=10) w [34] hall (fun b h=>by
    simp only[cC,ak]at h;subst h;rfl)
   have hx:¬(c==47&&(w ++ [34]).head? ==some 47)=true:=by
    have:c≠47:=by
     rintro rfl;exact absurd hq (by decide)
    simp[this]
   simp only[bytes,bI];rw[if_neg n1,if_neg n2,if_neg hx,if_neg hl,if_neg hd,if_pos hq];unfold dH;simp only;rw[ht.1];simp
  ·cases h
 rename_i hq;split at h
 ·rename_i hs;cases h;refine⟨?_,fun b hb=>⟨fun hk=>by omega,fun hk=>by omega,fun hk=>by omega⟩⟩;have hx:¬(c==47&&([]:List UInt8).head? ==some 47)=true:=by simp
  simp only[bytes,bI];rw[if_neg n1,if_neg n2,if_neg hx,if_neg hl,if_neg hd,if_neg hq,if_pos hs]
 ·rename_i hs;unfold opQ at h;split at h
  ·rename_i ho;cases h;cases r with
   | nil=>cases ho
   | cons d r=>
    refine⟨?_,fun b hb=>⟨fun hk=>by omega,fun hk=>by omega,fun _ a ha=>by simp at ha⟩⟩;simp only[cC,eR]at ho;simp only[bytes,bG,fy,bI];have hx:¬(c==47&&([d]:List UInt8).head? ==some 47)=true:=n3;rw[if_neg n1,if_neg n2,if_neg hx,if_neg hl,if_neg hd,if_neg hq,if_neg hs];unfold opQ;simp[ho]
  ·rename_i ho;split at h
   ·rename_i hi;cases h;refine⟨?_,fun b hb=>⟨fun hk=>by omega,fun hk=>by omega,fun _ a ha=> ?_⟩⟩
    ·have hx:¬(c==47&&([]:List UInt8).head? ==some 47)=true:=by simp
     simp only[bytes,bI];rw[if_neg n1,if_neg n2,if_neg hx,if_neg hl,if_neg hd,if_neg hq,if_neg hs];unfold opQ;simp[hi]
    ·simp only[aY,and_true]at ha;subst ha;rw[hb]at ho;simpa using ho
   ·cases h
theorem lD (w:List UInt8) (h:w.head? =some 47):isIn ops ⟨w.toArray⟩=false:=by
 rw[c8];intro hi;simp only[isIn,bO,eqB,beq_iff_eq]at hi;obtain⟨o,ho,he⟩:=hi;have h3:ops.all (fun x=> !(x.toList.head? ==some 47))=true:=by kernel_rfl
 have h4:=aF.1 h3 o ho;rw[<-he,Lib.toList_data]at h4;simp only at h4;rw[h]at h4;simp at h4
theorem pK {r:List UInt8} {p:Pc} {r':List UInt8} (n3:¬((47:UInt8)==47&&r.head? ==some 47)=true) (h:bI (47::r)=some (p,r')):False:=by
 simp only[bI]at h;rw[if_neg (by decide),if_neg (by decide),if_neg n3,if_neg (by decide),if_neg (by decide),if_neg (by decide),if_neg (by decide)]at h;unfold opQ at h;have h1:isIn ops ⟨#[47]⟩=false:=lD [47] rfl;cases r with
 | nil=>simp[h1]at h
 | cons d r=>
  have h2:isIn ops ⟨#[47,d]⟩=false:=lD [47,d] rfl;simp[h1,h2]at h
theorem dE {α:Type} {q:α->Bool} {r:List α} (h:r.dropWhile q= []):r.all q=true:=by
 rw[aF];exact Rf.gj.1 h
theorem glue {p:Pc} {r:List UInt8} (g:Good p) (s:Sep p r.head?):bI (bytes p ++ r)=some (p,r):=by
 unfold Good at g;generalize hb:bytes p=b at g|-;cases b with
 | nil=>cases g
 | cons c w=>
 have h:=g;show bI (c::(w ++ r))=_;simp only[bI]at h|-;split at h
 ·rename_i n1;cases h;rw[if_pos n1];rfl
 rename_i n1;rw[if_neg n1];split at h
 ·rename_i n2;cases h;rw[if_pos n2];rfl
 rename_i n2;rw[if_neg n2];split at h
 ·rename_i n3;simp only[ak,aD]at h;obtain⟨rfl,h2⟩:=h;have ha:=dE h2;have hh:¬w= []:=by rintro rfl;simp at n3
  have hw:(w ++ r).head? =w.head? :=by
   cases w with
   | nil=>exact absurd rfl hh
   | cons d w=>rfl
  rw[hw,if_pos n3];have ht:=dA (fun b:UInt8=>b !=10) (c::w) r ha (fun b q=>by
   have:=s b q;subst this;rfl)
  rw[aw]at ht;have h0:=dA (fun b:UInt8=>b !=10) (c::w) [] ha (fun b q=>by cases q);rw[aZ]at h0;rw[ht.1,ht.2,h0.1]
 rename_i n3;have n3':¬(c==47&&(w ++ r).head? ==some 47)=true:=by
  intro q;rw[ae,beq_iff_eq]at q;obtain⟨rfl,_⟩:=q;exact pK n3 g
 rw[if_neg n3'];split at h
 ·rename_i hl;rw[if_pos hl];split at h
  ·cases h
  ·rename_i hlen;simp only[ak,aD]at h;obtain⟨rfl,h2⟩:=h;have ha:=dE h2;have ht:=dA wordB (c::w) r ha (fun b q=>(s b q).1 (by split <;> simp));rw[aw]at ht;have h0:=dA wordB (c::w) [] ha (fun b q=>by cases q);rw[aZ]at h0;rw[h0.1]at hlen;rw[ht.1,ht.2,h0.1,if_neg hlen]
 rename_i hl;rw[if_neg hl];split at h
 ·rename_i hd;rw[if_pos hd];split at h
  ·cases h
  ·rename_i hnum;simp only[ak,aD]at h;obtain⟨rfl,h2⟩:=h;have ha:=dE h2;have ht:=dA digit (c::w) r ha (fun b q=>((s b q).2.1 rfl).1);rw[aw]at ht;have h0:=dA digit (c::w) [] ha (fun b q=>by cases q);rw[aZ]at h0;rw[h0.1,h0.2]at hnum;have hnum':¬ff (c::w) r.head? =true:=by
    intro q;apply hnum;unfold ff at q|-;rw[aG]at q|-;rcases q with q | q
    ·exact .inl q
    ·exfalso
     cases hr:r.head? with
     | none=>rw[hr]at q;cases q
     | some b=>
      rw[hr]at q;have:=((s b hr).2.1 rfl).2;simp only[eR]at q;rw[this]at q;cases q
   rw[ht.1,ht.2,h0.1,if_neg hnum']
 rename_i hd;rw[if_neg hd];split at h
 ·rename_i hq;rw[if_pos hq];unfold dH at h|-;simp only at h|-;split at h
  ·rename_i hh;simp only[ak,aD]at h;obtain⟨rfl,h2⟩:=h;generalize hw:w.takeWhile (fun b=>b !=34&&b !=10)=v at *;have hall:v.all (fun b=>b !=34&&b !=10)=true:=by rw[<-hw];exact fO _ _
   have hvw:w=v ++ [34]:=by
    have e1:w=v ++ w.drop v.length:=by
     rw[<-hw,iy];exact jq _ _
    rw[bT]at hh;have hlt:v.length < w.length:=by
     rcases al v.length w.length with q | q
     ·exact q
     ·rw[aq q]at hh;cases hh
    have e2:w.drop v.length= [34]:=by
     rw[aK hlt,h2];rw[ah hlt]at hh;injection hh with hh
     rw[hh]
    rw[e2]at e1;exact e1
   have ht:=dA (fun b:UInt8=>b !=34&&b !=10) v (34::r) hall (fun b h=>by
    simp only[cC,ak]at h;subst h;rfl)
   have e:w ++ r=v ++ 34::r:=by rw[hvw];simp
   rw[e,ht.1];simp
  ·cases h
 rename_i hq;rw[if_neg hq];split at h
 ·rename_i hs;rw[if_pos hs];simp only[ak,aD]at h;obtain⟨rfl,rfl⟩:=h;rfl
 ·rename_i hs;rw[if_neg hs];unfold opQ at h|-;split at h
  ·rename_i ho;simp only[ak,aD]at h;obtain⟨rfl,h2⟩:=h;cases w with
   | nil=>cases ho
   | cons d w=>
    simp only[dw,cI]at h2;subst h2;have ho':(([d] ++ r).head?.any fun d=>isIn ops ⟨#[c,d]⟩)=true:=ho;rw[if_pos ho'];rfl
  ·split at h
   ·rename_i hi;simp only[ak,aD]at h;obtain⟨rfl,rfl⟩:=h;have:¬(([] ++ r).head?.any fun d=>isIn ops ⟨#[c,d]⟩)=true:=by
     intro q;rw[aP]at q;cases hr:r.head? with
     | none=>rw[hr]at q;cases q
     | some b=>
      rw[hr]at q;have:=(s b hr).2.2 rfl c rfl;simp only[eR]at q;rw[this]at q;cases q
    rw[if_neg this,if_pos hi];rfl
   ·cases h
end Pc
end Go.Proofs.Dm
set_option maxHeartbeats 8000000
namespace Go.Proofs.Dm
open Go Go.Proofs Go.Proofs.Dm.Sc
namespace Pc
def dec (r:List UInt8):Nat×Nat:=Lib.decodeN r.length (r.getD 0 0).toNat (r.getD 1 0).toNat (r.getD 2 0).toNat (r.getD 3 0).toNat
def badR (r:List UInt8):Bool:=badN (dec r).1 (dec r).2
theorem oA (s:ByteArray) (i k:Nat):s.get! (i + k)=(s.data.toList.drop i).getD k 0:=by
 rw[bC,cR];show s.data[i + k]! =_;rw[Array.getElem!_eq_getD,Array.getD_eq_getD_getElem?];simp;rfl
theorem iB (s:ByteArray) (i:Nat):Utf8.decode s i=dec (s.data.toList.drop i):=by
 rw[Lib.decode_at];unfold dec;have h:=oA s i;have h0:=h 0;rw[dG]at h0;rw[h0,h 1,h 2,h 3,aL,<-ba_size]
theorem qc (s:ByteArray) {i:Nat} (h:i < s.size):badAt s i=badR (s.data.toList.drop i):=by
 unfold badAt badR;have e:Lib.decodeGo (s.extract i s.size)=dec (s.data.toList.drop i):=by
  unfold Lib.decodeGo;have hz:¬(s.extract i s.size).size=0:=by simp;omega
  rw[if_neg hz,iB,cI,ext_list]
  congr 1
  rw[cZ];rw[aL,<-ba_size];omega
 rw[e,iB]
inductive V:List UInt8->Prop where
 | nil:V []
 | cons {r} (h:r≠ []) (hb:badR r=false) (hr:V (r.drop (dec r).2)):V r
theorem V.inv {r:List UInt8} (h:V r) (hne:r≠ []):badR r=false/\V (r.drop (dec r).2):=by
 cases h with
 | nil=>exact absurd rfl hne
 | cons _ a b=>exact⟨a,b⟩
theorem kE {s:ByteArray}:∀(n i:Nat),s.size<=i + n->i<=s.size->(faultF s n i= -1↔V (s.data.toList.drop i))
 | 0,i,h,hi=>by
  have:s.data.toList.drop i= []:=aI (by rw[<-ba_size];omega);rw[this];exact⟨fun _=> .nil,fun _=>rfl⟩
 | n + 1,i,h,hi=>by
  unfold faultF
  by_cases hlt:i < s.size
  ·rw[if_pos hlt,qc s hlt,iB];have hne:s.data.toList.drop i≠ []:=by
    intro q;have:=congrArg List.length q;rw[aL,<-ba_size]at this;simp at this;omega
   cases hb:badR (s.data.toList.drop i)with
   | true=>
    simp only[if_true];refine⟨fun q=>by omega,fun q=> ?_⟩;have:=(q.inv hne).1;rw[hb]at this;cases this
   | false=>
    simp only[aa,if_false];have hw:1<=(dec (s.data.toList.drop i)).2:=by rw[<-iB];exact decW s i
    rcases al s.size (i +(dec (s.data.toList.drop i)).2)with q | q
    ·have e:(s.data.toList.drop i).drop (dec (s.data.toList.drop i)).2= []:=by
      rw[cu];exact aI (by rw[<-ba_size];omega)
     have e2:faultF s n (i +(dec (s.data.toList.drop i)).2)= -1:=by
      cases n with
      | zero=>rfl
      | succ n=>unfold faultF;rw[if_neg (by omega)]
     rw[e2];exact⟨fun _=> .cons hne hb (by rw[e];exact .nil),fun _=>rfl⟩
    ·rw[kE n _ (by omega) q,<-cu];exact⟨fun q=> .cons hne hb q,fun q=>(q.inv hne).2⟩
  ·rw[if_neg hlt];have:s.data.toList.drop i= []:=aI (by rw[<-ba_size];omega);rw[this];exact⟨fun _=> .nil,fun _=>rfl⟩
theorem kD {r:List UInt8} (hr:r≠ []) (hb:badR r=false):1<=(dec r).2/\(dec r).2<=r.length/\(∀k,1<=k->k <(dec r).2->128<=(r.getD k 0).toNat)/\
  ∀r':List UInt8,(dec r).2<=r'.length->(∀k,k <(dec r).2->r'.getD k 0=r.getD k 0)->dec r'=dec r:=by
 have hlen:0 < r.length:=dt.2 hr;have hnb:¬((dec r).1=65533/\(dec r).2=1):=by
  rintro⟨q1,q2⟩;unfold badR badN at hb;rw[q1,q2]at hb;simp at hb
 obtain⟨b0,e0⟩:∃b0,b0=(r.getD 0 0).toNat:=⟨_,rfl⟩
 obtain⟨b1,e1⟩:∃b1,b1=(r.getD 1 0).toNat:=⟨_,rfl⟩
 obtain⟨b2,e2⟩:∃b2,b2=(r.getD 2 0).toNat:=⟨_,rfl⟩
 obtain⟨b3,e3⟩:∃b3,b3=(r.getD 3 0).toNat:=⟨_,rfl⟩
 have hd:dec r=Lib.decodeN r.length b0 b1 b2 b3:=by rw[e0,e1,e2,e3];rfl
 have key : ∀ (w v : Nat), Lib.decodeN r.length b0 b1 b2 b3 = (v, w) -> ¬ (v = 65533 /\ w = 1) -> 1 <= w /\ w <= r.length /\ (1 < w -> 128 <= b1) /\ (2 < w -> 128 <= b2) /\ (3 < w -> 128 <= b3) /\ w <= 4 /\
     ∀n' c1 c2 c3,w<=n'->(1 < w->c1=b1)->(2 < w->c2=b2)->(3 < w->c3=b3)->Lib.decodeN n' b0 c1 c2 c3=(v,w):=by
   intro w v h hn
   unfold Lib.decodeN at h
   split at h
   · rename_i q1
     simp only[aD]at h
     obtain⟨rfl,rfl⟩:=h
     refine⟨by omega,by omega,by omega,by omega,by omega,by omega,fun n' c1 c2 c3 g0 g1 g2 g3=> ?_⟩
     unfold Lib.decodeN
     rw[if_pos q1]
   rename_i n1
   split at h
   · rename_i q1
     split at h
     · rename_i q2
       simp only[aD]at h
       obtain⟨rfl,rfl⟩:=h
       refine⟨by omega,by omega,by omega,by omega,by omega,by omega,fun n' c1 c2 c3 g0 g1 g2 g3=> ?_⟩
       obtain rfl:=g1 (by omega)
       unfold Lib.decodeN
       rw[if_neg n1,if_pos ⟨q1.1,by omega,q1.2.2⟩,if_pos q2]
     · simp only[aD]at h
       exact absurd ⟨h.1.symm,h.2.symm⟩ hn
   rename_i n2
   split at h
   · rename_i q1
     split at h
     · rename_i q2
       simp only[aD]at h
       obtain⟨rfl,rfl⟩:=h
       refine⟨by omega,by omega,by omega,by omega,by omega,by omega,fun n' c1 c2 c3 g0 g1 g2 g3=> ?_⟩
       obtain rfl:=g1 (by omega)
       obtain rfl:=g2 (by omega)
       unfold Lib.decodeN
       rw[if_neg n1,if_neg (by omega),if_pos ⟨q1.1,⟨by omega,q1.2.1.2⟩,by omega,q1.2.2.2⟩,if_pos q2]
     · simp only[aD]at h
       exact absurd ⟨h.1.symm,h.2.symm⟩ hn
   rename_i n3
   split at h
   · rename_i q1
     split at h
     · rename_i q2
       simp only[aD]at h
       obtain⟨rfl,rfl⟩:=h
       refine⟨by omega,by omega,by omega,by omega,by omega,by omega,fun n' c1 c2 c3 g0 g1 g2 g3=> ?_⟩
       obtain rfl:=g1 (by omega)
       obtain rfl:=g2 (by omega)
       obtain rfl:=g3 (by omega)
       unfold Lib.decodeN
       rw[if_neg n1,if_neg (by omega),if_neg (by omega),if_pos ⟨q1.1,⟨by omega,q1.2.1.2⟩,⟨by omega,q1.2.2.1.2⟩,by omega,q1.2.2.2.2⟩,if_pos q2]
     · simp only[aD]at h
       exact absurd ⟨h.1.symm,h.2.symm⟩ hn
   · simp only[aD]at h
     exact absurd ⟨h.1.symm,h.2.symm⟩ hn
 obtain⟨g1,g2,g3,g4,g5,g6,g7⟩:=key (dec r).2 (dec r).1 hd.symm hnb;refine⟨g1,g2,fun k h1 h2=> ?_,fun r' h1 h2=> ?_⟩
 ·have:k=1\/k=2\/k=3:=by omega
  rcases this with rfl | rfl | rfl
  ·rw[<-e1];exact g3 h2
  ·rw[<-e2];exact g4 h2
  ·rw[<-e3];exact g5 h2
 ·have e:dec r'=Lib.decodeN r'.length b0 (r'.getD 1 0).toNat (r'.getD 2 0).toNat (r'.getD 3 0).toNat:=by
   unfold dec;rw[h2 0 (by omega),<-e0]
  rw[e,g7 r'.length _ _ _ h1 (fun q=>by rw[h2 1 q,e1]) (fun q=>by rw[h2 2 q,e2]) (fun q=>by rw[h2 3 q,e3])]
theorem V.app {a b:List UInt8} (ha:V a) (hb:V b):V (a ++ b):=by
 induction ha with
 | nil=>exact hb
 | @cons r h hbad hr ih=>
  obtain⟨k1,k2,k3,k4⟩:=kD h hbad;have e:=k4 (r ++ b) (by rw[aE];omega) (fun k hk=>by
   rw[bC,bC,aS (by omega)])
  refine .cons (by simp[h]) (by unfold badR;rw[e];exact hbad) ?_;rw[e,dh k2];exact ih
theorem V.cut:∀(n:Nat) (a b:List UInt8),a.length<=n->(∀c,b.head? =some c->c.toNat < 128)->V (a ++ b)->V a/\V b
 | n,[],b,hn,hh,h=>⟨.nil,h⟩
 | 0,c::a,b,hn,hh,h=>by simp at hn
 | n + 1,c::a,b,hn,hh,h=>by
  cases h with
  | cons h hb hr=>
   obtain⟨k1,k2,k3,k4⟩:=kD h hb;generalize hw:dec (c::a ++ b)=d at *;have hwa:d.2<=(c::a).length:=by
    rcases al (c::a).length d.2 with q | q
    ·exfalso
     have h3:=k3 (c::a).length (by simp) q;rw[bC,bV (au _),iF]at h3;cases b with
     | nil=>
      simp only[aZ]at k2;omega
     | cons e b=>
      have:=hh e rfl;simp only[cj,bB]at h3;omega
    ·exact q
   have e:=k4 (c::a) hwa (fun k hk=>by
    rw[bC,bC,aS (by omega)])
   rw[dh hwa]at hr;obtain⟨g1,g2⟩:=V.cut n ((c::a).drop d.2) b (by rw[aL];simp only[av]at hn|-;omega) hh hr;refine⟨.cons (by simp) ?_ (by rw[e];exact g1),g2⟩;unfold badR at hb|-;rw[e];rw[hw]at hb;exact hb
theorem V.one {b:UInt8} (h:b=32\/b=9\/b=10):V [b]:=by
 have e:dec [b]=(b.toNat,1)/\badR [b]=false:=by
  rcases h with rfl | rfl | rfl <;> exact⟨rfl,rfl⟩
 refine .cons (by simp) e.2 ?_;rw[e.1];exact .nil
end Pc
end Go.Proofs.Dm
set_option maxHeartbeats 4000000
namespace Go.Proofs.Dm
open Go Go.Proofs Go.Proofs.Dm.Sc
namespace Gr
variable {α β:Type} {l:List Tok} {P:Nat->Prop}
def bL (t:Tok):Bool:=t.kind==4&&t.text.toList== [33]
def cP (t:Tok):Bool:= !(t.kind==4&&t.text.toList.head? ==some 61)
def kf (l:List Tok) (j:Nat):Prop:=(tokAt l j).kind≠6/\(ends (tokAt l j)=true\/Fo.isO (tokAt l j) [123]=true)
def cq (l:List Tok) (a i:Nat):Prop:=(tokAt l i).kind=6->∃j,a<=j/\j < i/\(∀k,j < k->k < i->(tokAt l k).kind=6)/\kf l j
structure Rd (l:List Tok) (a a':Nat):Prop where
 le:a<=a'
 sem:∀i,a<=i->i < a'->cq l a i
 er:∀i,a<=i->i < a'->bL (tokAt l i)=true->i + 1 < a'/\cP (tokAt l (i + 1))=true
def En (l:List Tok) (a a':Nat):Prop:=a < a'->(tokAt l (a' - 1)).kind≠6/\ends (tokAt l (a' - 1))=true
def Fs (l:List Tok) (a a':Nat):Prop:=a < a'/\cP (tokAt l a)=true
theorem cq.mono {a b i:Nat} (h:cq l b i) (hab:a<=b):cq l a i:=fun q=>by
 obtain⟨j,h1,h2⟩:=h q;exact⟨j,by omega,h2⟩
theorem Rd.refl {a:Nat}:Rd l a a:=⟨au _,fun i h g=>by omega,fun i h g=>by omega⟩
theorem Rd.trans {a b c:Nat} (h:Rd l a b) (g:Rd l b c):Rd l a c:=⟨Nat.le_trans h.le g.le,fun i q1 q2=>by
  rcases al i b with q | q
  ·exact h.sem i q1 q
  ·exact(g.sem i q q2).mono h.le,
 fun i q1 q2 q3=>by
  rcases al i b with q | q
  ·have:=h.er i q1 q q3;exact⟨by have:=g.le;omega,this.2⟩
  ·exact g.er i q q2 q3⟩
def ntk (l:List Tok) (i:Nat):Prop:=(tokAt l i).kind≠6/\bL (tokAt l i)=false
theorem Rd.one {a:Nat} (h:ntk l a):Rd l a (a + 1):=⟨by omega,fun i q1 q2 q=>by
 have:i=a:=by omega
 subst this;exact absurd q h.1,fun i q1 q2 q=>by
 have:i=a:=by omega
 subst this;rw[h.2]at q;cases q⟩
def Rg (l:List Tok) (P:Nat->Prop) (en fs:Bool) (s:G α):Prop:=∀d a x a',P a->s d a= .ok x a'->Rd l a a'/\(en=true->En l a a')/\(fs=true->Fs l a a')
def Rn (l:List Tok) (P:Nat->Prop) (en:Bool) (s:G α):Prop:=∀d a x a',P a->s d a= .ok x a'->Rd l a a'/\a < a'/\(en=true->En l a a')
theorem Rn.g {en:Bool} {s:G α} (h:Rn l P en s):Rg l P en false s:=fun d a x a' hp q=>⟨(h d a x a' hp q).1,(h d a x a' hp q).2.2,(fun q=>by cases q)⟩
theorem Rg.n {en:Bool} {s:G α} (h:Rg l P en true s):Rn l P en s:=fun d a x a' hp q=>⟨(h d a x a' hp q).1,((h d a x a' hp q).2.2 rfl).1,(h d a x a' hp q).2.1⟩
theorem Rn.use {en:Bool} {s:G α} (h:Rn l Any en s):Rn l P en s:=fun d a x a' _ q=>h d a x a' True.intro q
theorem Rg.use {en fs:Bool} {s:G α} (h:Rg l Any en fs s):Rg l P en fs s:=fun d a x a' _ q=>h d a x a' True.intro q
theorem Rg.weak {en fs:Bool} {s:G α} (h:Rg l P en fs s):Rg l P false false s:=fun d a x a' hp q=>⟨(h d a x a' hp q).1,(fun q=>by cases q),(fun q=>by cases q)⟩
theorem Rn.weak {en:Bool} {s:G α} (h:Rn l P en s):Rn l P false s:=fun d a x a' hp q=>⟨(h d a x a' hp q).1,(h d a x a' hp q).2.1,(fun q=>by cases q)⟩
theorem En.left {a b c:Nat} (hab:a < b) (h:En l a b) (g:En l b c) (hbc:b<=c):En l a c:=by
 intro _;rcases aT hbc with q | q
 ·subst q;exact h hab
 ·exact g q
theorem Rn.left {en:Bool} {s:G α} {t:α->G β} (h:Rn l P en s) (ht:∀x,Rg l Any en false (t x)):Rn l P en (Gr.bind s t):=by
 intro d a x a' hp q;obtain⟨y,b,h1,h2⟩:=aN q;obtain⟨r1,r2,r3⟩:=h d a y b hp h1;obtain⟨g1,g2,_⟩:=ht y d b x a' True.intro h2;exact⟨r1.trans g1,by have:=g1.le;omega,fun e=>En.left r2 (r3 e) (g2 e) g1.le⟩
theorem Rn.right {en e1 f1:Bool} {s:G α} {t:α->G β} (h:Rg l P e1 f1 s) (ht:∀x,Rn l Any en (t x)):Rn l P en (Gr.bind s t):=by
 intro d a x a' hp q;obtain⟨y,b,h1,h2⟩:=aN q;obtain⟨r1,_⟩:=h d a y b hp h1;obtain⟨g1,g2,g3⟩:=ht y d b x a' True.intro h2;refine⟨r1.trans g1,by have:=r1.le;omega,fun e _=>g3 e g2⟩
theorem Rg.first {e1:Bool} {s:G α} {t:α->G β} (h:Rg l P e1 true s) (ht:∀x,Rg l Any false false (t x)):Rg l P false true (Gr.bind s t):=by
 intro d a x a' hp q;obtain⟨y,b,h1,h2⟩:=aN q;obtain⟨r1,r2,r3⟩:=h d a y b hp h1;obtain⟨g1,g2,_⟩:=ht y d b x a' True.intro h2;have k:=r3 rfl;exact⟨r1.trans g1,(fun e=>by cases e),fun _=>⟨by have:=g1.le;have:=k.1;omega,k.2⟩⟩
theorem Rg.join {en fs e1 f1 e2 f2:Bool} {s:G α} (h:Rg l P en f1 s) (g:Rg l P e2 fs s):Rg l P en fs s:=fun d a x a' hp q=>⟨(h d a x a' hp q).1,(h d a x a' hp q).2.1,(g d a x a' hp q).2.2⟩
theorem Rg.mk {en:Bool} {s:G α} (h:Rn l P en s) (g:Rg l P false true s):Rg l P en true s:=fun d a x a' hp q=>⟨(h d a x a' hp q).1,(h d a x a' hp q).2.2,(g d a x a' hp q).2.2⟩
theorem Rg.adv {en fs:Bool} {s:Int->G β} (hp:∀a,P a->ntk l a) (ht:∀x,Rg l Any false fs (s x)):Rg l P false false (Gr.bind (Gr.adv l) s):=by
 intro d a x a' h q;obtain⟨y,b,h1,h2⟩:=aN q;obtain⟨rfl,_⟩:=cn h1;exact⟨(Rd.one (hp a h)).trans (ht _ d _ x a' True.intro h2).1,(fun e=>by cases e),(fun e=>by cases e)⟩
theorem Rn.adv {en:Bool} {s:Int->G β} (hp:∀a,P a->ntk l a) (ht:∀x,Rn l Any en (s x)):Rn l P en (Gr.bind (Gr.adv l) s):=by
 intro d a x a' h q;obtain⟨y,b,h1,h2⟩:=aN q;obtain⟨rfl,_⟩:=cn h1;obtain⟨g1,g2,g3⟩:=ht _ d _ x a' True.intro h2;exact⟨(Rd.one (hp a h)).trans g1,by omega,fun e _=>g3 e g2⟩
theorem Rn.iE {en:Bool} {s:Int->G β} (hp:∀a,P a->ntk l a/\(en=true->ends (tokAt l a)=true)) (ht:∀x,Rg l Any en false (s x)):Rn l P en (Gr.bind (Gr.adv l) s):=by
 intro d a x a' h q;obtain⟨y,b,h1,h2⟩:=aN q;obtain⟨rfl,_⟩:=cn h1;obtain⟨k1,k2⟩:=hp a h;obtain⟨g1,g2,_⟩:=ht _ d _ x a' True.intro h2;exact⟨(Rd.one k1).trans g1,by have:=g1.le;omega,fun e=>En.left (by omega) (fun _=>by rw[aU];exact⟨k1.1,k2 e⟩) (g2 e) g1.le⟩
theorem cG {i:Nat} {s:ByteArray} (h:Pp.word (tokAt l i) s=true) (h1:s.data.toList≠ [33]):ntk l i:=by
 unfold Pp.word at h;rw[ae,aG,beq_iff_eq,beq_iff_eq,beq_iff_eq]at h;refine⟨by rcases h.1 with q | q <;> rw[q] <;> decide,?_⟩;unfold bL;rw[h.2,Lib.toList_data,aB];right;simpa using h1
theorem gf {i:Nat} {k:Int} (h:(tokAt l i).kind=k) (h4:k≠4) (h6:k≠6):ntk l i:=by
 refine⟨by rw[h];exact h6,?_⟩;unfold bL;rw[h,aB];left;simpa using h4
theorem jP {t:Tok} (h:t.kind=1):ends t=true:=by unfold ends;rw[h];rfl
theorem kC {t:Tok} {s:ByteArray} (h:Pp.word t s=true) (hk:t.kind=5->isIn keys t.text=true) (h1:s.data.toList= [41]\/s.data.toList= [125]):ends t=true:=by
 unfold Pp.word at h;rw[ae,aG,beq_iff_eq,beq_iff_eq,beq_iff_eq]at h;have e:t.text.toList= [41]\/t.text.toList= [125]:=by rw[h.2,Lib.toList_data];exact h1
 rcases h.1 with q | q
 ·unfold ends;have:isIn endO t.text=true:=by
   simp only[isIn,endO,eqB,dV,eT,fU];rw[Lib.toList_data ⟨#[41]⟩,Lib.toList_data ⟨#[125]⟩];rcases e with e | e <;> rw[e] <;> decide
  rw[q,this];rfl
 ·exfalso
  have h1:=hk q;simp only[isIn,bO,eqB,beq_iff_eq]at h1;obtain⟨x,hx,he⟩:=h1;have h2:keys.all (fun x=> !(x.toList== [41])&& !(x.toList== [125]))=true:=by kernel_rfl
  have h3:=aF.1 h2 x hx;rw[<-he]at h3;rcases e with e | e <;> rw[e]at h3 <;> simp at h3
theorem Rn.kind {k:Int} {en:Bool} {t:Int->G β} (h4:k≠4) (h6:k≠6) (ht:∀x,Rn l Any en (t x)):Rn l P en (Gr.bind (kindG l k) t):=by
 intro d a x a' h q;obtain⟨y,b,h1,h2⟩:=aN q;obtain⟨rfl,hk⟩:=eX h1;obtain⟨g1,g2,g3⟩:=ht _ d _ x a' True.intro h2;exact⟨(Rd.one (gf hk h4 h6)).trans g1,by omega,fun e _=>g3 e g2⟩
theorem Rn.name {t:Int->G β} (ht:∀x,Rg l Any true false (t x)):Rn l P true (Gr.bind (kindG l 1) t):=by
 intro d a x a' h q;obtain⟨y,b,h1,h2⟩:=aN q;obtain⟨rfl,hk⟩:=eX h1;obtain⟨g1,g2,_⟩:=ht _ d _ x a' True.intro h2;exact⟨(Rd.one (gf hk (by decide) (by decide))).trans g1,by have:=g1.le;omega,fun e=>En.left (by omega) (fun _=>by rw[aU,hk];exact⟨by decide,jP hk⟩) (g2 e) g1.le⟩
theorem Rn.want {s:ByteArray} {en:Bool} {t:Int->G β} (h1:s.data.toList≠ [33]) (ht:∀x,Rn l Any en (t x)):Rn l P en (Gr.bind (wantG l s) t):=by
 intro d a x a' h q;obtain⟨y,b,h3,h2⟩:=aN q;obtain⟨rfl,hk⟩:=want_ok h3;obtain⟨g1,g2,g3⟩:=ht _ d _ x a' True.intro h2;exact⟨(Rd.one (cG hk h1)).trans g1,by omega,fun e _=>g3 e g2⟩
theorem Rn.iH {s:ByteArray} {t:Int->G β} (hK:KTs l) (h1:s.data.toList= [41]\/s.data.toList= [125]) (ht:∀x,Rg l Any true false (t x)):Rn l P true (Gr.bind (wantG l s) t):=by
 intro d a x a' h q;obtain⟨y,b,h3,h2⟩:=aN q;obtain⟨rfl,hk⟩:=want_ok h3;obtain⟨g1,g2,_⟩:=ht _ d _ x a' True.intro h2;have n:=cG hk (by rcases h1 with q | q <;> rw[q] <;> decide);exact⟨(Rd.one n).trans g1,by have:=g1.le;omega,fun e=>En.left (by omega) (fun _=>by rw[aU];exact⟨n.1,kC hk (hK a) h1⟩) (g2 e) g1.le⟩
theorem Rn.iG {s:ByteArray} {t:Int->G β} (h1:s.data.toList≠ [33]) (ht:∀x,Rg l Any false false (t x)):Rn l P false (Gr.bind (wantG l s) t):=by
 intro d a x a' h q;obtain⟨y,b,h3,h2⟩:=aN q;obtain⟨rfl,hk⟩:=want_ok h3;obtain⟨g1,g2,_⟩:=ht _ d _ x a' True.intro h2;exact⟨(Rd.one (cG hk h1)).trans g1,by have:=g1.le;omega,(fun e=>by cases e)⟩
theorem Rg.isI {s:ByteArray} {en fs:Bool} {A B:G β} (h1:Rg l (PW l s) en fs A) (h2:Rg l P en fs B):Rg l P en fs (Gr.bind (isG l s) fun b=>Gr.ite b A B):=by
 intro d a x a' hp q;unfold Gr.bind isG at q;dsimp only[Res.andThen]at q;unfold Gr.ite at q;split at q
 ·rename_i hw;exact h1 d a x a' hw q
 ·exact h2 d a x a' hp q
theorem Rn.isI {s:ByteArray} {en:Bool} {A B:G β} (h1:Rn l (PW l s) en A) (h2:Rn l P en B):Rn l P en (Gr.bind (isG l s) fun b=>Gr.ite b A B):=by
 intro d a x a' hp q;unfold Gr.bind isG at q;dsimp only[Res.andThen]at q;unfold Gr.ite at q;split at q
 ·rename_i hw;exact h1 d a x a' hw q
 ·exact h2 d a x a' hp q
theorem Rg.look {k:Nat} {en fs:Bool} {t:Tok->G β} (ht:∀x,Rg l (PL l P k x) en fs (t x)):Rg l P en fs (Gr.bind (Gr.look l k) t):=fun d a x a' hp q=>ht _ d a x a' ⟨hp,rfl⟩ q
theorem Rn.look {k:Nat} {en:Bool} {t:Tok->G β} (ht:∀x,Rn l (PL l P k x) en (t x)):Rn l P en (Gr.bind (Gr.look l k) t):=fun d a x a' hp q=>ht _ d a x a' ⟨hp,rfl⟩ q
theorem Rn.here {en:Bool} {t:Int->G β} (ht:∀x,Rn l P en (t x)):Rn l P en (Gr.bind Gr.here t):=fun d a x a' hp q=>ht _ d a x a' hp q
theorem Rg.iteP {en fs c:Bool} {s t:G α} (h1:c=true->Rg l P en fs s) (h2:c=false->Rg l P en fs t):Rg l P en fs (Gr.ite c s t):=by
 cases c
 ·exact h2 rfl
 ·exact h1 rfl
theorem Rn.iteP {en c:Bool} {s t:G α} (h1:c=true->Rn l P en s) (h2:c=false->Rn l P en t):Rn l P en (Gr.ite c s t):=by
 cases c
 ·exact h2 rfl
 ·exact h1 rfl
theorem Rg.pure {en:Bool} {x:α}:Rg l P en false (Gr.pure x):=fun d a y a' hp q=>by
 unfold Gr.pure at q;cases q;exact⟨Rd.refl,fun e h=>by omega,(fun e=>by cases e)⟩
theorem Rg.fail {en fs:Bool}:Rg l P en fs (Gr.fail:G α):=fun d a y a' hp q=>by cases q
theorem Rg.stop {en fs:Bool}:Rg l P en fs (Gr.stop:G α):=fun d a y a' hp q=>by cases q
theorem Rn.fail {en:Bool}:Rn l P en (Gr.fail:G α):=fun d a y a' hp q=>by cases q
theorem Rn.stop {en:Bool}:Rn l P en (Gr.stop:G α):=fun d a y a' hp q=>by cases q
theorem Rn.nest {en:Bool} {s:G α} (h:Rn l P en s):Rn l P en (Gr.nest s):=fun d a y a' hp q=>by
 unfold Gr.nest at q;split at q
 ·cases q
 ·exact h (d + 1) a y a' hp q
theorem Rg.nest {en fs:Bool} {s:G α} (h:Rg l P en fs s):Rg l P en fs (Gr.nest s):=fun d a y a' hp q=>by
 unfold Gr.nest at q;split at q
 ·cases q
 ·exact h (d + 1) a y a' hp q
theorem jo {w a0:Nat} (hw0:a0<=w) (he:kf l w):∀(n d a:Nat) (x:Unit) (a':Nat),semisG l n d a= .ok x a'->w < a->(∀k,w < k->k < a->(tokAt l k).kind=6)->Rd l a0 a->Rd l a0 a'
 | 0,d,a,x,a',h,_,_,_=>by cases h
 | n + 1,d,a,x,a',h,hw,hs,hr=>by
  unfold semisG at h;split at h
  ·rename_i hk;have hk':(tokAt l a).kind=6:=by simpa using hk
   have hs2:∀k,w < k->k < a + 1->(tokAt l k).kind=6:=fun k q1 q2=>by
    rcases al k a with q | q
    ·exact hs k q1 q
    ·have:k=a:=by omega
     subst this;exact hk'
   refine jo hw0 he n d (a + 1) x a' h (by omega) hs2 ⟨by omega,fun i q1 q2=> ?_,fun i q1 q2 q3=> ?_⟩
   ·rcases al i a with q | q
    ·exact hr.sem i q1 q
    ·have:i=a:=by omega
     subst this;exact fun _=>⟨w,hw0,hw,hs,he⟩
   ·rcases al i a with q | q
    ·have:=hr.er i q1 q q3;exact⟨by omega,this.2⟩
    ·have:i=a:=by omega
     subst this;unfold bL at q3;rw[hk']at q3;simp at q3
  ·cases h;exact hr
theorem gP {N:Nat} {a0 b d:Nat} {u:Int} {c:Nat} {z:Unit} {e:Nat} (hr:Rd l a0 b) (hlt:a0 < b) (he:(tokAt l (b - 1)).kind≠6/\ends (tokAt l (b - 1))=true) (h1:kindG l 6 d b= .ok u c) (h2:semisG l N d c= .ok z e):Rd l a0 e:=by
 obtain⟨rfl,hk⟩:=eX h1;have hw:kf l (b - 1):=⟨he.1,.inl he.2⟩
 have hs:∀k,b - 1 < k->k < b + 1->(tokAt l k).kind=6:=fun k q1 q2=>by
  have:k=b:=by omega
  subst this;exact hk
 refine jo (w:=b - 1) (by omega) hw N d (b + 1) z e h2 (by omega) hs ⟨by omega,fun i q1 q2=> ?_,fun i q1 q2 q3=> ?_⟩
 ·rcases al i b with q | q
  ·exact hr.sem i q1 q
  ·have:i=b:=by omega
   subst this;exact fun _=>⟨i - 1,by omega,by omega,fun k r1 r2=>by omega,hw⟩
 ·rcases al i b with q | q
  ·have:=hr.er i q1 q q3;exact⟨by omega,this.2⟩
  ·have:i=b:=by omega
   subst this;unfold bL at q3;rw[hk]at q3;simp at q3
end Gr
end Go.Proofs.Dm
namespace Go.Proofs.Dm
open Go Go.Proofs Go.Proofs.Dm.Sc
namespace Gr
variable {α β:Type} {l:List Tok} {P:Nat->Prop}
def KOs (l:List Tok):Prop:=∀i,(tokAt l i).kind=4->isIn ops (tokAt l i).text=true
theorem lC {t:Tok} {s:ByteArray} (h:Pp.word t s=true) (ho:t.kind=4->isIn ops t.text=true) (h1:s.data.toList= [114,101,116,117,114,110]\/s.data.toList= [98,114,101,97,107]\/s.data.toList= [99,111,110,116,105,110,117,101]):ends t=true:=by
 unfold Pp.word at h;rw[ae,aG,beq_iff_eq,beq_iff_eq,beq_iff_eq]at h;have e:t.text.toList= [114,101,116,117,114,110]\/t.text.toList= [98,114,101,97,107]\/t.text.toList= [99,111,110,116,105,110,117,101]:=by rw[h.2,Lib.toList_data];exact h1
 rcases h.1 with q | q
 ·exfalso
  have h1:=ho q;simp only[isIn,bO,eqB,beq_iff_eq]at h1;obtain⟨x,hx,he⟩:=h1;have h2:ops.all (fun x=>decide (x.toList.length<=2))=true:=by kernel_rfl
  have h3:=aF.1 h2 x hx;rw[<-he]at h3;rcases e with e | e | e <;> rw[e]at h3 <;> simp at h3
 ·unfold ends;have:isIn endK t.text=true:=by
   simp only[isIn,endK,eqB,dV,eT,fU];rw[Lib.toList_data ⟨#[114,101,116,117,114,110]⟩,Lib.toList_data ⟨#[98,114,101,97,107]⟩,Lib.toList_data ⟨#[99,111,110,116,105,110,117,101]⟩];rcases e with e | e | e <;> rw[e] <;> decide
  rw[q,this];rfl
theorem Rn.fi {en:Bool} {t:Int->Int->G β} (hp:∀a,P a->ntk l a/\ntk l (a + 1)) (ht:∀x y,Rn l Any en (t x y)):Rn l P en (Gr.bind (Gr.adv l) fun x=>Gr.bind (Gr.adv l) fun y=>t x y):=by
 intro d a x a' h q;obtain⟨y,b,h1,h2⟩:=aN q;obtain⟨z,c,h3,h4⟩:=aN h2;obtain⟨rfl,_⟩:=cn h1;obtain⟨rfl,_⟩:=cn h3;obtain⟨g1,g2,g3⟩:=ht _ _ d _ x a' True.intro h4;exact⟨((Rd.one (hp a h).1).trans (Rd.one (hp a h).2)).trans g1,by omega,fun e _=>g3 e g2⟩
theorem eL:Rn l P true (typG l):=Rn.name fun _=>Rg.isI ((Rn.adv (fun a h=>cG h (by decide)) fun _=>Rn.name fun _=>Rg.pure).g) Rg.pure
abbrev RX (l:List Tok) (s:G α):Prop:=Rg l Any true true s
theorem my {E:GN} (hE:RX l E):Rn l (PW l ⟨#[118,97,114]⟩) true (variableG l E):=Rn.adv (fun a h=>cG h (by decide)) fun _=>Rn.kind (by decide) (by decide) fun _=>Rn.left eL fun _=>Rg.isI ((Rn.adv (fun a h=>cG h (by decide)) fun _=>Rn.left hE.n fun _=>Rg.pure).g) Rg.pure
theorem mw {E:GN} (hE:RX l E):Rn l (PW l ⟨#[99,111,110,115,116]⟩) true (constantG l E):=Rn.adv (fun a h=>cG h (by decide)) fun _=>Rn.kind (by decide) (by decide) fun _=>Rn.want (by decide) fun _=>Rn.left hE.n fun _=>Rg.pure
theorem jO {S:GN} (hS:Rn l Any true S) {N:Nat}:∀(n:Nat) (ks:List Nd) (d a0 a:Nat) (x:List Nd) (a':Nat),curlyLG l S N n ks d a= .ok x a'->Rd l a0 a->Rd l a0 a'
 | 0,ks,d,a0,a,x,a',h,hr=>by cases h
 | n + 1,ks,d,a0,a,x,a',h,hr=>by
  unfold curlyLG at h;obtain⟨b0,c0,h0,h⟩:=aN h;unfold isG at h0;cases h0;unfold Gr.ite at h;split at h
  ·unfold Gr.pure at h;cases h;exact hr
  ·obtain⟨y,b,h1,h⟩:=aN h;obtain⟨r1,r2,r3⟩:=hS d a y b True.intro h1;have hb:=hr.trans r1;obtain⟨b0,c0,h0,h⟩:=aN h;unfold isG at h0;cases h0;split at h
   ·exact jO hS n _ d a0 b x a' h hb
   ·obtain⟨u,c,h2,h⟩:=aN h;obtain⟨z,e,h3,h⟩:=aN h;exact jO hS n _ d a0 e x a' h (gP hb (by have:=hr.le;omega) (r3 rfl r2) h2 h3)
theorem lB (hK:KTs l) {S:GN} (hS:Rn l Any true S) {N:Nat}:Rn l Any true (curlyG l S N):=by
 intro d a x a' _ q;unfold curlyG at q;obtain⟨b0,c0,h0,q⟩:=aN q;unfold isG at h0;cases h0;unfold Gr.ite at q;split at q
 rotate_left
 ·cases q
 rename_i hw;unfold Gr.nest at q;split at q
 ·cases q
 obtain⟨y,b,h1,h2⟩:=aN q;obtain⟨rfl,_⟩:=cn h1;obtain⟨z,c,h3,h4⟩:=aN h2;obtain⟨ks,e,h5,h6⟩:=aN h4;obtain⟨w,f,h7,h8⟩:=aN h6;obtain⟨rfl,hw2⟩:=want_ok h7;unfold Gr.pure at h8;cases h8;have o1:=iA (hK a) (.inl rfl) hw;have n1:=cG hw (by decide);have r1:=jo (w:=a) (a0:=a) (au _) ⟨n1.1,.inr o1⟩ N (d + 1) (a + 1) z c h3 (by omega) (fun k q1 q2=>by omega) (Rd.one n1);have r2:=jO hS N [] (d + 1) a c ks e h5 r1;have n2:=cG hw2 (by decide);exact⟨r2.trans (Rd.one n2),by have:=r2.le;omega,fun _ _=>by rw[aU];exact⟨n2.1,kC hw2 (hK e) (.inr rfl)⟩⟩
theorem oz (hK:KTs l) {S:GN} (hS:Rn l Any true S) {N:Nat}:Rn l Any true (blockG l S N):=Rn.left (lB hK hS) fun _=>Rg.pure
theorem ov:Rn l Any true (fieldG l):=Rn.kind (by decide) (by decide) fun _=>Rn.left eL fun _=>Rg.pure
theorem qm (hK:KTs l) {N:Nat}:Rn l (PW l ⟨#[116,121,112,101]⟩) true (structureG l N):=Rn.adv (fun a h=>cG h (by decide)) fun _=>Rn.kind (by decide) (by decide) fun _=>Rn.want (by decide) fun _=>Rn.left (lB hK ov) fun _=>Rg.pure
theorem jn:∀(n:Nat) (ks:List Nd),Rg l Any false false (funcLG l n ks)
 | 0,ks=>Rg.stop
 | n + 1,ks=>Rg.isI Rg.pure ((Rn.kind (by decide) (by decide) fun _=>Rn.left eL.weak fun _=>Rg.isI (Rg.use (jn n _)) ((Rn.iG (by decide) fun _=>Rg.isI Rg.fail (jn n _)).g)).g)
theorem qh {C:GN} (hC:Rn l Any true C) {N:Nat}:Rn l (PW l ⟨#[102,117,110,99]⟩) true (functionG l C N):=Rn.adv (fun a h=>cG h (by decide)) fun _=>Rn.kind (by decide) (by decide) fun _=>Rn.want (by decide) fun _=>Rn.right (jn N []) fun _=>Rn.want (by decide) fun _=>
 Rn.look fun _=>Rn.iteP (fun _=>Rn.right eL.g fun _=>Rn.left hC fun _=>Rg.pure) (fun _=>Rn.left (Rn.use hC) fun _=>Rg.pure)
theorem PL.name {k:Int} {t:Tok} {a:Nat} (h4:k≠4) (h6:k≠6) (hc:(t.kind==k)=true) (h:PL l P 0 t a):ntk l a:=by
 have e:tokAt l a=t:=h.2;rw[beq_iff_eq]at hc;exact gf (by rw[e,hc]) h4 h6
theorem PL.ends {k:Int} {t:Tok} {a:Nat} (hk:k=1\/k=2\/k=3) (hc:(t.kind==k)=true) (h:PL l P 0 t a):Sc.ends (tokAt l a)=true:=by
 have e:tokAt l a=t:=h.2;rw[beq_iff_eq]at hc;unfold Sc.ends;rw[e,hc];rcases hk with rfl | rfl | rfl <;> rfl
theorem lA (hO:KOs l) {w:ByteArray} (h1:w.data.toList= [98,114,101,97,107]\/w.data.toList= [99,111,110,116,105,110,117,101]) (k:Int):Rn l (PW l w) true (leaveG l k):=
 Rn.iE (fun a h=>⟨cG h (by rcases h1 with q | q <;> rw[q] <;> decide),fun _=>lC h (hO a) (.inr h1)⟩) fun _=>Rg.look fun _=>Rg.iteP
  (fun hc=>(Rn.iE (fun a h=>⟨PL.name (by decide) (by decide) hc h,fun _=>PL.ends (.inl rfl) hc h⟩) fun _=>Rg.pure).g) (fun _=>Rg.pure)
theorem pJ {E C R:GN} (hE:RX l E) (hC:Rn l Any true C) (hR:Rn l (PW l ⟨#[105,102]⟩) true R):Rn l (PW l ⟨#[105,102]⟩) true (branchG l E C R):=Rn.adv (fun a h=>cG h (by decide)) fun _=>Rn.right hE fun _=>Rn.left hC fun _=>
 Rg.isI ((Rn.adv (fun a h=>cG h (by decide)) fun _=>Rn.isI (Rn.left (Rn.nest hR) fun _=>Rg.pure) (Rn.left hC fun _=>Rg.pure)).g) Rg.pure
theorem kB {E C:GN} (hE:RX l E) (hC:Rn l Any true C):Rn l (PW l ⟨#[102,111,114]⟩) true (loopG l E C):=Rn.adv (fun a h=>cG h (by decide)) fun _=>Rn.right hE fun _=>Rn.left hC fun _=>Rg.pure
theorem nm (hO:KOs l) {E:GN} (hE:RX l E):Rn l (PW l ⟨#[114,101,116,117,114,110]⟩) true (backG l E):=Rn.iE (fun a h=>⟨cG h (by decide),fun _=>lC h (hO a) (.inl rfl)⟩) fun _=>Rg.look fun _=>Rg.iteP (fun _=>Rg.pure) (fun _=>Rg.isI Rg.pure ((Rn.left (Rn.use hE.n) fun _=>Rg.pure).g))
theorem kA {E:GN} (hE:RX l E):Rn l P true (restG l E):=Rn.here fun _=>Rn.left (Rn.use hE.n) fun _=>Rg.isI ((Rn.adv (fun a h=>cG h (by decide)) fun _=>Rn.left hE.n fun _=>Rg.pure).g) Rg.pure
theorem pI {E L:GN} (hE:RX l E) (hL:Rn l (PW l ⟨#[102,111,114]⟩) true L):Rn l P true (simpleG l E L):=Rn.look fun t=>Rn.iteP (fun hc=>Rn.look fun n=>Rn.iteP
  (fun hw=>Rn.fi (fun a h=>⟨PL.name (by decide) (by decide) hc h.1,cG (by rw[h.2];exact hw) (by decide)⟩) fun _ _=>Rn.left hE.n fun _=>Rg.pure)
  (fun _=>Rn.iteP (fun hw=>Rn.fi (fun a h=>⟨PL.name (by decide) (by decide) hc h.1,cG (by rw[h.2];exact hw) (by decide)⟩) fun _ _=>Rn.isI (Rn.left hL fun _=>Rg.pure) Rn.fail) (fun _=>kA hE)))
 (fun _=>kA hE)
theorem nk (hO:KOs l) {V C K I L R M:GN} (hV:Rn l (PW l ⟨#[118,97,114]⟩) true V) (hC:Rn l (PW l ⟨#[99,111,110,115,116]⟩) true C) (hK:Rn l Any true K) (hI:Rn l (PW l ⟨#[105,102]⟩) true I) (hL:Rn l (PW l ⟨#[102,111,114]⟩) true L) (hR:Rn l (PW l ⟨#[114,101,116,117,114,110]⟩) true R) (hM:Rn l Any true M):Rn l Any true (stmtG l V C K I L R M):=
 Rn.isI hV (Rn.isI hC (Rn.isI (Rn.use hK) (Rn.isI hI (Rn.isI hL (Rn.isI hR (Rn.isI (lA hO (.inl rfl) 17) (Rn.isI (lA hO (.inr rfl) 18) hM)))))))
theorem nj {V C S F:GN} (hV:Rn l (PW l ⟨#[118,97,114]⟩) true V) (hC:Rn l (PW l ⟨#[99,111,110,115,116]⟩) true C) (hS:Rn l (PW l ⟨#[116,121,112,101]⟩) true S) (hF:Rn l (PW l ⟨#[102,117,110,99]⟩) true F):Rn l Any true (declG l V C S F):=
 Rn.isI hV (Rn.isI hC (Rn.isI hS (Rn.isI hF Rn.fail)))
theorem pG {s:ByteArray} (h:s.toList= [33]):Pp.rank s=0:=by
 unfold Pp.rank;rw[h];rfl
theorem j0 {Y:Int->GN} (hY:∀r,RX l (Y r)):∀(n:Nat) (rk:Int) (x:Nd),Rg l Any true false (binaryLG l Y n rk x)
 | 0,rk,x=>Rg.stop
 | n + 1,rk,x=>Rg.look fun t=>Rg.iteP (fun _=>Rg.pure) fun h4=>Rg.iteP (fun _=>Rg.pure) fun _=>Rg.iteP (fun _=>Rg.pure) fun hr=>(Rn.adv (fun a h=>by
   have e:tokAt l a=t:=h.2;have hr':Pp.rank t.text≠0:=by simpa using hr
   have h4':t.kind=4:=by simpa using h4
   refine⟨by rw[e,h4'];decide,?_⟩;unfold bL;rw[e,aB];right;rw[beq_eq_false_iff_ne];exact fun q=>hr' (pG q))
  fun _=>Rn.left (hY _).n fun _=>j0 hY n rk _).g
theorem pF {U:GN} {Y:Int->GN} (hU:RX l U) (hY:∀r,RX l (Y r)) {N:Nat} (rk:Int):RX l (binaryG l U Y N rk):=Rg.mk (Rn.left hU.n fun x=>j0 hY N rk x) (Rg.first hU fun x=>(j0 hY N rk x).weak)
theorem Rg.er {U:G α} {t:Int->α->G β} (hp:∀a,P a->(tokAt l a).kind≠6/\cP (tokAt l a)=true) (hU:RX l U) (ht:∀o x,Rg l Any true false (t o x)):Rg l P true true (Gr.bind (Gr.adv l) fun o=>Gr.bind U fun x=>t o x):=by
 intro d a x a' h q;obtain⟨y,b,h1,h2⟩:=aN q;obtain⟨z,c,h3,h4⟩:=aN h2;obtain⟨rfl,_⟩:=cn h1;obtain⟨k1,k2⟩:=hp a h;obtain⟨r1,r2,r3⟩:=hU d _ z c True.intro h3;obtain⟨g1,g2,_⟩:=ht _ _ d c x a' True.intro h4;obtain⟨f1,f2⟩:=r3 rfl
 have hone : Rd l a c := ⟨by omega, fun i q1 q2 q => by
     rcases aT q1 with e | e
     · subst e;exact absurd q k1
     · exact(r1.sem i e q2).mono (by omega) q,
   fun i q1 q2 q3=>by
     rcases aT q1 with e | e
     · subst e;exact⟨by omega,f2⟩
     · exact r1.er i e q2 q3⟩
 exact⟨hone.trans g1,fun e=>En.left (by omega) (fun _=>r2 rfl f1) (g2 e) g1.le,fun _=>⟨by have:=g1.le;omega,k2⟩⟩
theorem ou {U F:GN} (hU:RX l U) (hF:RX l F):RX l (unaryG l U F):=Rg.look fun t=>Rg.iteP (fun _=>Rg.use hF) fun h4=>Rg.iteP (fun hu=>Rg.nest (Rg.er (fun a h=>by
 have e:tokAt l a=t:=h.2;have h4':t.kind=4:=by simpa using h4
 unfold Pp.unaryS at hu;rw[aG,beq_iff_eq,beq_iff_eq]at hu;refine⟨by rw[e,h4'];decide,?_⟩;unfold cP;rw[e];rcases hu with q | q <;> rw[q] <;> simp) hU fun _ _=>Rg.pure)) fun _=>Rg.use hF
theorem pE {t:Tok} {k:Int} (h:(t.kind==k)=true) (h4:k≠4):cP t=true:=by
 rw[beq_iff_eq]at h;unfold cP;have:(t.kind==4)=false:=by rw[h];simpa using h4
 rw[this];rfl
theorem fv {k:Int} {t:Tok} {s:Int->G β} (hk:k=1\/k=2\/k=3) (hc:(t.kind==k)=true) (ht:∀x,Rg l Any true false (s x)):Rg l (PL l P 0 t) true true (Gr.bind (Gr.adv l) s):=by
 have h4:k≠4:=by omega
 have h6:k≠6:=by omega
 have h:=Rn.iE (l:=l) (P:=PL l P 0 t) (en:=true) (fun a h=>⟨PL.name h4 h6 hc h,fun _=>PL.ends hk hc h⟩) ht;intro d a x a' hp q;obtain⟨g1,g2,g3⟩:=h d a x a' hp q;exact⟨g1,g3,fun _=>⟨g2,by have e:tokAt l a=t:=hp.2;rw[e];exact pE hc h4⟩⟩
theorem pD {t:Tok} {s:ByteArray} (h:Pp.word t s=true) (h1:s.data.toList.head? ≠some 61):cP t=true:=by
 unfold Pp.word at h;rw[ae,beq_iff_eq]at h;unfold cP;rw[h.2,Lib.toList_data];have:(s.data.toList.head? ==some 61)=false:=by simpa using h1
 rw[this,cK];rfl
theorem lz (hK:KTs l) {E:GN} (hE:RX l E):RX l (firstG l E):=Rg.look fun t=>Rg.iteP (fun hc=>fv (.inl rfl) hc fun _=>Rg.pure) fun _=>Rg.iteP (fun hc=>fv (.inr (.inl rfl)) hc fun _=>Rg.pure) fun _=>
 Rg.iteP (fun hc=>fv (.inr (.inr rfl)) hc fun _=>Rg.pure) fun _=>Rg.isI (Rg.nest (by
  have h:Rn l (PW l ⟨#[40]⟩) true (Gr.bind (Gr.adv l) fun o=>Gr.bind E fun x=>Gr.bind (wantG l ⟨#[41]⟩) fun _=>Gr.pure (.mk 25 o [x]:Nd)):=Rn.adv (fun a h=>cG h (by decide)) fun _=>Rn.right hE fun _=>Rn.iH hK (.inl rfl) fun _=>Rg.pure
  intro d a x a' hp q;obtain⟨g1,g2,g3⟩:=h d a x a' hp q;exact⟨g1,g3,fun _=>⟨g2,pD hp (by decide)⟩⟩)) Rg.fail
theorem gV {K:Nd->GN} (hK:∀x,Rn l (PW l ⟨#[40]⟩) true (K x)):∀(n:Nat) (x:Nd),Rg l Any true false (primLG l K n x)
 | 0,x=>Rg.stop
 | n + 1,x=>Rg.isI ((Rn.left (hK x) fun y=>gV hK n y).g) (Rg.isI ((Rn.adv (fun a h=>cG h (by decide)) fun _=>Rn.name fun _=>gV hK n _).g) Rg.pure)
theorem jm {E:GN} (hE:RX l E):∀(n:Nat) (ks:List Nd),Rg l Any false false (callLG l E n ks)
 | 0,ks=>Rg.stop
 | n + 1,ks=>Rg.isI Rg.pure ((Rn.left hE.n.weak fun _=>Rg.isI (Rg.use (jm hE n _)) ((Rn.iG (by decide) fun _=>Rg.isI Rg.fail (jm hE n _)).g)).g)
theorem kz (hK:KTs l) {E:GN} (hE:RX l E) {N:Nat} (x:Nd):Rn l (PW l ⟨#[40]⟩) true (callG l E N x):=Rn.nest (Rn.adv (fun a h=>cG h (by decide)) fun _=>Rn.right (jm hE N [x]) fun _=>Rn.iH hK (.inl rfl) fun _=>Rg.pure)
theorem ni (hK:KTs l) {E:GN} (hE:RX l E) {N:Nat}:RX l (primG l (firstG l E) (callG l E N) N):=Rg.mk (Rn.left (lz hK hE).n fun x=>gV (fun y=>kz hK hE y) N x) (Rg.first (lz hK hE) fun x=>(gV (fun y=>kz hK hE y) N x).weak)
theorem ly {N:Nat}:∀(n:Nat) (ks:List Nd) (d a0 a:Nat) (x:List Nd) (a':Nat),fileIG l N n ks d a= .ok x a'->Rd l a0 a->Rd l a0 a'
 | 0,ks,d,a0,a,x,a',h,hr=>by cases h
 | n + 1,ks,d,a0,a,x,a',h,hr=>by
  unfold fileIG at h;obtain⟨b0,c0,h0,h⟩:=aN h;unfold isG at h0;cases h0;unfold Gr.ite at h;split at h
  ·rename_i hw;obtain⟨y,b,h1,h⟩:=aN h;obtain⟨rfl,_⟩:=cn h1;obtain⟨t,c,h2,h⟩:=aN h;obtain⟨rfl,hk⟩:=eX h2;obtain⟨u,e,h3,h⟩:=aN h;obtain⟨z,f,h4,h⟩:=aN h;have r1:=(hr.trans (Rd.one (cG hw (by decide)))).trans (Rd.one (gf hk (by decide) (by decide)));refine ly n _ d a0 f x a' h (gP r1 (by have:=hr.le;omega) ?_ h3 h4);rw[aU];exact⟨by rw[hk];decide,jP hk⟩
  ·unfold Gr.pure at h;cases h;exact hr
theorem lx {D:GN} (hD:Rn l Any true D) {N:Nat}:∀(n:Nat) (ks:List Nd) (d a0 a:Nat) (x:List Nd) (a':Nat),fileDG l D N n ks d a= .ok x a'->Rd l a0 a->Rd l a0 a'
 | 0,ks,d,a0,a,x,a',h,hr=>by cases h
 | n + 1,ks,d,a0,a,x,a',h,hr=>by
  unfold fileDG at h;obtain⟨t,b,h1,h⟩:=aN h;unfold Gr.look at h1;cases h1;unfold Gr.ite at h;split at h
  ·obtain⟨y,b,h1,h⟩:=aN h;obtain⟨r1,r2,r3⟩:=hD d a y b True.intro h1;obtain⟨u,c,h2,h⟩:=aN h;obtain⟨z,e,h3,h⟩:=aN h;exact lx hD n _ d a0 e x a' h (gP (hr.trans r1) (by have:=hr.le;omega) (r3 rfl r2) h2 h3)
  ·unfold Gr.pure at h;cases h;exact hr
theorem nh {D:GN} (hD:Rn l Any true D) {N:Nat} {d:Nat} {x:Nd} {a':Nat} (h:fileG l D N d 0= .ok x a'):Rd l 0 a':=by
 unfold fileG at h;obtain⟨_,b,h1,h⟩:=aN h;obtain⟨rfl,hw⟩:=want_ok h1;obtain⟨t,c,h2,h⟩:=aN h;obtain⟨rfl,hk⟩:=eX h2;obtain⟨u,e,h3,h⟩:=aN h;obtain⟨z,f,h4,h⟩:=aN h;have r1:=(Rd.one (cG hw (by decide))).trans (Rd.one (gf hk (by decide) (by decide)));have r2:=gP r1 (by omega) (by rw[aU];exact⟨by rw[hk];decide,jP hk⟩) h3 h4;obtain⟨ks,g,h5,h⟩:=aN h;obtain⟨ks2,k,h6,h⟩:=aN h;unfold Gr.pure at h;cases h;exact lx hD N _ d 0 g _ _ h6 (ly N _ d 0 f _ _ h5 r2)
structure RgF (l:List Tok) (F:SF):Prop where
 binary:∀r,RX l (F.binary r)
 unary:RX l F.unary
 block:Rn l Any true F.block
 branch:Rn l (PW l ⟨#[105,102]⟩) true F.branch
 stmt:Rn l Any true F.stmt
theorem iI (hK:KTs l) (hO:KOs l) {N:Nat}:∀n,RgF l (sf l N n)
 | 0=>⟨fun _=>Rg.stop,Rg.stop,Rn.stop,Rn.stop,Rn.stop⟩
 | n + 1=>by
  have h:=iI hK hO (N:=N) n;exact⟨fun r=>pF h.unary h.binary r,ou h.unary (ni hK (h.binary 1)),oz hK h.stmt,pJ (h.binary 1) h.block h.branch,
   nk hO (my (h.binary 1)) (mw (h.binary 1)) h.block h.branch (kB (h.binary 1) h.block) (nm hO (h.binary 1)) (pI (h.binary 1) (kB (h.binary 1) h.block))⟩
theorem ot (hK:KTs l) (hO:KOs l) {N n:Nat} {d:Nat} {x:Nd} {a':Nat} (h:fileS l N (sf l N n) d 0= .ok x a'):Rd l 0 a':=by
 have q:=iI hK hO (N:=N) n;exact nh (nj (my (q.binary 1)) (mw (q.binary 1)) (qm hK) (qh q.block)) h
end Gr
end Go.Proofs.Dm
namespace Go.Proofs.Dm
open Go Go.Proofs Go.Proofs.Dm.Sc
namespace Gr
variable {α β:Type} {l:List Tok} {P:Nat->Prop}
theorem LeP.look {k:Nat} {t t':Tok->G β} (ht:∀x,LeP P (t x) (t' x)):LeP P (Gr.bind (Gr.look l k) t) (Gr.bind (Gr.look l k) t'):=fun d a h=>ht _ d a h
theorem LeP.ifI {w:ByteArray} {s s' t t':G α} (h1:LeP Al s s') (h2:LeP Al t t'):LeP P (Gr.bind (isG l w) fun c=>Gr.ite c s t) (Gr.bind (isG l w) fun c=>Gr.ite c s' t'):=LeP.is (LeP.all h1) (LeP.all h2)
theorem LeP.out {t:G α}:LeP P Gr.stop t:=fun _ _ _=> .inl rfl
theorem gg {N M:Nat} (h:N<=M):LeP P (semisG l N) (semisG l M):=by
 intro d a hp;clear hp
 induction N generalizing M a with
 | zero=>exact .inl rfl
 | succ n ih=>
  obtain⟨m,rfl⟩:∃m,M=m + 1:=⟨M - 1,by omega⟩
  unfold semisG;split
  ·exact ih (M:=m) (by omega) (a + 1)
  ·exact .inr rfl
theorem mr {E E':GN} (hE:LeP Al E E'):LeP P (variableG l E) (variableG l E'):=LeP.to fun _=>LeP.to fun _=>LeP.to fun _=>LeP.ifI (LeP.to fun _=>LeP.bind hE fun _=>LeP.rfl') LeP.rfl'
theorem mq {E E':GN} (hE:LeP Al E E'):LeP P (constantG l E) (constantG l E'):=LeP.to fun _=>LeP.to fun _=>LeP.to fun _=>LeP.bind hE fun _=>LeP.rfl'
theorem jN {S S':GN} (hS:LeP Al S S') {N M:Nat} (hN:N<=M):∀(n m:Nat) (ks:List Nd),n<=m->LeP Al (curlyLG l S N n ks) (curlyLG l S' M m ks)
 | 0,m,ks,h=>LeP.out
 | n + 1,m + 1,ks,h=>LeP.ifI LeP.rfl' (LeP.bind hS fun _=>LeP.ifI (jN hS hN n m _ (by omega)) (LeP.to fun _=>LeP.bind (gg hN) fun _=>jN hS hN n m _ (by omega)))
 | n + 1,0,ks,h=>by omega
theorem lv {S S':GN} (hS:LeP Al S S') {N M:Nat} (hN:N<=M):LeP P (curlyG l S N) (curlyG l S' M):=LeP.ifI (LeP.nest (LeP.to fun _=>LeP.bind (gg hN) fun _=>LeP.bind (jN hS hN N M [] hN) fun _=>LeP.rfl')) LeP.rfl'
theorem oq {S S':GN} (hS:LeP Al S S') {N M:Nat} (hN:N<=M):LeP P (blockG l S N) (blockG l S' M):=LeP.bind (lv hS hN) fun _=>LeP.rfl'
theorem ql {N M:Nat} (hN:N<=M):LeP P (structureG l N) (structureG l M):=LeP.to fun _=>LeP.to fun _=>LeP.to fun _=>LeP.bind (lv LeP.rfl' hN) fun _=>LeP.rfl'
theorem jl:∀(n m:Nat) (ks:List Nd),n<=m->LeP Al (funcLG l n ks) (funcLG l m ks)
 | 0,m,ks,h=>LeP.out
 | n + 1,m + 1,ks,h=>LeP.ifI LeP.rfl' (LeP.to fun _=>LeP.to fun _=>LeP.ifI (jl n m _ (by omega)) (LeP.to fun _=>LeP.ifI LeP.rfl' (jl n m _ (by omega))))
 | n + 1,0,ks,h=>by omega
theorem qg {C C':GN} (hC:LeP Al C C') {N M:Nat} (hN:N<=M):LeP P (functionG l C N) (functionG l C' M):=LeP.to fun _=>LeP.to fun _=>LeP.to fun _=>LeP.bind (jl N M [] hN) fun _=>LeP.to fun _=>LeP.look fun _=>LeP.ite (LeP.to fun _=>LeP.bind hC fun _=>LeP.rfl') (LeP.bind hC fun _=>LeP.rfl')
theorem pC {E E' C C' R R':GN} (hE:LeP Al E E') (hC:LeP Al C C') (hR:LeP Al R R'):LeP P (branchG l E C R) (branchG l E' C' R'):=LeP.to fun _=>LeP.bind hE fun _=>LeP.bind hC fun _=>LeP.ifI (LeP.to fun _=>LeP.ifI (LeP.bind (LeP.nest hR) fun _=>LeP.rfl') (LeP.bind hC fun _=>LeP.rfl')) LeP.rfl'
theorem ky {E E' C C':GN} (hE:LeP Al E E') (hC:LeP Al C C'):LeP P (loopG l E C) (loopG l E' C'):=LeP.to fun _=>LeP.bind hE fun _=>LeP.bind hC fun _=>LeP.rfl'
theorem ng {E E':GN} (hE:LeP Al E E'):LeP P (backG l E) (backG l E'):=LeP.to fun _=>LeP.look fun _=>LeP.ite LeP.rfl' (LeP.ifI LeP.rfl' (LeP.bind hE fun _=>LeP.rfl'))
theorem kv {E E':GN} (hE:LeP Al E E'):LeP P (restG l E) (restG l E'):=LeP.to fun _=>LeP.bind hE fun _=>LeP.ifI (LeP.to fun _=>LeP.bind hE fun _=>LeP.rfl') LeP.rfl'
theorem pB {E E' L L':GN} (hE:LeP Al E E') (hL:LeP Al L L'):LeP P (simpleG l E L) (simpleG l E' L'):=LeP.look fun _=>LeP.ite (LeP.look fun _=>LeP.ite (LeP.to fun _=>LeP.to fun _=>LeP.bind hE fun _=>LeP.rfl')
 (LeP.ite (LeP.to fun _=>LeP.to fun _=>LeP.ifI (LeP.bind hL fun _=>LeP.rfl') LeP.rfl') (kv hE))) (kv hE)
theorem nf {V V' C C' K K' I I' L L' R R' M M':GN} (hV:LeP Al V V') (hC:LeP Al C C') (hK:LeP Al K K') (hI:LeP Al I I') (hL:LeP Al L L') (hR:LeP Al R R') (hM:LeP Al M M'):LeP P (stmtG l V C K I L R M) (stmtG l V' C' K' I' L' R' M'):=
 LeP.ifI hV (LeP.ifI hC (LeP.ifI hK (LeP.ifI hI (LeP.ifI hL (LeP.ifI hR (LeP.ifI LeP.rfl' (LeP.ifI LeP.rfl' hM)))))))
theorem nc {V V' C C' S S' F F':GN} (hV:LeP Al V V') (hC:LeP Al C C') (hS:LeP Al S S') (hF:LeP Al F F'):LeP P (declG l V C S F) (declG l V' C' S' F'):=LeP.ifI hV (LeP.ifI hC (LeP.ifI hS (LeP.ifI hF LeP.rfl')))
theorem mf {Y Y':Int->GN} (hY:∀r,LeP Al (Y r) (Y' r)):∀(n m:Nat) (rk:Int) (x:Nd),n<=m->LeP Al (binaryLG l Y n rk x) (binaryLG l Y' m rk x)
 | 0,m,rk,x,h=>LeP.out
 | n + 1,m + 1,rk,x,h=>LeP.look fun _=>LeP.ite LeP.rfl' (LeP.ite LeP.rfl' (LeP.ite LeP.rfl' (LeP.to fun _=>LeP.bind (hY _) fun _=>mf hY n m rk _ (by omega))))
 | n + 1,0,rk,x,h=>by omega
theorem pA {U U':GN} {Y Y':Int->GN} (hU:LeP Al U U') (hY:∀r,LeP Al (Y r) (Y' r)) {N M:Nat} (hN:N<=M) (rk:Int):LeP P (binaryG l U Y N rk) (binaryG l U' Y' M rk):=LeP.bind (LeP.all hU) fun _=>mf hY N M rk _ hN
theorem oo {U U' F F':GN} (hU:LeP Al U U') (hF:LeP Al F F'):LeP P (unaryG l U F) (unaryG l U' F'):=LeP.look fun _=>LeP.ite (LeP.all hF) (LeP.ite (LeP.nest (LeP.to fun _=>LeP.bind hU fun _=>LeP.rfl')) (LeP.all hF))
theorem om {E E':GN} (hE:LeP Al E E'):LeP P (firstG l E) (firstG l E'):=LeP.look fun _=>LeP.ite LeP.rfl' (LeP.ite LeP.rfl' (LeP.ite LeP.rfl' (LeP.ifI (LeP.nest (LeP.to fun _=>LeP.bind hE fun _=>LeP.rfl')) LeP.rfl')))
theorem jk {K K':Nd->GN} (hK:∀x,LeP Al (K x) (K' x)):∀(n m:Nat) (x:Nd),n<=m->LeP Al (primLG l K n x) (primLG l K' m x)
 | 0,m,x,h=>LeP.out
 | n + 1,m + 1,x,h=>LeP.ifI (LeP.bind (hK x) fun _=>jk hK n m _ (by omega)) (LeP.ifI (LeP.to fun _=>LeP.to fun _=>jk hK n m _ (by omega)) LeP.rfl')
 | n + 1,0,x,h=>by omega
theorem jj {E E':GN} (hE:LeP Al E E'):∀(n m:Nat) (ks:List Nd),n<=m->LeP Al (callLG l E n ks) (callLG l E' m ks)
 | 0,m,ks,h=>LeP.out
 | n + 1,m + 1,ks,h=>LeP.ifI LeP.rfl' (LeP.bind hE fun _=>LeP.ifI (jj hE n m _ (by omega)) (LeP.to fun _=>LeP.ifI LeP.rfl' (jj hE n m _ (by omega))))
 | n + 1,0,ks,h=>by omega
theorem na {E E':GN} (hE:LeP Al E E') {N M:Nat} (hN:N<=M) (x:Nd):LeP P (callG l E N x) (callG l E' M x):=LeP.nest (LeP.to fun _=>LeP.bind (jj hE N M [x] hN) fun _=>LeP.rfl')
theorem mZ {E E':GN} (hE:LeP Al E E') {N M:Nat} (hN:N<=M):LeP P (primG l (firstG l E) (callG l E N) N) (primG l (firstG l E') (callG l E' M) M):=LeP.bind (om hE) fun x=>jk (fun y=>na hE hN y) N M x hN
theorem lu {N M:Nat} (hN:N<=M):∀(n m:Nat) (ks:List Nd),n<=m->LeP Al (fileIG l N n ks) (fileIG l M m ks)
 | 0,m,ks,h=>LeP.out
 | n + 1,m + 1,ks,h=>LeP.ifI (LeP.to fun _=>LeP.to fun _=>LeP.to fun _=>LeP.bind (gg hN) fun _=>lu hN n m _ (by omega)) LeP.rfl'
 | n + 1,0,ks,h=>by omega
theorem lr {D D':GN} (hD:LeP Al D D') {N M:Nat} (hN:N<=M):∀(n m:Nat) (ks:List Nd),n<=m->LeP Al (fileDG l D N n ks) (fileDG l D' M m ks)
 | 0,m,ks,h=>LeP.out
 | n + 1,m + 1,ks,h=>LeP.look fun _=>LeP.ite (LeP.bind hD fun _=>LeP.to fun _=>LeP.bind (gg hN) fun _=>lr hD hN n m _ (by omega)) LeP.rfl'
 | n + 1,0,ks,h=>by omega
theorem mY {D D':GN} (hD:LeP Al D D') {N M:Nat} (hN:N<=M):LeP P (fileG l D N) (fileG l D' M):=LeP.to fun _=>LeP.to fun _=>LeP.to fun _=>LeP.bind (gg hN) fun _=>LeP.bind (lu hN N M _ hN) fun _=>LeP.bind (lr hD hN N M _ hN) fun _=>LeP.rfl'
structure FuF (F F':SF):Prop where
 binary:∀r,LeP Al (F.binary r) (F'.binary r)
 unary:LeP Al F.unary F'.unary
 block:LeP Al F.block F'.block
 branch:LeP Al F.branch F'.branch
 stmt:LeP Al F.stmt F'.stmt
theorem iJ {N M:Nat} (hN:N<=M):∀n m,n<=m->FuF (sf l N n) (sf l M m)
 | 0,m,h=>⟨fun _=>LeP.out,LeP.out,LeP.out,LeP.out,LeP.out⟩
 | n + 1,0,h=>by omega
 | n + 1,m + 1,h=>by
  have q:=iJ hN n m (by omega);exact⟨fun r=>pA q.unary q.binary hN r,oo q.unary (mZ (q.binary 1) hN),oq q.stmt hN,pC (q.binary 1) q.block q.branch,
   nf (mr (q.binary 1)) (mq (q.binary 1)) q.block q.branch (ky (q.binary 1) q.block) (ng (q.binary 1)) (pB (q.binary 1) (ky (q.binary 1) q.block))⟩
theorem lq {N M n m:Nat} (hN:N<=M) (hn:n<=m):LeP P (fileS l N (sf l N n)) (fileS l M (sf l M m)):=by
 have q:=iJ (l:=l) hN n m hn;exact mY (nc (mr (q.binary 1)) (mq (q.binary 1)) (ql hN) (qg q.block hN)) hN
end Gr
end Go.Proofs.Dm
namespace Go.Proofs.Dm
open Go Go.Proofs Go.Proofs.Dm.Sc
namespace Gr
variable {α β:Type} {l l':List Tok} {Ok P Q:Nat->Nat->Prop} {R:α->α->Prop} {R2:β->β->Prop}
def bm (t u:Tok):Prop:=t.kind=u.kind/\(t.kind≠6->t.text=u.text)
theorem fL {t u:Tok} {s:ByteArray} (h:bm t u):Pp.word t s=Pp.word u s:=by
 unfold Pp.word
 by_cases q:t.kind=6
 ·rw[<-h.1,q];rfl
 ·rw[h.1,h.2 q]
theorem jM {t:Tok} {s:ByteArray} (h:t.kind=6):Pp.word t s=false:=by
 unfold Pp.word;rw[h];rfl
theorem l4 {t:Tok} {s:ByteArray} (h:Fo.isO t [125]=true) (hs:s.data.toList≠ [125]):Pp.word t s=false:=by
 unfold Fo.isO at h;rw[ae,beq_iff_eq,beq_iff_eq]at h;unfold Pp.word;rw[h.2,Lib.toList_data,aB];right;rw[beq_eq_false_iff_ne];exact fun q=>hs q.symm
def Run (l:List Tok) (a b:Nat):Prop:=a<=b/\(∀k,a<=k->k < b->(tokAt l k).kind=6)/\(tokAt l b).kind≠6
theorem ij:∀(N d a:Nat) (x:Unit) (b:Nat),semisG l N d a= .ok x b->Run l a b
 | 0,d,a,x,b,h=>by cases h
 | n + 1,d,a,x,b,h=>by
  unfold semisG at h;split at h
  ·rename_i hk;have hk':(tokAt l a).kind=6:=by simpa using hk
   obtain⟨h1,h2,h3⟩:=ij n d (a + 1) x b h;refine⟨by omega,fun k q1 q2=> ?_,h3⟩;rcases aT q1 with q | q
   ·subst q;exact hk'
   ·exact h2 k q q2
  ·rename_i hk;cases h;exact⟨au _,fun k q1 q2=>by omega,by simpa using hk⟩
theorem lZ:∀(N d a b:Nat),Run l a b->b < a + N->semisG l N d a= .ok () b
 | 0,d,a,b,h,g=>by have:=h.1;omega
 | n + 1,d,a,b,h,g=>by
  unfold semisG;rcases aT h.1 with q | q
  ·subst q;rw[if_neg (by simpa using h.2.2)]
  ·rw[if_pos (by simpa using h.2.1 a (au _) q)];exact lZ n d (a + 1) b ⟨q,fun k q1 q2=>h.2.1 k (by omega) q2,h.2.2⟩ (by omega)
theorem iT {i:Nat} (h:l.length<=i):tokAt l i=endT:=by
 unfold tokAt;rw[aq h];rfl
theorem gO {N d a b:Nat} (h:Run l a b) (hN:l.length < N):semisG l N d a= .ok () b:=by
 refine lZ N d a b h ?_;rcases al b (a + 1)with q | q
 ·omega
 ·have:=h.2.1 (b - 1) (by omega) (by omega);rcases al (b - 1) l.length with g | g
  ·omega
  ·rw[iT g]at this;exact absurd this (by decide)
def QT (t u:Tok):Prop:=bm t u\/(Fo.isO t [125]=true/\u.kind=6)
structure Sm0 (l l':List Tok) (Ok:Nat->Nat->Prop):Prop where
 tok:∀{a a'},Ok a a'->QT (tokAt l a) (tokAt l' a')
 step:∀{a a'},Ok a a'->bm (tokAt l a) (tokAt l' a')->(tokAt l a).kind≠6->(tokAt l a).kind≠7->Fo.isO (tokAt l a) [123]=false->Ok (a + 1) (a' + 1)
 opn:∀{a a'},Ok a a'->bm (tokAt l a) (tokAt l' a')->Fo.isO (tokAt l a) [123]=true->∀b,Run l (a + 1) b->∃b',Run l' (a' + 1) b'/\Ok b b'
 semi:∀{a a'},Ok a a'->(tokAt l a).kind=6->∀b,Run l (a + 1) b->∃b',Run l' (a' + 1) b'/\Ok b b'
 shut:∀{a a'},Ok a a'->Fo.isO (tokAt l a) [125]=true->(tokAt l' a').kind=6->∃b',Run l' (a' + 1) b'/\Ok a b'
def PSm (l l':List Tok) (Ok:Nat->Nat->Prop) (a a':Nat):Prop:=Ok a a'/\bm (tokAt l a) (tokAt l' a')
def PQm (l l':List Tok) (Ok:Nat->Nat->Prop) (w:ByteArray) (a a':Nat):Prop:=PSm l l' Ok a a'/\Pp.word (tokAt l a) w=true
theorem QT.word {t u:Tok} {w:ByteArray} (h:QT t u) (hw:w.data.toList≠ [125]):Pp.word t w=Pp.word u w:=by
 rcases h with h | ⟨h1,h2⟩
 ·exact fL h
 ·rw[jM h2,l4 h1 hw]
theorem QT.same {t u:Tok} {w:ByteArray} (h:QT t u) (hw:w.data.toList≠ [125]) (q:Pp.word t w=true):bm t u:=by
 rcases h with h | ⟨h1,h2⟩
 ·exact h
 ·rw[l4 h1 hw]at q;cases q
theorem dY {t:Tok} {x:List UInt8} (h:Fo.isO t x=true):t.kind=4:=by
 unfold Fo.isO at h;rw[ae,beq_iff_eq]at h;exact h.1
theorem QT.kind {t u:Tok} {k:Int} (h:QT t u) (h4:k≠4) (h6:k≠6):(t.kind==k)=(u.kind==k):=by
 rcases h with h | ⟨h1,h2⟩
 ·rw[h.1]
 ·rw[dY h1,h2];have e1:((4:Int)==k)=false:=by rw[beq_eq_false_iff_ne];omega
  have e2:((6:Int)==k)=false:=by rw[beq_eq_false_iff_ne];omega
  rw[e1,e2]
theorem QT.kinds {t u:Tok} (h:QT t u) (h4:t.kind≠4):bm t u:=by
 rcases h with h | ⟨h1,h2⟩
 ·exact h
 ·exact absurd (dY h1) h4
def af (Ok P:Nat->Nat->Prop) (R:α->α->Prop) (s s':G α):Prop:=∀d a a',P a a'->∀x b,s d a= .ok x b->∃x' b',s' d a'= .ok x' b'/\Ok b b'/\R x x'
theorem af.bind {s s':G α} {t t':α->G β} (h:af Ok P R s s') (ht:∀x x',R x x'->af Ok Ok R2 (t x) (t' x')):af Ok P R2 (Gr.bind s t) (Gr.bind s' t'):=by
 intro d a a' hp x b q;obtain⟨y,c,h1,h2⟩:=aN q;obtain⟨y',c',g1,g2,g3⟩:=h d a a' hp y c h1;obtain⟨x',b',k1,k2,k3⟩:=ht y y' g3 d c c' g2 x b h2;exact⟨x',b',by simp only[Gr.bind,g1,Res.andThen];exact k1,k2,k3⟩
theorem af.pre {s s':G α} (h:af Ok Q R s s') (hp:∀a a',P a a'->Q a a'):af Ok P R s s':=fun d a a' q=>h d a a' (hp a a' q)
theorem af.pure {x x':α} (hx:R x x') (hp:∀a a',P a a'->Ok a a'):af Ok P R (Gr.pure x) (Gr.pure x'):=fun d a a' h y b q=>by
 unfold Gr.pure at q;cases q;exact⟨x',a',rfl,hp _ a' h,hx⟩
theorem af.ret {x x':α} (hx:R x x'):af Ok Ok R (Gr.pure x) (Gr.pure x'):=af.pure hx fun _ _ h=>h
theorem af.fail {s':G α}:af Ok P R Gr.fail s':=fun d a a' h y b q=>by cases q
theorem af.stop {s':G α}:af Ok P R Gr.stop s':=fun d a a' h y b q=>by cases q
theorem af.nest {s s':G α} (h:af Ok P R s s'):af Ok P R (Gr.nest s) (Gr.nest s'):=fun d a a' hp y b q=>by
 unfold Gr.nest at q;split at q
 ·cases q
 ·rename_i hd;obtain⟨x',b',k1,k2,k3⟩:=h (d + 1) a a' hp y b q;exact⟨x',b',by unfold Gr.nest;rw[if_neg hd];exact k1,k2,k3⟩
theorem af.dq {c c':Bool} {s s' t t':G α} (e:c=c') (h1:c=true->af Ok P R s s') (h2:c=false->af Ok P R t t'):af Ok P R (Gr.ite c s t) (Gr.ite c' s' t'):=by
 subst e;cases c
 ·exact h2 rfl
 ·exact h1 rfl
def TR (l l':List Tok) (i i':Int):Prop:=Sh.tokT l i=Sh.tokT l' i'
theorem gN (a:Nat):Sh.tokT l (a:Int)=(tokAt l a).text:=by
 unfold Sh.tokT tokAt;rw[if_pos (by omega),bS];cases l[a]? <;> rfl
def AP (l l':List Tok) (Ok:Nat->Nat->Prop) (a a':Nat):Prop:=PSm l l' Ok a a'/\(tokAt l a).kind≠6/\Fo.isO (tokAt l a) [123]=false
theorem AP.tr {a a':Nat} (h:AP l l' Ok a a'):TR l l' (a:Int) (a':Int):=by
 unfold TR;rw[gN,gN];exact h.1.2.2 h.2.1
theorem iS (H:Sm0 l l' Ok):af Ok (AP l l' Ok) (TR l l') (Gr.adv l) (Gr.adv l'):=fun d a a' h x b q=>by
 unfold Gr.adv at q;split at q
 ·cases q
 ·rename_i h7;cases q;have h7':(tokAt l a).kind≠7:=by simpa using h7
  refine⟨(a':Int),a' + 1,?_,H.step h.1.1 h.1.2 h.2.1 h7' h.2.2,h.tr⟩;unfold Gr.adv;rw[if_neg];rw[<-h.1.2.1];exact h7
theorem af.adv (H:Sm0 l l' Ok) {t t':Int->G β} (hp:∀a a',P a a'->AP l l' Ok a a') (ht:∀x x',TR l l' x x'->af Ok Ok R2 (t x) (t' x')):af Ok P R2 (Gr.bind (Gr.adv l) t) (Gr.bind (Gr.adv l') t'):=af.bind ((iS H).pre hp) ht
theorem gU {t:Tok} {w:ByteArray} (h:Pp.word t w=true) (hw:w.data.toList≠ [123]):t.kind≠6/\Fo.isO t [123]=false:=by
 unfold Pp.word at h;rw[ae,aG,beq_iff_eq,beq_iff_eq,beq_iff_eq]at h;refine⟨by rcases h.1 with q | q <;> rw[q] <;> decide,?_⟩;unfold Fo.isO;rw[h.2,Lib.toList_data,aB];right;rw[beq_eq_false_iff_ne];exact hw
theorem PQm.ap {w:ByteArray} (hw:w.data.toList≠ [123]) (a a':Nat) (h:PQm l l' Ok w a a'):AP l l' Ok a a':=⟨h.1,gU h.2 hw⟩
theorem mD {t:Tok} {k:Int} (h:t.kind=k) (h4:k≠4):Fo.isO t [123]=false:=by
 unfold Fo.isO;rw[h,aB];left;rw[beq_eq_false_iff_ne];exact h4
theorem af.kind (H:Sm0 l l' Ok) {k:Int} {t t':Int->G β} (h4:k≠4) (h6:k≠6) (hp:∀a a',P a a'->Ok a a') (ht:∀x x',TR l l' x x'->af Ok Ok R2 (t x) (t' x')):af Ok P R2 (Gr.bind (kindG l k) t) (Gr.bind (kindG l' k) t'):=by
 refine af.bind (R:=TR l l') (fun d a a' h x b q=> ?_) ht;have h1:=hp a a' h;unfold kindG at q;split at q
 ·rename_i hk;split at q
  ·cases q
  ·rename_i k7;cases q;have hk':(tokAt l a).kind=k:=by simpa using hk
   have hs:=(H.tok h1).kinds (by rw[hk'];exact h4);have ha:AP l l' Ok a a':=⟨⟨h1,hs⟩,by rw[hk'];exact h6,mD hk' h4⟩
   refine⟨(a':Int),a' + 1,?_,H.step h1 hs ha.2.1 (by rw[hk'];simpa using k7) ha.2.2,ha.tr⟩;unfold kindG;rw[<-hs.1,if_pos hk,if_neg k7]
 ·cases q
theorem af.want (H:Sm0 l l' Ok) {w:ByteArray} {t t':Int->G β} (h3:w.data.toList≠ [123]) (h5:w.data.toList≠ [125]) (hp:∀a a',P a a'->Ok a a') (ht:∀x x',TR l l' x x'->af Ok Ok R2 (t x) (t' x')):af Ok P R2 (Gr.bind (wantG l w) t) (Gr.bind (wantG l' w) t'):=by
 refine af.bind (R:=TR l l') (fun d a a' h x b q=> ?_) ht;have h1:=hp a a' h;unfold wantG at q;split at q
 ·rename_i hk;cases q;have hs:=(H.tok h1).same h5 hk;have ha:AP l l' Ok a a':=⟨⟨h1,hs⟩,gU hk h3⟩
  refine⟨(a':Int),a' + 1,?_,H.step h1 hs ha.2.1 ?_ ha.2.2,ha.tr⟩
  ·unfold wantG;rw[<-fL hs,if_pos hk]
  ·unfold Pp.word at hk;rw[ae,aG,beq_iff_eq,beq_iff_eq]at hk;rcases hk.1 with q | q <;> rw[q] <;> decide
 ·cases q
theorem af.isI (H:Sm0 l l' Ok) {w:ByteArray} {A A' B B':G α} (hw:w.data.toList≠ [125]) (hp:∀a a',P a a'->Ok a a') (h1:af Ok (PQm l l' Ok w) R A A') (h2:af Ok P R B B'):af Ok P R (Gr.bind (isG l w) fun b=>Gr.ite b A B) (Gr.bind (isG l' w) fun b=>Gr.ite b A' B'):=by
 intro d a a' h x b q;have e:=(H.tok (hp _ _ h)).word hw;rw[is_at]at q;simp only[is_at,<-e];cases c:Pp.word (tokAt l a) w with
 | true=>
  rw[c]at q;exact h1 d a a' ⟨⟨hp _ _ h,(H.tok (hp _ _ h)).same hw c⟩,c⟩ x b q
 | false=>
  rw[c]at q;exact h2 d a a' h x b q
theorem af.look (H:Sm0 l l' Ok) {f f':Tok->G β} (hp:∀a a',P a a'->Ok a a') (ht:∀t t',QT t t'->af Ok (fun a a'=>P a a'/\tokAt l a=t/\tokAt l' a'=t') R2 (f t) (f' t')):af Ok P R2 (Gr.bind (Gr.look l 0) f) (Gr.bind (Gr.look l' 0) f'):=by
 intro d a a' h x b q;rw[look_at]at q;simp only[look_at];exact ht _ _ (H.tok (hp a a' h)) d a a' ⟨h,rfl,rfl⟩ x b q
def NdR (l l':List Tok) (x x':Nd):Prop:=Sh.shapeS l x=Sh.shapeS l' x'
def KR (l l':List Tok) (ks ks':List Nd):Prop:=∀s,Sh.kidsS l s ks=Sh.kidsS l' s ks'
theorem KR.nil:KR l l' [] []:=fun s=>rfl
theorem jL (l:List Tok) (x:Nd):∀(ks:List Nd) (s:ByteArray),Sh.kidsS l s (ks ++ [x])=Sh.kidsS l s ks ++(⟨#[32]⟩ ++ Sh.shapeS l x)
 | [],s=>by simp[Sh.kidsS]
 | k::ks,s=>by simp only[aw,Sh.kidsS];exact jL l x ks _
theorem KR.snoc {ks ks':List Nd} {x x':Nd} (h:KR l l' ks ks') (hx:NdR l l' x x'):KR l l' (ks ++ [x]) (ks' ++ [x']):=fun s=>by
 rw[jL,jL,h s];unfold NdR at hx;rw[hx]
theorem KR.one {x x':Nd} (hx:NdR l l' x x'):KR l l' [x] [x']:=KR.snoc (ks:= []) (ks':= []) KR.nil hx
theorem KR.two {x x' y y':Nd} (hx:NdR l l' x x') (hy:NdR l l' y y'):KR l l' [x,y] [x',y']:=KR.snoc (ks:= [x]) (ks':= [x']) (KR.one hx) hy
theorem KR.three {x x' y y' z z':Nd} (hx:NdR l l' x x') (hy:NdR l l' y y') (hz:NdR l l' z z'):KR l l' [x,y,z] [x',y',z']:=KR.snoc (ks:= [x,y]) (ks':= [x',y']) (KR.two hx hy) hz
theorem nd1 {k t t':Int} {ks ks':List Nd} (ht:TR l l' t t') (h:KR l l' ks ks'):NdR l l' (.mk k t ks) (.mk k t' ks'):=by
 unfold NdR;simp only[Sh.shapeS];have e:Sh.headS l k t=Sh.headS l' k t':=by unfold Sh.headS;rw[ht]
 rw[e,h]
theorem ndb {k t t':Int} {ks ks':List Nd} (hb:Sh.bare k=true) (h:KR l l' ks ks'):NdR l l' (.mk k t ks) (.mk k t' ks'):=by
 unfold NdR;simp only[Sh.shapeS];have e:Sh.headS l k t=Sh.headS l' k t':=by unfold Sh.headS;rw[hb];rfl
 rw[e,h]
end Gr
end Go.Proofs.Dm
namespace Go.Proofs.Dm
open Go Go.Proofs Go.Proofs.Dm.Sc
namespace Gr
variable {α β:Type} {l l':List Tok} {Ok P Q:Nat->Nat->Prop} {R:α->α->Prop} {R2:β->β->Prop}
abbrev SX (l l':List Tok) (Ok:Nat->Nat->Prop) (s s':GN):Prop:=af Ok Ok (NdR l l') s s'
theorem I2 (a a':Nat) (h:Ok a a'):Ok a a':=h
theorem dn {s:G α} {t:α->G β} {d a:Nat} {y:α} {b:Nat} (h:s d a= .ok y b):Gr.bind s t d a=t y d b:=by
 unfold Gr.bind;rw[h];rfl
theorem ji {d a:Nat} (h:(tokAt l a).kind=6):kindG l 6 d a= .ok (a:Int) (a + 1):=by
 unfold kindG;rw[if_pos (by simpa using h),if_neg (by decide)]
theorem oh {d a:Nat} {w:ByteArray} (h:Pp.word (tokAt l a) w=true):wantG l w d a= .ok (a:Int) (a + 1):=by
 unfold wantG;rw[if_pos h]
theorem mX {d a:Nat} (h:(tokAt l a).kind≠7):Gr.adv l d a= .ok (a:Int) (a + 1):=by
 unfold Gr.adv;rw[if_neg (by simpa using h)]
theorem Sm0.same (H:Sm0 l l' Ok) {a a' c:Nat} (h:Ok a a') (r:Run l' c a'):bm (tokAt l a) (tokAt l' a'):=by
 rcases H.tok h with s | ⟨_,s⟩
 ·exact s
 ·exact absurd s r.2.2
theorem gM (H:Sm0 l l' Ok):SX l l' Ok (typG l) (typG l'):=af.kind H (by decide) (by decide) I2 fun t t' ht=>af.isI H (by decide) I2 (af.adv H (PQm.ap (by decide)) fun _ _ _=>af.kind H (by decide) (by decide) I2 fun u u' hu=>af.ret (nd1 hu (KR.one (nd1 ht KR.nil)))) (af.ret (nd1 ht KR.nil))
theorem mC (H:Sm0 l l' Ok) {E E':GN} (hE:SX l l' Ok E E'):af Ok (PQm l l' Ok ⟨#[118,97,114]⟩) (NdR l l') (variableG l E) (variableG l' E'):=
 af.adv H (PQm.ap (by decide)) fun _ _ _=>af.kind H (by decide) (by decide) I2 fun t t' ht=>af.bind (gM H) fun y y' hy=>af.isI H (by decide) I2 (af.adv H (PQm.ap (by decide)) fun _ _ _=>af.bind hE fun e e' he=>af.ret (nd1 ht (KR.two hy he))) (af.ret (nd1 ht (KR.one hy)))
theorem mB (H:Sm0 l l' Ok) {E E':GN} (hE:SX l l' Ok E E'):af Ok (PQm l l' Ok ⟨#[99,111,110,115,116]⟩) (NdR l l') (constantG l E) (constantG l' E'):=
 af.adv H (PQm.ap (by decide)) fun _ _ _=>af.kind H (by decide) (by decide) I2 fun t t' ht=>af.want H (by decide) (by decide) I2 fun _ _ _=>af.bind hE fun e e' he=>af.ret (nd1 ht (KR.one he))
theorem iw (H:Sm0 l l' Ok) {S S':GN} (hS:SX l l' Ok S S') {N N':Nat} (hN:l'.length < N'):∀(n m:Nat) (ks ks':List Nd),n<=m->KR l l' ks ks'->∀d a a' x b,PSm l l' Ok a a'->curlyLG l S N n ks d a= .ok x b->∃x' b',curlyLG l' S' N' m ks' d a'= .ok x' b'/\PSm l l' Ok b b'/\Pp.word (tokAt l b) ⟨#[125]⟩=true/\KR l l' x x'
 | 0,m,ks,ks',hm,hk,d,a,a',x,b,hp,q=>by cases q
 | n + 1,0,ks,ks',hm,hk,d,a,a',x,b,hp,q=>by omega
 | n + 1,m + 1,ks,ks',hm,hk,d,a,a',x,b,hp,q=>by
  unfold curlyLG at q;rw[is_at]at q;have e:=fL (s:=⟨#[125]⟩) hp.2;cases c:Pp.word (tokAt l a) ⟨#[125]⟩with
  | true=>
   rw[c]at q
   replace q:Gr.pure ks d a= .ok x b:=q
   unfold Gr.pure at q;cases q;refine⟨ks',a',?_,hp,c,hk⟩;unfold curlyLG;rw[is_at,<-e,c];rfl
  | false=>
   rw[c]at q
   replace q:Gr.bind S _ d a= .ok x b:=q
   obtain⟨y,c1,h1,h2⟩:=aN q;obtain⟨y',c1',g1,g2,g3⟩:=hS d a a' hp.1 y c1 h1;rw[is_at]at h2;have hks:=hk.snoc g3;cases c2:Pp.word (tokAt l c1) ⟨#[125]⟩with
   | true=>
    rw[c2]at h2
    replace h2:curlyLG l S N n (ks ++ [y]) d c1= .ok x b:=h2
    rcases H.tok g2 with s | ⟨s1,s2⟩
    ·obtain⟨x',b',k1,k2⟩:=iw H hS hN n m _ _ (by omega) hks d c1 c1' x b ⟨g2,s⟩ h2;refine⟨x',b',?_,k2⟩;unfold curlyLG;rw[is_at,<-e,c];show Gr.bind S' _ d a'=_;rw[dn g1,is_at,<-fL s,c2];exact k1
    ·obtain⟨b2,r1,r2⟩:=H.shut g2 s1 s2;obtain⟨x',b',k1,k2⟩:=iw H hS hN n m _ _ (by omega) hks d c1 b2 x b ⟨r2,H.same r2 r1⟩ h2;refine⟨x',b',?_,k2⟩;unfold curlyLG;rw[is_at,<-e,c];show Gr.bind S' _ d a'=_;rw[dn g1,is_at,jM s2];show Gr.bind (kindG l' 6) _ d c1'=_;rw[dn (ji s2),dn (gO r1 hN)];exact k1
   | false=>
    rw[c2]at h2
    replace h2:Gr.bind (kindG l 6) _ d c1= .ok x b:=h2
    obtain⟨u,c3,h3,h4⟩:=aN h2;obtain⟨rfl,k6⟩:=eX h3;obtain⟨z,c4,h5,h6⟩:=aN h4;have s6:(tokAt l' c1').kind=6:=by
     rcases H.tok g2 with s | ⟨s1,s2⟩
     ·rw[<-s.1];exact k6
     ·exact s2
    obtain⟨b2,r1,r2⟩:=H.semi g2 k6 c4 (ij _ _ _ _ _ h5);obtain⟨x',b',k1,k2⟩:=iw H hS hN n m _ _ (by omega) hks d c4 b2 x b ⟨r2,H.same r2 r1⟩ h6;refine⟨x',b',?_,k2⟩;unfold curlyLG;rw[is_at,<-e,c];show Gr.bind S' _ d a'=_;rw[dn g1,is_at,jM s6];show Gr.bind (kindG l' 6) _ d c1'=_;rw[dn (ji s6),dn (gO r1 hN)];exact k1
theorem lY (H:Sm0 l l' Ok) (hK:KTs l) {S S':GN} (hS:SX l l' Ok S S') {N N':Nat} (hN:l'.length < N') (hM:N<=N'):af Ok Ok (fun r r'=>TR l l' r.1 r'.1/\KR l l' r.2 r'.2) (curlyG l S N) (curlyG l' S' N'):=by
 refine af.isI H (by decide) I2 (af.nest fun d a a' hp x b q=> ?_) af.fail;obtain⟨t,c0,h1,q⟩:=aN q;unfold Gr.adv at h1;split at h1
 ·cases h1
 rename_i h7;cases h1;obtain⟨z,c,h2,q⟩:=aN q;obtain⟨ks,e,h3,q⟩:=aN q;obtain⟨w,f,h4,q⟩:=aN q;unfold Gr.pure at q;cases q;have o:=iA (hK a) (.inl rfl) hp.2;obtain⟨c',r1,r2⟩:=H.opn hp.1.1 hp.1.2 o c (ij _ _ _ _ _ h2);obtain⟨ks',e',k1,k2,k3,k4⟩:=iw H hS hN N N' [] [] hM KR.nil _ c c' ks e ⟨r2,H.same r2 r1⟩ h3;obtain⟨rfl,hw⟩:=want_ok h4;have hn:=gU hw (by decide);have hs:=hp.1.2;have n6:=dY o;refine⟨((a':Int),ks'),e' + 1,?_,H.step k2.1 k2.2 hn.1 ?_ hn.2,?_,k4⟩
 ·rw[dn (mX (by rw[<-hs.1];simpa using h7)),dn (gO r1 hN),dn k1,dn (oh (by rw[<-fL k2.2];exact hw))];rfl
 ·have:=word_ne7 hw;simpa using this
 ·show TR l l' (a:Int) (a':Int);unfold TR;rw[gN,gN];exact hs.2 (by rw[n6];decide)
theorem pz (H:Sm0 l l' Ok) (hK:KTs l) {S S':GN} (hS:SX l l' Ok S S') {N N':Nat} (hN:l'.length < N') (hM:N<=N'):SX l l' Ok (blockG l S N) (blockG l' S' N'):=af.bind (lY H hK hS hN hM) fun r r' hr=>af.ret (nd1 hr.1 hr.2)
theorem pw (H:Sm0 l l' Ok):SX l l' Ok (fieldG l) (fieldG l'):=af.kind H (by decide) (by decide) I2 fun t t' ht=>af.bind (gM H) fun y y' hy=>af.ret (nd1 ht (KR.one hy))
theorem qp (H:Sm0 l l' Ok) (hK:KTs l) {N N':Nat} (hN:l'.length < N') (hM:N<=N'):af Ok (PQm l l' Ok ⟨#[116,121,112,101]⟩) (NdR l l') (structureG l N) (structureG l' N'):=
 af.adv H (PQm.ap (by decide)) fun _ _ _=>af.kind H (by decide) (by decide) I2 fun t t' ht=>af.want H (by decide) (by decide) I2 fun _ _ _=>af.bind (lY H hK (pw H) hN hM) fun r r' hr=>af.ret (nd1 ht hr.2)
theorem jK (H:Sm0 l l' Ok):∀(n m:Nat) (ks ks':List Nd),n<=m->KR l l' ks ks'->af Ok Ok (KR l l') (funcLG l n ks) (funcLG l' m ks')
 | 0,m,ks,ks',hm,hk=>af.stop
 | n + 1,0,ks,ks',hm,hk=>by omega
 | n + 1,m + 1,ks,ks',hm,hk=>af.isI H (by decide) I2 (af.pure hk fun _ _ h=>h.1.1) (af.kind H (by decide) (by decide) I2 fun t t' ht=>af.bind (gM H) fun y y' hy=>
   af.isI H (by decide) I2 ((jK H n m _ _ (by omega) (hk.snoc (nd1 ht (KR.one hy)))).pre fun _ _ h=>h.1.1) (af.want H (by decide) (by decide) I2 fun _ _ _=>af.isI H (by decide) I2 af.fail (jK H n m _ _ (by omega) (hk.snoc (nd1 ht (KR.one hy))))))
theorem qk (H:Sm0 l l' Ok) {C C':GN} (hC:SX l l' Ok C C') {N N':Nat} (hM:N<=N'):af Ok (PQm l l' Ok ⟨#[102,117,110,99]⟩) (NdR l l') (functionG l C N) (functionG l' C' N'):=
 af.adv H (PQm.ap (by decide)) fun _ _ _=>af.kind H (by decide) (by decide) I2 fun t t' ht=>af.want H (by decide) (by decide) I2 fun _ _ _=>af.bind (jK H N N' [] [] hM KR.nil) fun ks ks' hk=>af.want H (by decide) (by decide) I2 fun _ _ _=>
  af.look H I2 fun k k' q=>af.dq (q.kind (by decide) (by decide)) (fun _=>(af.bind (gM H) fun y y' hy=>af.bind hC fun b b' hb=>af.ret (nd1 ht ((hk.snoc hy).snoc hb))).pre fun _ _ h=>h.1) (fun _=>(af.bind hC fun b b' hb=>af.ret (nd1 ht (hk.snoc hb))).pre fun _ _ h=>h.1)
theorem AP.look {t t':Tok} {k:Int} (q:QT t t') (hc:(t.kind==k)=true) (h4:k≠4) (h6:k≠6) (a a':Nat) (h:Ok a a'/\tokAt l a=t/\tokAt l' a'=t'):AP l l' Ok a a':=by
 have hk:t.kind=k:=by simpa using hc
 obtain⟨h1,h2,h3⟩:=h;exact⟨⟨h1,by rw[h2,h3];exact q.kinds (by rw[hk];exact h4)⟩,by rw[h2,hk];exact h6,by rw[h2];exact mD hk h4⟩
theorem lX (H:Sm0 l l' Ok) {w:ByteArray} (hw:w.data.toList≠ [123]) (k:Int):af Ok (PQm l l' Ok w) (NdR l l') (leaveG l k) (leaveG l' k):=
 af.adv H (PQm.ap hw) fun t t' ht=>af.look H I2 fun x x' q=>af.dq (q.kind (by decide) (by decide)) (fun hc=>af.adv H (AP.look q hc (by decide) (by decide)) fun u u' hu=>af.ret (nd1 ht (KR.one (nd1 hu KR.nil)))) (fun _=>af.pure (nd1 ht KR.nil) fun _ _ h=>h.1)
theorem qb (H:Sm0 l l' Ok) {E E' C C' K K':GN} (hE:SX l l' Ok E E') (hC:SX l l' Ok C C') (hK:af Ok (PQm l l' Ok ⟨#[105,102]⟩) (NdR l l') K K'):af Ok (PQm l l' Ok ⟨#[105,102]⟩) (NdR l l') (branchG l E C K) (branchG l' E' C' K'):=
 af.adv H (PQm.ap (by decide)) fun t t' ht=>af.bind hE fun e e' he=>af.bind hC fun b b' hb=>af.isI H (by decide) I2
  (af.adv H (PQm.ap (by decide)) fun _ _ _=>af.isI H (by decide) I2 (af.bind (af.nest hK) fun r r' hr=>af.ret (nd1 ht (KR.three he hb hr))) (af.bind hC fun r r' hr=>af.ret (nd1 ht (KR.three he hb hr)))) (af.ret (nd1 ht (KR.two he hb)))
theorem lp (H:Sm0 l l' Ok) {E E' C C':GN} (hE:SX l l' Ok E E') (hC:SX l l' Ok C C'):af Ok (PQm l l' Ok ⟨#[102,111,114]⟩) (NdR l l') (loopG l E C) (loopG l' E' C'):=
 af.adv H (PQm.ap (by decide)) fun t t' ht=>af.bind hE fun e e' he=>af.bind hC fun b b' hb=>af.ret (nd1 ht (KR.two he hb))
theorem qj {t:Tok} (h:Fo.isO t [125]=true):Pp.word t ⟨#[125]⟩=true:=by
 unfold Fo.isO at h;rw[ae,beq_iff_eq,beq_iff_eq]at h;unfold Pp.word;rw[h.1,h.2,Lib.toList_data];rfl
theorem af.isS {w:ByteArray} {A A' B B':G α} (hp:∀a a',P a a'->PSm l l' Ok a a') (h1:af Ok (PQm l l' Ok w) R A A') (h2:af Ok P R B B'):af Ok P R (Gr.bind (isG l w) fun b=>Gr.ite b A B) (Gr.bind (isG l' w) fun b=>Gr.ite b A' B'):=by
 intro d a a' h x b q;have e:=fL (s:=w) (hp _ _ h).2;rw[is_at]at q;simp only[is_at,<-e];cases c:Pp.word (tokAt l a) w with
 | true=>
  rw[c]at q;exact h1 d a a' ⟨hp _ _ h,c⟩ x b q
 | false=>
  rw[c]at q;exact h2 d a a' h x b q
theorem og (H:Sm0 l l' Ok) {E E':GN} (hE:SX l l' Ok E E'):af Ok (PQm l l' Ok ⟨#[114,101,116,117,114,110]⟩) (NdR l l') (backG l E) (backG l' E'):=
 af.adv H (PQm.ap (by decide)) fun t t' ht=>af.look H I2 fun k k' q=>by
  rcases q with s | ⟨s1,s2⟩
  ·refine af.dq (by rw[s.1]) (fun _=>af.pure (nd1 ht KR.nil) fun _ _ h=>h.1) fun _=> ?_
   exact af.isS (fun a a' h=>⟨h.1,by rw[h.2.1,h.2.2];exact s⟩) (af.pure (nd1 ht KR.nil) fun _ _ h=>h.1.1) ((af.bind hE fun e e' he=>af.ret (nd1 ht (KR.one he))).pre fun _ _ h=>h.1)
  ·intro d a a' h x b q;have h6:(k.kind==6)=false:=by rw[dY s1];rfl
   have h6':(k'.kind==6)=true:=by rw[s2];rfl
   rw[ite_f h6,is_at,h.2.1,qj s1]at q
   replace q:Gr.pure (.mk 16 t []:Nd) d a= .ok x b:=q
   unfold Gr.pure at q;cases q;exact⟨.mk 16 t' [],a',by rw[ite_t h6'];rfl,h.1,nd1 ht KR.nil⟩
theorem oe (hp:∀a a',P a a'->Ok a a'):af Ok P (fun _ _=>True) Gr.here Gr.here:=fun d a a' h x b q=>by
 unfold Gr.here at q;cases q;exact⟨(a':Int),a',rfl,hp _ _ h,True.intro⟩
theorem ll (H:Sm0 l l' Ok) {E E':GN} (hE:SX l l' Ok E E'):SX l l' Ok (restG l E) (restG l' E'):=
 af.bind (oe I2) fun f f' _=>af.bind hE fun x x' hx=>af.isI H (by decide) I2 (af.adv H (PQm.ap (by decide)) fun t t' ht=>af.bind hE fun y y' hy=>af.ret (nd1 ht (KR.two hx hy))) (af.ret (ndb rfl (KR.one hx)))
theorem af.mI (H:Sm0 l l' Ok) {f f':Tok->G β} (hp:∀a a',P a a'->Ok (a + 1) (a' + 1)) (ht:∀t t',QT t t'->af Ok (fun a a'=>P a a'/\tokAt l (a + 1)=t/\tokAt l' (a' + 1)=t') R2 (f t) (f' t')):af Ok P R2 (Gr.bind (Gr.look l 1) f) (Gr.bind (Gr.look l' 1) f'):=by
 intro d a a' h x b q;rw[look_at]at q;simp only[look_at];exact ht _ _ (H.tok (hp a a' h)) d a a' ⟨h,rfl,rfl⟩ x b q
theorem af.fi (H:Sm0 l l' Ok) {t t':Int->G β} (hp:∀a a',P a a'->AP l l' Ok a a'/\AP l l' Ok (a + 1) (a' + 1)) (ht:∀x x',TR l l' x x'->af Ok Ok R2 (t x) (t' x')):af Ok P R2 (Gr.bind (Gr.adv l) fun x=>Gr.bind (Gr.adv l) fun _=>t x) (Gr.bind (Gr.adv l') fun x=>Gr.bind (Gr.adv l') fun _=>t' x):=by
 intro d a a' h x b q0;obtain⟨y,c,h1,q1⟩:=aN q0;obtain⟨z,c2,h2,q⟩:=aN q1;obtain⟨k1,k2⟩:=hp a a' h;obtain⟨y',c',g1,g2,g3⟩:=iS H d a a' k1 y c h1;obtain⟨rfl,_⟩:=cn h1;obtain⟨rfl,_⟩:=cn g1;obtain⟨z',c2',f1,f2,f3⟩:=iS H d _ _ k2 z c2 h2;obtain⟨x',b',e1,e2⟩:=ht y y' g3 d c2 c2' f2 x b q;exact⟨x',b',by rw[dn g1,dn f1];exact e1,e2⟩
theorem qa (H:Sm0 l l' Ok) {E E' L L':GN} (hE:SX l l' Ok E E') (hL:af Ok (PQm l l' Ok ⟨#[102,111,114]⟩) (NdR l l') L L'):SX l l' Ok (simpleG l E L) (simpleG l' E' L'):=
 af.look H I2 fun t t' q=>af.dq (q.kind (by decide) (by decide)) (fun hc=>by
  have hk:t.kind=1:=by simpa using hc
  have ap:∀a a',(Ok a a'/\tokAt l a=t/\tokAt l' a'=t')->AP l l' Ok a a':=AP.look q hc (by decide) (by decide);have nx:∀a a',(Ok a a'/\tokAt l a=t/\tokAt l' a'=t')->Ok (a + 1) (a' + 1):=fun a a' h=>by
   have g:=ap a a' h;exact H.step g.1.1 g.1.2 g.2.1 (by rw[h.2.1,hk];decide) g.2.2
  refine af.mI H nx fun n n' r=> ?_
  have ap2:∀w:ByteArray,w.data.toList≠ [123]->w.data.toList≠ [125]->Pp.word n w=true->∀a a',((Ok a a'/\tokAt l a=t/\tokAt l' a'=t')/\tokAt l (a + 1)=n/\tokAt l' (a' + 1)=n')->AP l l' Ok a a'/\AP l l' Ok (a + 1) (a' + 1):=fun w w1 w2 hw a a' h=>by
   refine⟨ap a a' h.1,⟨nx a a' h.1,?_⟩,?_⟩
   ·rw[h.2.1,h.2.2];exact r.same w2 hw
   ·rw[h.2.1];exact gU hw w1
  refine af.dq (r.word (by decide)) (fun hw=>af.fi H (ap2 _ (by decide) (by decide) hw) fun t t' ht=>af.bind hE fun e e' he=>af.ret (nd1 ht (KR.one he))) fun _=> ?_
  refine af.dq (r.word (by decide)) (fun hw=>af.fi H (ap2 _ (by decide) (by decide) hw) fun t t' ht=>af.isI H (by decide) I2 (af.bind hL fun x x' hx=>af.ret (nd1 ht (KR.one hx))) af.fail) fun _=> ?_
  exact(ll H hE).pre fun _ _ h=>h.1.1) (fun _=>(ll H hE).pre fun _ _ h=>h.1)
theorem od (H:Sm0 l l' Ok) {V V' C C' B B' I I' L L' K K' M M':GN} (hV:af Ok (PQm l l' Ok ⟨#[118,97,114]⟩) (NdR l l') V V') (hC:af Ok (PQm l l' Ok ⟨#[99,111,110,115,116]⟩) (NdR l l') C C') (hB:SX l l' Ok B B') (hI:af Ok (PQm l l' Ok ⟨#[105,102]⟩) (NdR l l') I I')
  (hL:af Ok (PQm l l' Ok ⟨#[102,111,114]⟩) (NdR l l') L L') (hK:af Ok (PQm l l' Ok ⟨#[114,101,116,117,114,110]⟩) (NdR l l') K K') (hM:SX l l' Ok M M'):SX l l' Ok (stmtG l V C B I L K M) (stmtG l' V' C' B' I' L' K' M'):=
 af.isI H (by decide) I2 hV (af.isI H (by decide) I2 hC (af.isI H (by decide) I2 (hB.pre fun _ _ h=>h.1.1) (af.isI H (by decide) I2 hI (af.isI H (by decide) I2 hL (af.isI H (by decide) I2 hK (af.isI H (by decide) I2 (lX H (by decide) 17) (af.isI H (by decide) I2 (lX H (by decide) 18) hM)))))))
theorem oc (H:Sm0 l l' Ok) {V V' C C' S S' F F':GN} (hV:af Ok (PQm l l' Ok ⟨#[118,97,114]⟩) (NdR l l') V V') (hC:af Ok (PQm l l' Ok ⟨#[99,111,110,115,116]⟩) (NdR l l') C C') (hS:af Ok (PQm l l' Ok ⟨#[116,121,112,101]⟩) (NdR l l') S S') (hF:af Ok (PQm l l' Ok ⟨#[102,117,110,99]⟩) (NdR l l') F F'):SX l l' Ok (declG l V C S F) (declG l' V' C' S' F'):=
 af.isI H (by decide) I2 hV (af.isI H (by decide) I2 hC (af.isI H (by decide) I2 hS (af.isI H (by decide) I2 hF af.fail)))
theorem pr {t:Tok} (h:Fo.isO t [125]=true):Pp.rank t.text=0:=by
 unfold Fo.isO at h;rw[ae,beq_iff_eq,beq_iff_eq]at h;unfold Pp.rank;rw[h.2];rfl
theorem pq {t:Tok} (h:Fo.isO t [123]=true):Pp.rank t.text=0:=by
 unfold Fo.isO at h;rw[ae,beq_iff_eq,beq_iff_eq]at h;unfold Pp.rank;rw[h.2];rfl
theorem oa {c:Bool} {s:G α}:Gr.ite c s s=s:=by cases c <;> rfl
theorem mo (H:Sm0 l l' Ok) {Y Y':Int->GN} (hY:∀r,SX l l' Ok (Y r) (Y' r)):∀(n m:Nat) (rk:Int) (x x':Nd),n<=m->NdR l l' x x'->SX l l' Ok (binaryLG l Y n rk x) (binaryLG l' Y' m rk x')
 | 0,m,rk,x,x',hm,hx=>af.stop
 | n + 1,0,rk,x,x',hm,hx=>by omega
 | n + 1,m + 1,rk,x,x',hm,hx=>af.look H I2 fun t t' q=>by
  rcases q with s | ⟨s1,s2⟩
  ·refine af.dq (by rw[s.1]) (fun _=>af.pure hx fun _ _ h=>h.1) fun h4=> ?_
   have k4:t.kind=4:=by simpa using h4
   have e:=s.2 (by rw[k4];decide);rw[<-e];refine af.dq rfl (fun _=>af.pure hx fun _ _ h=>h.1) fun _=>af.dq rfl (fun _=>af.pure hx fun _ _ h=>h.1) fun hr=> ?_
   refine af.adv H (fun a a' h=>⟨⟨h.1,by rw[h.2.1,h.2.2];exact s⟩,by rw[h.2.1,k4];decide,?_⟩) fun o o' ho=>af.bind (hY _) fun y y' hy=>mo H hY n m rk _ _ (by omega) (nd1 ho (KR.two hx hy))
   rw[h.2.1,c8];intro g;rw[pq g]at hr;exact absurd hr (by decide)
  ·intro d a a' h y b q;have h4:(t.kind !=4)=false:=by rw[dY s1];rfl
   have h4':(t'.kind !=4)=true:=by rw[s2];rfl
   have h0:(Pp.rank t.text==0)=true:=by rw[pr s1];rfl
   rw[ite_f h4,ite_t h0,oa]at q;unfold Gr.pure at q;cases q;exact⟨x',a',by rw[ite_t h4'];rfl,h.1,hx⟩
theorem p9 (H:Sm0 l l' Ok) {U U':GN} {Y Y':Int->GN} (hU:SX l l' Ok U U') (hY:∀r,SX l l' Ok (Y r) (Y' r)) {N N':Nat} (hM:N<=N') (rk:Int):SX l l' Ok (binaryG l U Y N rk) (binaryG l' U' Y' N' rk):=af.bind hU fun x x' hx=>mo H hY N N' rk x x' hM hx
theorem po (H:Sm0 l l' Ok) {U U' F F':GN} (hU:SX l l' Ok U U') (hF:SX l l' Ok F F'):SX l l' Ok (unaryG l U F) (unaryG l' U' F'):=
 af.look H I2 fun t t' q=>by
  rcases q with s | ⟨s1,s2⟩
  ·refine af.dq (by rw[s.1]) (fun _=>hF.pre fun _ _ h=>h.1) fun h4=> ?_
   have k4:t.kind=4:=by simpa using h4
   have e:=s.2 (by rw[k4];decide);rw[<-e];refine af.dq rfl (fun hu=>af.nest ?_) (fun _=>hF.pre fun _ _ h=>h.1);refine af.adv H (fun a a' h=>⟨⟨h.1,by rw[h.2.1,h.2.2];exact s⟩,by rw[h.2.1,k4];decide,?_⟩) fun o o' ho=>af.bind hU fun x x' hx=>af.ret (nd1 ho (KR.one hx))
   rw[h.2.1];unfold Pp.unaryS at hu;rw[aG,beq_iff_eq,beq_iff_eq]at hu;unfold Fo.isO;rcases hu with q | q <;> rw[q,aB] <;> exact .inr rfl
  ·intro d a a' h y b q;have h4:(t.kind !=4)=false:=by rw[dY s1];rfl
   have h4':(t'.kind !=4)=true:=by rw[s2];rfl
   have hu:Pp.unaryS t.text=false:=by
    unfold Fo.isO at s1;rw[ae,beq_iff_eq,beq_iff_eq]at s1;unfold Pp.unaryS;rw[s1.2];rfl
   rw[ite_f h4,ite_f hu]at q;rw[ite_t h4'];exact hF d a a' h.1 y b q
theorem pn (H:Sm0 l l' Ok) {E E':GN} (hE:SX l l' Ok E E'):SX l l' Ok (firstG l E) (firstG l' E'):=
 af.look H I2 fun t t' q=>af.dq (q.kind (by decide) (by decide)) (fun hc=>af.adv H (AP.look q hc (by decide) (by decide)) fun o o' ho=>af.ret (nd1 ho KR.nil)) fun _=>
  af.dq (q.kind (by decide) (by decide)) (fun hc=>af.adv H (AP.look q hc (by decide) (by decide)) fun o o' ho=>af.ret (nd1 ho KR.nil)) fun _=>
  af.dq (q.kind (by decide) (by decide)) (fun hc=>af.adv H (AP.look q hc (by decide) (by decide)) fun o o' ho=>af.ret (nd1 ho KR.nil)) fun _=>
  (af.isI H (by decide) I2 (af.nest (af.adv H (PQm.ap (by decide)) fun o o' ho=>af.bind hE fun x x' hx=>af.want H (by decide) (by decide) I2 fun _ _ _=>af.ret (nd1 ho (KR.one hx)))) af.fail).pre fun _ _ h=>h.1
theorem jJ (H:Sm0 l l' Ok) {K K':Nd->GN} (hK:∀x x',NdR l l' x x'->af Ok (PQm l l' Ok ⟨#[40]⟩) (NdR l l') (K x) (K' x')):∀(n m:Nat) (x x':Nd),n<=m->NdR l l' x x'->SX l l' Ok (primLG l K n x) (primLG l' K' m x')
 | 0,m,x,x',hm,hx=>af.stop
 | n + 1,0,x,x',hm,hx=>by omega
 | n + 1,m + 1,x,x',hm,hx=>af.isI H (by decide) I2 (af.bind (hK x x' hx) fun y y' hy=>jJ H hK n m y y' (by omega) hy) (af.isI H (by decide) I2 (af.adv H (PQm.ap (by decide)) fun _ _ _=>af.kind H (by decide) (by decide) I2 fun t t' ht=>jJ H hK n m _ _ (by omega) (nd1 ht (KR.one hx))) (af.ret hx))
theorem jI (H:Sm0 l l' Ok) {E E':GN} (hE:SX l l' Ok E E'):∀(n m:Nat) (ks ks':List Nd),n<=m->KR l l' ks ks'->af Ok Ok (KR l l') (callLG l E n ks) (callLG l' E' m ks')
 | 0,m,ks,ks',hm,hk=>af.stop
 | n + 1,0,ks,ks',hm,hk=>by omega
 | n + 1,m + 1,ks,ks',hm,hk=>af.isI H (by decide) I2 (af.pure hk fun _ _ h=>h.1.1) (af.bind hE fun e e' he=>af.isI H (by decide) I2 ((jI H hE n m _ _ (by omega) (hk.snoc he)).pre fun _ _ h=>h.1.1)
   (af.want H (by decide) (by decide) I2 fun _ _ _=>af.isI H (by decide) I2 af.fail (jI H hE n m _ _ (by omega) (hk.snoc he))))
theorem nZ (H:Sm0 l l' Ok) {E E':GN} (hE:SX l l' Ok E E') {N N':Nat} (hM:N<=N') (x x':Nd) (hx:NdR l l' x x'):af Ok (PQm l l' Ok ⟨#[40]⟩) (NdR l l') (callG l E N x) (callG l' E' N' x'):=
 af.nest (af.adv H (PQm.ap (by decide)) fun o o' ho=>af.bind (jI H hE N N' [x] [x'] hM (KR.one hx)) fun ks ks' hk=>af.want H (by decide) (by decide) I2 fun _ _ _=>af.ret (nd1 ho hk))
theorem nY (H:Sm0 l l' Ok) {E E':GN} (hE:SX l l' Ok E E') {N N':Nat} (hM:N<=N'):SX l l' Ok (primG l (firstG l E) (callG l E N) N) (primG l' (firstG l' E') (callG l' E' N') N'):=
 af.bind (pn H hE) fun x x' hx=>jJ H (fun y y' hy=>nZ H hE hM y y' hy) N N' x x' hM hx
theorem af.semi (H:Sm0 l l' Ok) {N N':Nat} (hN:l'.length < N') {s s':G β} (h:af Ok Ok R2 s s'):af Ok Ok R2 (Gr.bind (kindG l 6) fun _=>Gr.bind (semisG l N) fun _=>s) (Gr.bind (kindG l' 6) fun _=>Gr.bind (semisG l' N') fun _=>s'):=by
 intro d a a' hp x b q;obtain⟨u,c,h3,h4⟩:=aN q;obtain⟨rfl,k6⟩:=eX h3;obtain⟨z,e,h5,h6⟩:=aN h4;have s6:(tokAt l' a').kind=6:=by
  rcases H.tok hp with s | ⟨s1,s2⟩
  ·rw[<-s.1];exact k6
  ·exact s2
 obtain⟨b2,r1,r2⟩:=H.semi hp k6 e (ij _ _ _ _ _ h5);obtain⟨x',b',k1,k2⟩:=h d e b2 r2 x b h6;exact⟨x',b',by rw[dn (ji s6),dn (gO r1 hN)];exact k1,k2⟩
theorem lV (H:Sm0 l l' Ok) {N N':Nat} (hN:l'.length < N'):∀(n m:Nat) (ks ks':List Nd),n<=m->KR l l' ks ks'->af Ok Ok (KR l l') (fileIG l N n ks) (fileIG l' N' m ks')
 | 0,m,ks,ks',hm,hk=>af.stop
 | n + 1,0,ks,ks',hm,hk=>by omega
 | n + 1,m + 1,ks,ks',hm,hk=>af.isI H (by decide) I2 (af.adv H (PQm.ap (by decide)) fun _ _ _=>af.kind H (by decide) (by decide) I2 fun t t' ht=>af.semi H hN (lV H hN n m _ _ (by omega) (hk.snoc (nd1 ht KR.nil)))) (af.ret hk)
theorem lU (H:Sm0 l l' Ok) {D D':GN} (hD:SX l l' Ok D D') {N N':Nat} (hN:l'.length < N'):∀(n m:Nat) (ks ks':List Nd),n<=m->KR l l' ks ks'->af Ok Ok (KR l l') (fileDG l D N n ks) (fileDG l' D' N' m ks')
 | 0,m,ks,ks',hm,hk=>af.stop
 | n + 1,0,ks,ks',hm,hk=>by omega
 | n + 1,m + 1,ks,ks',hm,hk=>af.look H I2 fun t t' q=>af.dq (by simp only[bne,q.kind (k:=7) (by decide) (by decide)]) (fun _=>(af.bind hD fun x x' hx=>af.semi H hN (lU H hD hN n m _ _ (by omega) (hk.snoc hx))).pre fun _ _ h=>h.1) (fun _=>af.pure hk fun _ _ h=>h.1)
theorem nX (H:Sm0 l l' Ok) {D D':GN} (hD:SX l l' Ok D D') {N N':Nat} (hN:l'.length < N') (hM:N<=N'):SX l l' Ok (fileG l D N) (fileG l' D' N'):=
 af.want H (by decide) (by decide) I2 fun _ _ _=>af.kind H (by decide) (by decide) I2 fun t t' ht=>af.semi H hN (af.bind (lV H hN N N' _ _ hM (KR.one (nd1 ht KR.nil))) fun ks ks' hk=>af.bind (lU H hD hN N N' _ _ hM hk) fun ks2 ks2' hk2=>af.ret (ndb rfl hk2))
structure SimF (l l':List Tok) (Ok:Nat->Nat->Prop) (F F':SF):Prop where
 binary:∀r,SX l l' Ok (F.binary r) (F'.binary r)
 unary:SX l l' Ok F.unary F'.unary
 block:SX l l' Ok F.block F'.block
 branch:af Ok (PQm l l' Ok ⟨#[105,102]⟩) (NdR l l') F.branch F'.branch
 stmt:SX l l' Ok F.stmt F'.stmt
theorem gn (H:Sm0 l l' Ok) (hK:KTs l) {N N':Nat} (hN:l'.length < N') (hM:N<=N'):∀n,SimF l l' Ok (sf l N n) (sf l' N' n)
 | 0=>⟨fun _=>af.stop,af.stop,af.stop,af.stop,af.stop⟩
 | n + 1=>by
  have h:=gn H hK hN hM n;exact⟨fun r=>p9 H h.unary h.binary hM r,po H h.unary (nY H (h.binary 1) hM),pz H hK h.stmt hN hM,qb H (h.binary 1) h.block h.branch,
   od H (mC H (h.binary 1)) (mB H (h.binary 1)) h.block h.branch (lp H (h.binary 1) h.block) (og H (h.binary 1)) (qa H (h.binary 1) (lp H (h.binary 1) h.block))⟩
theorem pk (H:Sm0 l l' Ok) (hK:KTs l) {N N':Nat} (hN:l'.length < N') (hM:N<=N') (n:Nat):SX l l' Ok (fileS l N (sf l N n)) (fileS l' N' (sf l' N' n)):=by
 have q:=gn H hK hN hM n;exact nX H (oc H (mC H (q.binary 1)) (mB H (q.binary 1)) (qp H hK hN hM) (qk H q.block hM)) hN hM
theorem me (H:Sm0 l l' Ok) (h0:Ok 0 0) (hK:KTs l) (hg:Good l') {x:Nd} {b:Nat} (h:answer l= .ok x b):∃x' b',answer l'= .ok x' b'/\NdR l l' x x':=by
 obtain⟨x',b',k1,_,k3⟩:=pk H hK (N:=l.length + 2) (N':=l.length + l'.length + 2) (by omega) (by omega) (3 * l.length + 4) 0 0 0 h0 x b h;refine⟨x',b',?_,k3⟩;have f1:=lq (l:=l') (P:=Al) (N:=l.length + l'.length + 2) (M:=l.length + l'.length + 2) (n:=3 * l.length + 4) (m:=3 *(l.length + l'.length)+ 4) (by omega) (by omega) 0 0 True.intro;have f2:=lq (l:=l') (P:=Al) (N:=l'.length + 2) (M:=l.length + l'.length + 2) (n:=3 * l'.length + 4) (m:=3 *(l.length + l'.length)+ 4) (by omega) (by omega) 0 0 True.intro;have hfin:=answer_fin hg;unfold answer at hfin|-;rw[k1]at f1;rcases f1 with f1 | f1
 ·cases f1
 ·rcases f2 with f2 | f2
  ·rw[f2]at hfin;exact absurd hfin (fun h=>h)
  ·rw[<-f2,f1]
end Gr
end Go.Proofs.Dm
namespace Go.Proofs.Dm
open Go Go.Proofs Go.Proofs.Dm.Sc
namespace Gr
variable {l l':List Tok}
def bA (t:Tok):Int×ByteArray:=(t.kind,if t.kind=6 then⟨#[]⟩else t.text)
theorem fm {t u:Tok} (h:bA t=bA u):bm t u:=by
 unfold bA at h;simp only[aD]at h;refine⟨h.1,fun q=> ?_⟩;have h2:=h.2;rw[if_neg q,if_neg (by rw[<-h.1];exact q)]at h2;exact h2
theorem jH {t:Tok}:bm t t:=⟨rfl,fun _=>rfl⟩
theorem eO (h:l.map bA=l'.map bA) (i:Nat):bm (tokAt l i) (tokAt l' i):=by
 have e:=congrArg (fun x=>x[i]?) h;simp only[dO]at e;unfold tokAt;cases h1:l[i]? with
 | none=>
  rw[h1]at e;cases h2:l'[i]? with
  | none=>exact jH
  | some u=>rw[h2]at e;cases e
 | some t=>
  rw[h1]at e;cases h2:l'[i]? with
  | none=>rw[h2]at e;cases e
  | some u=>
   rw[h2]at e;simp only[cB,ak]at e;exact fm e
theorem ku (h:l.map bA=l'.map bA) {a b:Nat} (r:Run l a b):Run l' a b:=
 ⟨r.1,fun k q1 q2=>by rw[<-(eO h k).1];exact r.2.1 k q1 q2,by rw[<-(eO h b).1];exact r.2.2⟩
theorem j9 (h:l.map bA=l'.map bA):Sm0 l l' (fun a a'=>a=a') where
 tok:=by rintro a _ rfl;exact .inl (eO h a)
 step:=by rintro a _ rfl _ _ _ _;rfl
 opn:=by rintro a _ rfl _ _ b r;exact⟨b,ku h r,rfl⟩
 semi:=by rintro a _ rfl _ b r;exact⟨b,ku h r,rfl⟩
 shut:=by
  rintro a _ rfl h1 h2
  exfalso
  have e:=(eO h a).1;rw[dY h1,h2]at e;exact absurd e (by decide)
def bq:Bool->List Tok->List (Int×ByteArray)
 | _,[]=> []
 | e,t::r=>if t.kind=6 then(if e then(6,⟨#[]⟩)::bq false r else bq false r)
  else if Fo.isO t [125]&&e then(6,⟨#[]⟩)::bA t::bq (ends t) r else bA t::bq (ends t) r
def OkC (l l':List Tok) (a a':Nat):Prop:=∃e,(l'.drop a').map bA=bq e (l.drop a)/\((tokAt l a).kind=6->e=true)
theorem eG {α:Type} {l:List α} {a:Nat} {t:α} {r:List α} (h:l.drop a=t::r):l[a]? =some t/\l.drop (a + 1)=r:=by
 have h1:=congrArg List.head? h;rw[bT]at h1;exact⟨h1,by rw[<-dI,h,dJ]⟩
theorem dM {a:Nat} {t:Tok} (h:l[a]? =some t):tokAt l a=t:=by unfold tokAt;rw[h];rfl
theorem fY {a:Nat} (h:l.drop a= []):tokAt l a=endT:=by
 refine iT ?_;have:=congrArg List.length h;simp only[aL,aQ]at this;omega
theorem eE {a:Nat} {k:Int×ByteArray} {ks:List (Int×ByteArray)} (h:(l.drop a).map bA=k::ks):bA (tokAt l a)=k/\(l.drop (a + 1)).map bA=ks:=by
 cases hd:l.drop a with
 | nil=>rw[hd]at h;cases h
 | cons t r=>
  obtain⟨h1,h2⟩:=eG hd;rw[hd,bR]at h;simp only[aY]at h;rw[dM h1,h2];exact h
theorem map_none {a:Nat} (h:(l.drop a).map bA= []):tokAt l a=endT:=by
 rw[List.map_eq_nil_iff]at h;exact fY h
theorem jh:∀(n a b:Nat),b=a + n->Run l a b->bq false (l.drop a)=bq false (l.drop b)
 | 0,a,b,hn,r=>by rw[hn];rfl
 | n + 1,a,b,hn,r=>by
  have hk:=r.2.1 a (au _) (by omega);rw[<-jh n (a + 1) b (by omega) ⟨by omega,fun k q1 q2=>r.2.1 k (by omega) q2,r.2.2⟩];cases hd:l.drop a with
  | nil=>rw[fY hd]at hk;exact absurd hk (by decide)
  | cons t r2=>
   obtain⟨h1,h2⟩:=eG hd;rw[dM h1]at hk;rw[h2]
   conv=>lhs;unfold bq
   rw[if_pos hk];rfl
theorem jg {b c:Nat} (hk:(tokAt l b).kind≠6) (h:(l'.drop c).map bA=bq false (l.drop b)):Run l' c c:=by
 refine⟨au _,fun k q1 q2=>by omega,?_⟩;cases hd:l.drop b with
 | nil=>
  rw[hd]at h;rw[map_none h];decide
 | cons t r=>
  obtain⟨h1,h2⟩:=eG hd;rw[dM h1]at hk;rw[hd]at h;unfold bq at h;rw[if_neg hk,cK,if_neg (by decide)]at h;have e:=(eE h).1;have:=(fm e).1;rw[this];exact hk
theorem lk {e:Bool} {a a':Nat} {t:Tok} (ht:l[a]? =some t) (h:(l'.drop a').map bA=bq e (l.drop a)) (hs:bm t (tokAt l' a')) (h6:t.kind≠6):(l'.drop (a' + 1)).map bA=bq (ends t) (l.drop (a + 1)):=by
 cases hd:l.drop a with
 | nil=>
  have:=congrArg List.head? hd;rw[bT,ht]at this;cases this
 | cons u r=>
  obtain⟨h1,h2⟩:=eG hd;rw[ht]at h1;cases h1;rw[hd]at h;unfold bq at h;rw[if_neg h6]at h;rw[h2];split at h
  ·have q:=(fm (u:=⟨6,⟨#[]⟩,0,0,false⟩) ((eE h).1)).1;rw[<-hs.1]at q;exact absurd q h6
  ·exact(eE h).2
theorem jG {t:Tok} (h:Fo.isO t [123]=true):ends t=false:=by
 unfold Fo.isO at h;rw[ae,beq_iff_eq,beq_iff_eq]at h;unfold ends isIn endO eqB;rw[h.1];simp only[dV,eT,h.2];rw[Lib.toList_data ⟨#[41]⟩,Lib.toList_data ⟨#[125]⟩];rfl
theorem kb (hc:l'.map bA=bq false l) (hsem:∀i,cq l 0 i):Sm0 l l' (OkC l l') where
 tok:=by
  rintro a a' ⟨e,h,he⟩;cases hd:l.drop a with
  | nil=>
   rw[hd]at h;rw[fY hd,map_none h];exact .inl jH
  | cons t r=>
   obtain⟨h1,h2⟩:=eG hd;rw[dM h1]at he|-;rw[hd]at h;unfold bq at h;split at h
   ·rename_i h6;rw[he h6,if_pos rfl]at h;have q:=(fm (u:=⟨6,⟨#[]⟩,0,0,false⟩) ((eE h).1)).1;exact .inl ⟨by rw[h6,q],fun k=>absurd h6 k⟩
   ·rename_i h6;split at h
    ·rename_i hb;rw[ae]at hb;exact .inr ⟨hb.1,(fm (u:=⟨6,⟨#[]⟩,0,0,false⟩) ((eE h).1)).1⟩
    ·exact .inl (fm (eE h).1.symm)
 step:=by
  rintro a a' ⟨e,h,he⟩ hs h6 h7 ho;cases hg:l[a]? with
  | none=>
   unfold tokAt at h7;rw[hg]at h7;exact absurd rfl h7
  | some t=>
   rw[dM hg]at hs h6 ho;refine⟨ends t,lk hg h hs h6,fun q=> ?_⟩;obtain⟨j,q1,q2,q3,q4,q5⟩:=hsem (a + 1) q;rcases al j a with g | g
   ·have:=q3 a g (by omega);rw[dM hg]at this;exact absurd this h6
   ·have:j=a:=by omega
    subst this;rw[dM hg]at q5;rcases q5 with q5 | q5
    ·exact q5
    ·rw[ho]at q5;cases q5
 opn:=by
  rintro a a' ⟨e,h,he⟩ hs ho b r;cases hg:l[a]? with
  | none=>
   unfold tokAt at ho;rw[hg]at ho;exact absurd ho (by decide)
  | some t=>
   rw[dM hg]at hs ho;have h1:=lk hg h hs (by rw[dY ho];decide);rw[jG ho,jh (b -(a + 1)) (a + 1) b (by have:=r.1;omega) r]at h1;exact⟨a' + 1,jg r.2.2 h1,false,h1,fun q=>absurd q r.2.2⟩
 semi:=by
  rintro a a' ⟨e,h,he⟩ h6 b r;cases hd:l.drop a with
  | nil=>rw[fY hd]at h6;exact absurd h6 (by decide)
  | cons t r2=>
   obtain⟨h1,h2⟩:=eG hd;have e1:=he h6;rw[dM h1]at h6;rw[hd]at h;unfold bq at h;rw[if_pos h6,e1,if_pos rfl]at h;have h3:=(eE h).2;rw[<-h2,jh (b -(a + 1)) (a + 1) b (by have:=r.1;omega) r]at h3;exact⟨a' + 1,jg r.2.2 h3,false,h3,fun q=>absurd q r.2.2⟩
 shut:=by
  rintro a a' ⟨e,h,he⟩ ho h6;cases hd:l.drop a with
  | nil=>rw[fY hd]at ho;exact absurd ho (by decide)
  | cons t r2=>
   obtain⟨h1,h2⟩:=eG hd;rw[dM h1]at ho;have k6:t.kind≠6:=by rw[dY ho];decide
   have h':=h;rw[hd]at h;unfold bq at h;rw[if_neg k6,ho]at h;cases e with
   | false=>
    rw[cK,if_neg (by decide)]at h;have q:=(fm (eE h).1).1;rw[h6]at q;exact absurd q.symm k6
   | true=>
    rw[Bool.and_true,if_pos rfl]at h;have h3:=(eE h).2;have e2:bq false (l.drop a)=bA t::bq (ends t) r2:=by
     rw[hd]
     conv=>lhs;unfold bq
     rw[if_neg k6,cK,if_neg (by decide)]
    rw[<-e2]at h3;have hk:(tokAt l a).kind≠6:=by rw[dM h1];exact k6
    exact⟨a' + 1,jg hk h3,false,h3,fun q=>absurd q hk⟩
structure Parsed (s:ByteArray):Prop where
 scan:(scanP s).2.2 < 0
 toks:(textP s).2.1=(scanP s).1
 sem:∀i,cq (scanP s).1 0 i
 er:∀i,bL (tokAt (scanP s).1 i)=true->cP (tokAt (scanP s).1 (i + 1))=true
 ans:∃x b,answer (scanP s).1= .ok x b/\(textP s).1=x
theorem fw {s:ByteArray} (hs:s.size < 10000000) (h:(textP s).2.2 < 0):Parsed s:=by
 obtain⟨hf,ht,_⟩:=ju hs h;obtain⟨hK,h7⟩:=iz hf;have hO:KOs (scanP s).1:=fun i q=>oB hf i q
 obtain⟨hg,_,_⟩:=scan_good hs hf;have hd:decide (0<=(scanP s).2.2)=false:=by simp;omega
 have ha:∃x b,answer (scanP s).1= .ok x b/\(textP s).1=x:=by
  have hfin:=answer_fin hg;unfold textP at h|-;simp only[hd,aa,if_false]at h|-;cases ha:answer (scanP s).1 with
  | ok x b=>exact⟨x,b,rfl,rfl⟩
  | bad k=>
   rw[ha]at h;simp only at h;have:=(scan_tb (s:=s) (tokAt (scanP s).1 k) (by
    rw[ha]at hfin;have hk':k <(scanP s).1.length:=hfin;unfold tokAt;rw[ah hk'];exact iN hk')).1
   omega
  | out=>rw[ha]at hfin;exact absurd hfin (fun h=>h)
 obtain⟨x,b,h1,h2⟩:=ha;have hr:=ot hK hO h1;have he:=h7 b (ik h1);have beyond:∀i,b<=i->(tokAt (scanP s).1 i).kind=7:=fun i q=>by
  rcases aT q with g | g
  ·rw[<-g];exact ik h1
  ·rw[iT (by omega)];rfl
 refine⟨hf,ht,fun i=> ?_,fun i q=> ?_,x,b,h1,h2⟩
 ·rcases al i b with q | q
  ·exact hr.sem i (br _) q
  ·intro g;rw[beyond i q]at g;exact absurd g (by decide)
 ·rcases al i b with g | g
  ·exact(hr.er i (br _) g q).2
  ·unfold bL at q;rw[beyond i g]at q;cases q
theorem qf {s t:ByteArray} (hs:s.size < 10000000) (ht:t.size < 10000000) (h:(textP s).2.2 < 0) (hf:(scanP t).2.2 < 0)
  (hk:(scanP t).1.map bA=(scanP s).1.map bA\/(scanP t).1.map bA=bq false (scanP s).1):
  (textP t).2.2= -1/\(textP t).2.1=(scanP t).1/\Sh.shapeS (textP s).2.1 (textP s).1=Sh.shapeS (textP t).2.1 (textP t).1:=by
 have p:=fw hs h;obtain⟨x,b,h1,h2⟩:=p.ans;obtain⟨hK,_⟩:=iz p.scan;obtain⟨hg,_,_⟩:=scan_good ht hf;have key:∃x' b',answer (scanP t).1= .ok x' b'/\NdR (scanP s).1 (scanP t).1 x x':=by
  rcases hk with q | q
  ·exact me (j9 q.symm) rfl hK hg h1
  ·refine me (kb q p.sem) ⟨false,q,fun k=> ?_⟩ hK hg h1;obtain⟨j,_,q2,_⟩:=p.sem 0 k;omega
 obtain⟨x',b',k1,k2⟩:=key;have hd:decide (0<=(scanP t).2.2)=false:=by simp;omega
 have e:textP t=(x',(scanP t).1,-1):=by
  unfold textP;simp only[hd,aa,if_false,k1]
 rw[e,p.toks,h2];exact⟨rfl,rfl,k2⟩
end Gr
end Go.Proofs.Dm
namespace Go.Proofs.Dm
open Go Go.Proofs Go.Proofs.Dm.Sc
open Fo (trimR)
open Gr (ss0 aR bA)
namespace Pc
theorem lT {s:ByteArray}:∀(n i:Nat),faultF s n i < 0->faultF s n i= -1
 | 0,i,h=>rfl
 | n + 1,i,h=>by
  unfold faultF at h|-;split at h
  ·rename_i hlt;rw[if_pos hlt];split at h
   ·omega
   ·rename_i hb;rw[if_neg hb];exact lT n _ h
  ·rename_i hlt;rw[if_neg hlt]
theorem lj {s:ByteArray}:(scanP s).2.2 < 0↔(loopS s (s.size + 1) ss0).2 < 0/\V s.data.toList/\s.size<=2000:=by
 have hV:=kE (s:=s) s.size 0 (by omega) (by omega);rw[cI]at hV;have hn:=lT (s:=s) s.size 0;unfold ss0;unfold scanP;dsimp only;generalize hf:(loopS s (s.size + 1) ⟨0,1,[],[]⟩).2=f;have key:scanF s f < 0↔f < 0/\faultF s s.size 0 < 0/\s.size<=2000:=by
  unfold scanF least;generalize faultF s s.size 0=u;constructor
  ·intro h
   repeat' split at h
   all_goals omega
  ·rintro⟨h1,h2,h3⟩
   repeat' split
   all_goals omega
 by_cases q:0<=scanF s f
 ·rw[if_pos q];refine⟨fun h=>by simp only at h;omega,fun h=> ?_⟩;have:=key.2 ⟨h.1,by rw[hV.2 h.2.1];decide,h.2.2⟩;omega
 ·rw[if_neg q];refine⟨fun _=> ?_,fun _=>by simp⟩;obtain⟨h1,h2,h3⟩:=key.1 (by omega);exact⟨h1,hV.1 (hn h2),h3⟩
theorem gi {r ps} (h:Reads r ps):∀p∈ps,Good p:=by
 induction h with
 | nil=>intro p q;cases q
 | cons h _ ih=>
  intro p q;rcases az.1 q with rfl | q
  ·exact(fp h).1
  ·exact ih p q
theorem nat_eq {c:UInt8} {n:Nat} (h:((c.toNat:Int)==(n:Int))=true):c.toNat=n:=by
 rw[beq_iff_eq]at h;omega
theorem pj:ops.all (fun x=>x.toList.head?.all (fun b=>decide (b.toNat < 128)))=true:=by kernel_rfl
theorem lh {w:List UInt8} (h:isIn ops ⟨w.toArray⟩=true) (c:UInt8) (hc:w.head? =some c):c.toNat < 128:=by
 simp only[isIn,bO,eqB,beq_iff_eq]at h;obtain⟨o,ho,he⟩:=h;have h4:=aF.1 pj o ho;rw[<-he,Lib.toList_data]at h4;simp only at h4;rw[hc]at h4;simpa using h4
theorem p8 {c:UInt8} {r:List UInt8} {q:Pc×List UInt8} (h:bI (c::r)=some q):c.toNat < 128:=by
 simp only[bI]at h;split at h
 ·rename_i n;have:=nat_eq (n:=10) n;omega
 split at h
 ·rename_i n;rw[aG]at n;rcases n with n | n
  ·have:=nat_eq (n:=32) n;omega
  ·have:=nat_eq (n:=9) n;omega
 split at h
 ·rename_i n;rw[ae,beq_iff_eq]at n;rw[n.1];decide
 split at h
 ·rename_i n;unfold letter at n;simp only[aG,ae,decide_eq_true_eq,beq_iff_eq]at n;omega
 split at h
 ·rename_i n;unfold digit at n;simp only[ae,decide_eq_true_eq]at n;omega
 split at h
 ·rename_i n;have:=nat_eq (n:=34) n;omega
 split at h
 ·rename_i n;have:=nat_eq (n:=59) n;omega
 ·unfold opQ at h;split at h
  ·rename_i n;cases r with
   | nil=>cases n
   | cons d r=>exact lh (w:= [c,d]) n c rfl
  ·split at h
   ·rename_i n;exact lh (w:= [c]) n c rfl
   ·cases h
theorem qe {r ps} (h:Reads r ps) (c:UInt8) (hc:r.head? =some c):c.toNat < 128:=by
 cases h with
 | nil=>cases hc
 | cons h _=>
  cases r with
  | nil=>cases h
  | cons d r=>
   cases hc;exact p8 h
def GV (p:Pc):Prop:=Good p/\V (bytes p)
theorem nW {r ps} (h:Reads r ps) (hv:V r):∀p∈ps,GV p:=by
 induction h with
 | nil=>intro p q;cases q
 | @cons r p r' ps h hr ih=>
  have hb:=(ef h).1;rw[hb]at hv;obtain⟨v1,v2⟩:=V.cut _ (bytes p) r' (au _) (qe hr) hv;intro q hq;rcases az.1 hq with rfl | hq
  ·exact⟨(fp h).1,v1⟩
  ·exact ih v2 q hq
theorem jF {x:SS} {t:Tok} (h:(Sc.semi x).l.getLast? =some t):ends t=false:=by
 unfold Sc.semi at h;split at h
 ·simp only[ar,aO,Option.some_or,ak]at h;subst h;rfl
 ·rename_i q;rw[h]at q;simpa using q
structure TI (x:SS):Prop where
 word:∀t∈x.l,t.kind=6\/GV (.tok t.kind t.text.data.toList)
 com:∀c∈x.c,GV (.com c.text.data.toList)
 next:∀c∈x.c,0<=c.next/\c.next<=x.l.length
 note:∀c∈x.c,∀(n:Nat) t,c.next=((n + 1:Nat):Int)->x.l[n]? =some t->ends t=false
theorem TI.push {x:SS} (h:TI x) {t:Tok} (ht:t.kind=6\/GV (.tok t.kind t.text.data.toList)) {a b:Int}:TI {x with l:=x.l ++ [t]} where
 word:=by
  intro u hu;simp only[ao,aj]at hu;rcases hu with q | rfl
  ·exact h.word u q
  ·exact ht
 com:=h.com
 next:=fun c hc=>by have:=h.next c hc;simp only[aE,aX];omega
 note:=fun c hc n u hn hu=>by
  have:=h.next c hc;rw[aS (by omega)]at hu;exact h.note c hc n u hn hu
theorem TI.semi {x:SS} (h:TI x):TI (Sc.semi x):=by
 unfold Sc.semi;split
 ·exact h.push (.inl rfl) (a:=0) (b:=0)
 ·exact h
theorem TI.at_ {x:SS} (h:TI x) (a b:Nat):TI {x with at_:=a,line:=b}:=⟨h.word,h.com,h.next,h.note⟩
theorem TI.ap {x:SS} (h:TI x) {p:Pc} (g:GV p):TI (ap x p):=by
 cases p with
 | sp b=>exact h.at_ _ _
 | nl=>exact h.semi.at_ _ _
 | tok k w=>exact(h.push (t:=⟨k,⟨w.toArray⟩,x.at_,x.line,false⟩) (.inr g) (a:=0) (b:=0)).at_ _ _
 | com w=>
  have g0:=h.semi;exact{
   word:=g0.word
   com:=by
    intro c hc;simp only[Pc.ap,ao,aj]at hc;rcases hc with q | rfl
    ·exact h.com c q
    ·exact g
   next:=by
    intro c hc;simp only[Pc.ap,ao,aj]at hc;rcases hc with q | rfl
    ·have ec:(Sc.semi x).c=x.c:=by unfold Sc.semi;split <;> rfl
     exact g0.next c (by rw[ec];exact q)
    ·simp only[Pc.ap];omega
   note:=by
    intro c hc n t hn ht;simp only[Pc.ap,ao,aj]at hc ht;rcases hc with q | rfl
    ·have ec:(Sc.semi x).c=x.c:=by unfold Sc.semi;split <;> rfl
     exact g0.note c (by rw[ec];exact q) n t hn ht
    ·simp only at hn;have e:(Sc.semi x).l.getLast? =some t:=by
      rw[aH,show(Sc.semi x).l.length - 1=n by omega];exact ht
     exact jF e}
theorem kt:∀(ps:List Pc) (x:SS),TI x->(∀p∈ps,GV p)->TI (ps.foldl ap x)
 | [],x,h,g=>h
 | p::ps,x,h,g=>kt ps _ (h.ap (g p (by simp))) (fun q hq=>g q (by simp[hq]))
structure Facts (l:List Tok) (cs:List Com):Prop where
 word:∀t∈l,t.kind=6\/t.kind=7\/GV (.tok t.kind t.text.data.toList)
 com:∀c∈cs,GV (.com c.text.data.toList)
 note:∀c∈cs,∀(n:Nat) t,c.next=((n + 1:Nat):Int)->l[n]? =some t->ends t=false
 fin:∃ls e,l=ls ++ [e]/\bA e=(7,⟨#[]⟩)/\∀t,ls.getLast? =some t->ends t=false
theorem iv {s:ByteArray} {ps:List Pc} (h:Reads s.data.toList ps):loopS s (s.size + 1) ss0=(ps.foldl ap ss0,-1):=h.loop (s.size + 1) ss0 rfl (br _) (by show s.size < 0 +(s.size + 1);omega)
theorem j5 {s:ByteArray} (hf:(scanP s).2.2 < 0):∃ps,Reads s.data.toList ps/\aR s=ps.foldl ap ss0/\∀p∈ps,GV p:=by
 obtain⟨h1,h2,h3⟩:=lj.1 hf;obtain⟨ps,hps⟩:=mg (s:=s) (s.size + 1) ss0 s.data.toList rfl (br _) (by show s.size < 0 +(s.size + 1);omega) h1;refine⟨ps,hps,?_,nW hps h2⟩;unfold aR;rw[iv hps]
theorem jZ {s:ByteArray} (hf:(scanP s).2.2 < 0):Facts (scanP s).1 (scanP s).2.1:=by
 obtain⟨e1,e2,_⟩:=Gr.eJ hf;obtain⟨ps,_,h2,h3⟩:=j5 hf;have h:=kt ps ss0 ⟨(fun t q=>by cases q),(fun t q=>by cases q),(fun t q=>by cases q),(fun t q=>by cases q)⟩ h3;rw[<-h2]at h;have g:=h.semi;have ec:(Sc.semi (aR s)).c=(aR s).c:=by unfold Sc.semi;split <;> rfl
 rw[e1,e2];refine⟨fun t ht=> ?_,h.com,fun c hc n t hn ht=> ?_,(Sc.semi (aR s)).l,_,rfl,rfl,fun t ht=>jF ht⟩
 ·simp only[ended,ao,aj]at ht;rcases ht with q | rfl
  ·rcases g.word t q with k | k
   ·exact .inl k
   ·exact .inr (.inr k)
  ·exact .inr (.inl rfl)
 ·rw[<-ec]at hc;have:=g.next c hc;unfold ended at ht;rw[aS (by omega)]at ht;exact g.note c hc n t hn ht
theorem fG {w:List UInt8}:Good (.com w)↔∃r,w=47::47::r/\(10:UInt8)∉r:=by
 constructor
 ·intro g;unfold Good at g;simp only[bytes]at g;cases w with
  | nil=>cases g
  | cons c w=>
   simp only[bI]at g;split at g
   ·cases g
   split at g
   ·cases g
   split at g
   ·rename_i n;simp only[ak,aD,Pc.com.injEq]at g;have ha:=dE g.2;rw[ae,beq_iff_eq,beq_iff_eq]at n;cases w with
    | nil=>cases n.2
    | cons d w=>
     have hd:d=47:=by simpa using n.2
     refine⟨w,by rw[n.1,hd],?_⟩;rw[dW,dW,ae,ae,aF]at ha;intro h10;have:=ha.2.2 10 h10;simp at this
   split at g
   ·split at g <;> cases g
   split at g
   ·split at g <;> cases g
   split at g
   ·unfold dH at g;simp only at g;split at g <;> cases g
   split at g
   ·cases g
   ·unfold opQ at g;split at g
    ·cases g
    ·split at g <;> cases g
 ·rintro⟨r,rfl,h⟩;unfold Good;simp only[bytes,bI];rw[if_neg (by decide),if_neg (by decide),if_pos (by rfl)];have ha:(47::47::r).all (fun b:UInt8=>b !=10)=true:=by
   rw[dW,dW,aF.2 (fun x hx=>by
    have:x≠10:=by rintro rfl;exact h hx
    simpa using this)]
   rfl
  have ht:=dA (fun b:UInt8=>b !=10) (47::47::r) [] ha (fun b q=>by cases q);rw[aZ]at ht;rw[ht.1,ht.2]
def cQ (b:UInt8):Bool:= [32,9].contains b
theorem iu (w:List UInt8):∃q,w=Lib.trimRightS w [32,9] ++ q/\(∀b∈q,cQ b=true)/\∀b,(Lib.trimRightS w [32,9]).getLast? =some b->cQ b=false:=by
 unfold Lib.trimRightS;refine⟨(w.reverse.takeWhile ([32,9].contains ·)).reverse,?_,?_,?_⟩
 ·rw[<-List.reverse_append,List.takeWhile_append_dropWhile,fj]
 ·intro b hb;exact Rf.eK (eB.1 hb)
 ·intro b hb;rw[List.getLast?_reverse]at hb;exact gk _ _ b hb
theorem nV {b:UInt8} (h:cQ b=true):b.toNat < 128:=by
 unfold cQ at h;simp at h;rcases h with rfl | rfl <;> decide
theorem mW {c:ByteArray} (h:GV (.com c.data.toList)):GV (.com (trimR c).data.toList):=by
 obtain⟨q,h1,h2,h3⟩:=iu c.data.toList;have e:(trimR c).data.toList=Lib.trimRightS c.data.toList [32,9]:=rfl;rw[e];generalize Lib.trimRightS c.data.toList [32,9]=t at *;obtain⟨g,v⟩:=h;obtain⟨r,hr,h10⟩:=fG.1 g;simp only[bytes]at v;refine⟨fG.2 ?_,?_⟩
 ·rw[hr]at h1;have n47:cQ 47=false:=by decide
  cases t with
  | nil=>
   simp only[aP]at h1;have:=h2 47 (by rw[<-h1];simp);rw[n47]at this;cases this
  | cons a t=>
   simp only[aw,aY]at h1;obtain⟨rfl,h1⟩:=h1;cases t with
   | nil=>
    simp only[aP]at h1;have:=h2 47 (by rw[<-h1];simp);rw[n47]at this;cases this
   | cons b t=>
    simp only[aw,aY]at h1;obtain⟨rfl,h1⟩:=h1;refine⟨t,rfl,fun k=>h10 ?_⟩;rw[h1];simp[k]
 ·simp only[bytes];rw[h1]at v;refine(V.cut _ t q (au _) (fun c hc=> ?_) v).1;exact nV (h2 c (List.mem_of_head? hc))
end Pc
end Go.Proofs.Dm
namespace Go.Proofs.Dm
open Go Go.Proofs Go.Proofs.Dm.Sc
open Fo (isO zeroT LS nlB spB pad trimR)
open Pc (Sep GV V Facts Reads)
namespace Rf
def flat (ps:List Pc):List UInt8:=(ps.map Pc.bytes).flatten
theorem eZ (a b:List Pc):flat (a ++ b)=flat a ++ flat b:=by unfold flat;rw[bu,List.flatten_append]
theorem cU (p:Pc) (b:List Pc):flat (p::b)=Pc.bytes p ++ flat b:=rfl
def bw (n:Nat):List Pc:=List.replicate n (.sp 9)
theorem fK:∀n:Nat,flat (bw n)=List.replicate n 9
 | 0=>rfl
 | n + 1=>by
  unfold bw;rw[dr,dr,cU];show 9::flat (bw n)=_;rw[fK n]
def bP (l:List Tok) (src:List ByteArray):Option It->It->List Pc
 | none,x=>bw (aW l x).toNat
 | some b,x=>if aC l b x then(if cH l src b x then [.nl,.nl]else [.nl])++ bw (aW l x).toNat
  else if x.com then [.sp 32]else if cA l x.tok.toNat then [.sp 32]else []
theorem ig (l:List Tok) (src:List ByteArray) (x:It):bP l src none x=bw (aW l x).toNat:=rfl
theorem eH (l:List Tok) (src:List ByteArray) (b x:It):bP l src (some b) x=if aC l b x then(if cH l src b x then [.nl,.nl]else [.nl])++ bw (aW l x).toNat
 else if x.com then [.sp 32]else if cA l x.tok.toNat then [.sp 32]else []:=rfl
def itQ (l:List Tok) (x:It):Pc:=if x.com then .com x.note.data.toList else .tok (tk l x.tok.toNat).kind (tk l x.tok.toNat).text.data.toList
def bF (l:List Tok) (src:List ByteArray):Option It->List It->List Pc
 | _,[]=> []
 | p,x::xs=>bP l src p x ++ itQ l x::bF l src (some x) xs
theorem ph (l:List Tok) (src:List ByteArray) (p:Option It) (x:It) (xs:List It):bF l src p (x::xs)=bP l src p x ++ itQ l x::bF l src (some x) xs:=rfl
theorem lg (n:Nat):(pad n).data.toList=List.replicate n 9:=rfl
theorem dP (a b:ByteArray):(a ++ b).data.toList=a.data.toList ++ b.data.toList:=by simp
theorem pg (l:List Tok) (src:List ByteArray) (p:Option It) (x:It):(cO l src p x).data.toList=flat (bP l src p x):=by
 cases p with
 | none=>rw[fo,ig,fK,lg]
 | some b=>
  rw[eI,eH];split
  ·rw[dP,eZ,fK,lg];split <;> rfl
  ·split
   ·rfl
   ·split <;> rfl
theorem nU (l:List Tok) (x:It):(cz l x).data.toList=Pc.bytes (itQ l x):=by
 unfold cz itQ;split <;> rfl
theorem lS (l:List Tok) (src:List ByteArray):∀(xs:List It) (p:Option It) (o:ByteArray),(cY l src p xs o).data.toList=o.data.toList ++ flat (bF l src p xs)
 | [],p,o=>by
  show o.data.toList=_;unfold bF flat;simp
 | x::xs,p,o=>by
  show(cY l src (some x) xs (o ++ cO l src p x ++ cz l x)).data.toList=_;rw[lS l src xs (some x),dP,dP,pg,nU];rw[ph,eZ,cU];simp only[ai]
def iD (l:List Tok) (cs:List Com) (src:List ByteArray):List Pc:=bF l src none (bQ l 0 cs)++ [.nl]
theorem lR (l:List Tok) (cs:List Com) (src:List ByteArray):(fQ l cs src).data.toList=flat (iD l cs src):=by
 unfold fQ iD;rw[dP,lS,eZ];rfl
def ew:List Pc->Prop
 | []=>True
 | p::ps=>Pc.Good p/\Sep p (flat ps).head? /\ew ps
theorem ew.reads:∀{ps:List Pc},ew ps->Reads (flat ps) ps
 | [],_=> .nil
 | p::ps,h=> .cons (Pc.glue h.1 h.2.1) (ew.reads h.2.2)
def dF:Pc->Bool
 | .sp b=>b==32 || b==9
 | .nl=>true
 | _=>false
theorem jY {p:Pc} (h:dF p=true):GV p/\∀c,Sep p c:=by
 cases p with
 | sp b=>
  unfold dF at h;rw[aG,beq_iff_eq,beq_iff_eq]at h;refine⟨⟨?_,?_⟩,fun c=>True.intro⟩
  ·rcases h with rfl | rfl <;> rfl
  ·exact Pc.V.one (by rcases h with h | h <;> simp[h])
 | nl=>exact⟨⟨rfl,Pc.V.one (by simp)⟩,fun c=>True.intro⟩
 | com w=>cases h
 | tok k w=>cases h
theorem ew.gD:∀{a ps:List Pc},(∀p∈a,dF p=true)->ew ps->ew (a ++ ps)
 | [],ps,h,g=>g
 | p::a,ps,h,g=>by
  have q:=jY (h p (by simp));exact⟨q.1.1,q.2 _,ew.gD (fun x hx=>h x (by simp[hx])) g⟩
theorem jX (n:Nat):∀p∈bw n,dF p=true:=fun p hp=>by
 rw[List.eq_of_mem_replicate hp];rfl
theorem ie (l:List Tok) (src:List ByteArray) (q:Option It) (x:It):∀p∈bP l src q x,dF p=true:=by
 intro p hp;cases q with
 | none=>exact jX _ p hp
 | some b=>
  rw[eH]at hp;split at hp
  ·rw[ao]at hp;rcases hp with hp | hp
   ·split at hp
    ·simp only[az,bW,or_false,or_self]at hp;rw[hp];rfl
    ·simp only[aj]at hp;rw[hp];rfl
   ·exact jX _ p hp
  ·split at hp
   ·simp only[aj]at hp;rw[hp];rfl
   ·split at hp
    ·simp only[aj]at hp;rw[hp];rfl
    ·cases hp
def bp:Option It->Nat
 | none=>0
 | some b=>if b.com then b.tok.toNat else b.tok.toNat + 1
structure Lnk (l:List Tok) (cs:List Com) (p:Option It) (x:It):Prop where
 tok:x.com=false->∃i t,x=aJ i t/\l[i]? =some t/\t.kind≠6/\t.kind≠7
 com:x.com=true->∃c∈cs,∃i:Nat,x=aV c/\c.next=i/\i < l.length
 le:bp p<=x.tok.toNat
 semis:∀k,bp p<=k->k < x.tok.toNat->(tk l k).kind=6
def Lk (l:List Tok) (cs:List Com):Option It->List It->Prop
 | p,[]=>∃n,l.length=n + 1/\(tk l n).kind=7/\bp p<=n/\∀k,bp p<=k->k < n->(tk l k).kind=6
 | p,x::xs=>Lnk l cs p x/\Lk l cs (some x) xs
theorem kq {l:List Tok} {cs0:List Com} {i:Nat} (hi:i < l.length):∀(cs:List Com) (rest:List It) (p:Option It),(∀c∈cs,c.next=(i:Int)/\c∈cs0)->bp p<=i->(∀k,bp p<=k->k < i->(tk l k).kind=6)->
  (∀q,bp q<=i->(∀k,bp q<=k->k < i->(tk l k).kind=6)->Lk l cs0 q rest)->Lk l cs0 p (cs.map aV ++ rest)
 | [],rest,p,hc,hb,hs,h=>h p hb hs
 | c::cs,rest,p,hc,hb,hs,h=>by
  have hn:=hc c (by simp);have e:(aV c).tok.toNat=i:=by show c.next.toNat=i;rw[hn.1];rfl
  have hl:Lnk l cs0 p (aV c):=⟨(fun q=>by cases q),fun _=>⟨c,hn.2,i,rfl,hn.1,hi⟩,by rw[e];exact hb,fun k q1 q2=>hs k q1 (by rw[e]at q2;exact q2)⟩
  refine⟨hl,?_⟩;have eb:bp (some (aV c))=i:=e;refine kq hi cs rest (some (aV c)) (fun d hd=>hc d (by simp[hd])) (by rw[eb];omega) (fun k q1 q2=>by rw[eb]at q1;omega) h
theorem je {l:List Tok} {cs0:List Com} (hk:∀i t,l[i]? =some t->t.kind=7->l.length=i + 1) (hlast:∃t,l.getLast? =some t/\t.kind=7):∀(ts:List Tok) (i:Nat) (p:Option It) (cs:List Com),l.drop i=ts->i<=l.length->(∀c∈cs,(i:Int)<=c.next/\c∈cs0)->
  cs.Pairwise (fun b c=>b.line < c.line/\b.next<=c.next)->bp p<=i->(∀k,bp p<=k->k < i->(tk l k).kind=6)->(ts= []->i=l.length->False)->Lk l cs0 p (bQ ts i cs)
 | [],i,p,cs,hd,hi,hc,hp,hb,hs,hne=>by
  have:l.length<=i:=by
   have:=congrArg List.length hd;simp only[aL,aQ]at this;omega
  exact absurd (hne rfl (by omega)) (fun h=>h)
 | t::ts,i,p,cs,hd,hi,hc,hp,hb,hs,hne=>by
  have hg:l[i]? =some t:=by
   have:=congrArg List.head? hd;rw[bT]at this;exact this
  have hlt:i < l.length:=by
   rcases al i l.length with q | q
   ·exact q
   ·rw[aq q]at hg;cases hg
  have hd2:l.drop (i + 1)=ts:=by rw[<-dI,hd,dJ]
  have hsp:=fN i cs;unfold bQ;refine kq hlt (a8 i cs).1 _ p (fun c h=> ?_) hb hs fun q hbq hsq=> ?_
  ·have h1:=jr i cs c h;have h2:=hc c (by rw[hsp];simp[h]);exact⟨by omega,h2.2⟩
  ·have hrest:∀c∈(a8 i cs).2,((i + 1:Nat):Int)<=c.next/\c∈cs0:=fun c h=>by
    have:=gW i cs hp c h;exact⟨by omega,(hc c (by rw[hsp];simp[h])).2⟩
   have hpr:(a8 i cs).2.Pairwise (fun b c=>b.line < c.line/\b.next<=c.next):=by
    rw[hsp]at hp;exact(di.1 hp).2.1
   by_cases h7:t.kind=7
   ·have e1:(t.kind !=6&&t.kind !=7)=false:=by rw[h7];rfl
    rw[e1];simp only[aa,if_false,aP];have hlen:=hk i t hg h7;have hts:ts= []:=by rw[<-hd2];exact aI (by omega)
    subst hts;exact⟨i,hlen,by rw[bk hg];exact h7,hbq,hsq⟩
   ·have hne2:ts= []->i + 1=l.length->False:=fun _ q=>by
     obtain⟨u,hu,hu7⟩:=hlast;rw[aH,show l.length - 1=i by omega,hg]at hu;cases hu;exact h7 hu7
    by_cases h6:t.kind=6
    ·have e1:(t.kind !=6&&t.kind !=7)=false:=by rw[h6];rfl
     rw[e1];simp only[aa,if_false,aP];refine je hk hlast ts (i + 1) q _ hd2 hlt hrest hpr (by omega) (fun k q1 q2=> ?_) hne2;rcases al k i with g | g
     ·exact hsq k q1 g
     ·have:k=i:=by omega
      subst this;rw[bk hg];exact h6
    ·have e1:(t.kind !=6&&t.kind !=7)=true:=by
      rw[ae,bne_iff_ne,bne_iff_ne];exact⟨h6,h7⟩
     rw[e1];simp only[if_true,aw,aP];have et:(aJ i t).tok.toNat=i:=rfl;refine⟨⟨fun _=>⟨i,t,rfl,hg,h6,h7⟩,(fun g=>by cases g),by rw[et];exact hbq,by rw[et];exact hsq⟩,?_⟩;have eb:bp (some (aJ i t))=i + 1:=rfl;exact je hk hlast ts (i + 1) _ _ hd2 hlt hrest hpr (by rw[eb];exact au _) (fun k q1 q2=>by rw[eb]at q1;omega) hne2
theorem gL {s:ByteArray} {l:List Tok} {cs:List Com} (h:Gr.Scanned s l cs):Lk l cs none (bQ l 0 cs):=by
 refine je h.kinds h.last l 0 none cs rfl (br _) (fun c hc=>⟨(h.next c hc).1,hc⟩) h.cpair (au _) (fun k q1 q2=>by omega) fun h1 _=> ?_
 obtain⟨t,ht,_⟩:=h.last;rw[h1]at ht;cases ht
theorem fX {l:List Tok} {j:Nat} (hj:(tk l j).kind≠6):∀n:Nat,j < n->(∀k,j < k->k < n->(tk l k).kind=6)->bc l n=tk l j/\atR l n=j
 | 0,h,g=>by omega
 | n + 1,h,g=>by
  unfold bc atR;rcases al j n with q | q
  ·rw[if_pos (by simpa using g n q (by omega)),if_pos (by simpa using g n q (by omega))];exact fX hj n q fun k q1 q2=>g k q1 (by omega)
  ·have:n=j:=by omega
   subst this;rw[if_neg (by simpa using hj),if_neg (by simpa using hj)];exact⟨rfl,rfl⟩
theorem mV:ops.all (fun x=>x.toList.length !=2 ||((x.toList.getD 1 0==61&& [58,61,33].contains (x.toList.getD 0 0))||(x.toList.getD 1 0==38&&x.toList.getD 0 0==38)||(x.toList.getD 1 0==124&&x.toList.getD 0 0==124)))=true:=by kernel_rfl
theorem op2 {a b:UInt8} (h:isIn ops ⟨#[a,b]⟩=true):(b=61/\(a=58\/a=61\/a=33))\/(b=38/\a=38)\/(b=124/\a=124):=by
 simp only[isIn,bO,eqB,beq_iff_eq]at h;obtain⟨o,ho,he⟩:=h;have h4:=aF.1 mV o ho;rw[<-he,Lib.toList_data]at h4;simp at h4;rcases h4 with (h | h)| h
 ·exact .inl ⟨h.1,h.2⟩
 ·exact .inr (.inl h)
 ·exact .inr (.inr h)
def eN (b:UInt8):Bool:= !(wordB b)&& !(digit b)&& !(letter b)&&b !=61&&b !=38&&b !=124
theorem jE {k:Int} {w:List UInt8} {b:UInt8} (h:eN b=true):Sep (.tok k w) (some b):=by
 unfold eN at h;simp only[ae,Bool.not_eq_true',bne_iff_ne]at h;obtain⟨⟨⟨⟨⟨h1,h2⟩,h3⟩,h4⟩,h5⟩,h6⟩:=h;intro c hc;cases hc;refine⟨fun _=>h1,fun _=>⟨h2,h3⟩,fun _ a _=> ?_⟩;rw[c8];intro q;rcases op2 q with q | q | q
 ·exact h4 q.1
 ·exact h5 q.1
 ·exact h6 q.1
theorem fW {t:Tok} {xs:List ByteArray} (h:isKind t xs=true):t.kind=4/\∃x∈xs,t.text.data.toList=x.data.toList:=by
 unfold isKind at h;rw[ae,beq_iff_eq]at h;obtain⟨h1,h2⟩:=h;simp only[isIn,bO,eqB,beq_iff_eq]at h2;obtain⟨x,hx,he⟩:=h2;exact⟨h1,x,hx,by rw[<-Lib.toList_data,he,Lib.toList_data]⟩
theorem mU {k:Int} {w:List UInt8} (g:Pc.Good (.tok k w)) (h:w.head? =some 61):k=4:=by
 unfold Pc.Good at g;simp only[Pc.bytes]at g;cases w with
 | nil=>cases h
 | cons c w=>
  cases h;simp only[Pc.bI]at g;rw[if_neg (by decide),if_neg (by decide),if_neg (by simp),if_neg (by decide),if_neg (by decide),if_neg (by decide),if_neg (by decide)]at g;unfold Pc.opQ at g;split at g
  ·simp only[ak,aD,Pc.tok.injEq]at g;exact g.1.1.symm
  ·split at g
   ·simp only[ak,aD,Pc.tok.injEq]at g;exact g.1.1.symm
   ·cases g
theorem kc {w:List UInt8} {a0:UInt8} (hw:w= [a0]) (c:Option UInt8) (h:∀b,c=some b->isIn ops ⟨#[a0,b]⟩=false):Sep (.tok 4 w) c:=by
 intro b hb;refine⟨fun q=>by omega,fun q=>by omega,fun _ a ha=> ?_⟩;rw[hw]at ha;simp only[aY,and_true]at ha;subst ha;exact h b hb
theorem mT {p a b:Tok} (h:Fo.spaceT p a b=false) (hb:Gr.bL a=true->Gr.cP b=true) (gb:Pc.Good (.tok b.kind b.text.data.toList)):Sep (.tok a.kind a.text.data.toList) b.text.data.toList.head? :=by
 unfold Fo.spaceT at h;have one:∀a0:UInt8,a.kind=4->a.text.data.toList= [a0]->(a0≠58/\a0≠61/\a0≠38/\a0≠124)->(a0=33->b.text.data.toList.head? ≠some 61)->Sep (.tok a.kind a.text.data.toList) b.text.data.toList.head? :=by
  intro a0 h4 ht hn h33;rw[h4];refine kc ht _ fun c hc=> ?_
  rw[c8];intro q;rcases op2 q with q | q | q
  ·rcases q.2 with r | r | r
   ·exact hn.1 r
   ·exact hn.2.1 r
   ·exact h33 r (by rw[hc,q.1])
  ·exact hn.2.2.1 q.2
  ·exact hn.2.2.2 q.2
 have plain:∀c:UInt8,b.text.data.toList= [c]->eN c=true->Sep (.tok a.kind a.text.data.toList) b.text.data.toList.head? :=by
  intro c hc hp;rw[hc];exact jE hp
 split at h
 ·rename_i q;obtain⟨h4,x,hx,he⟩:=fW q;simp only[az,bW,or_false]at hx;rcases hx with rfl | rfl | rfl
  ·exact one 40 h4 he (by decide) (fun q=>absurd q (by decide))
  ·exact one 46 h4 he (by decide) (fun q=>absurd q (by decide))
  ·refine one 33 h4 he (by decide) fun _ k=> ?_
   have:=hb (by unfold Gr.bL;rw[h4,Lib.toList_data,he];rfl);have k4:=mU gb k;unfold Gr.cP at this;rw[k4,Lib.toList_data,k]at this;cases this
 split at h
 ·rename_i q;rw[ae]at q;obtain⟨h4,x,hx,he⟩:=fW q.1;simp only[az,bW,or_false]at hx;subst hx;exact one 45 h4 he (by decide) (fun q=>absurd q (by decide))
 split at h
 ·rename_i q;obtain⟨h4,x,hx,he⟩:=fW q;simp only[az,bW,or_false]at hx;rcases hx with rfl | rfl | rfl | rfl
  ·exact plain 41 he (by decide)
  ·exact plain 44 he (by decide)
  ·exact plain 46 he (by decide)
  ·exact plain 58 he (by decide)
 split at h
 ·rename_i q;rw[ae]at q;obtain⟨h4,x,hx,he⟩:=fW q.1;simp only[az,bW,or_false]at hx;subst hx;exact plain 40 he (by decide)
 split at h
 ·rename_i q;rw[ae]at q;obtain⟨h4,x,hx,he⟩:=fW q.2;simp only[az,bW,or_false]at hx;subst hx;exact plain 125 he (by decide)
 ·cases h
end Rf
end Go.Proofs.Dm
namespace Go.Proofs.Dm
open Go Go.Proofs Go.Proofs.Dm.Sc
open Fo (isO zeroT LS nlB spB pad trimR)
open Pc (Sep GV V Facts Reads)
open Gr (ss0 aR tokAt bL cP)
namespace Rf
variable {l:List Tok} {cs:List Com} {src:List ByteArray}
theorem fD (hF:Facts l cs) {p:Option It} {x:It} (h:Lnk l cs p x):GV (itQ l x):=by
 cases hc:x.com with
 | false=>
  obtain⟨i,t,rfl,hg,h6,h7⟩:=h.tok hc;have e:itQ l (aJ i t)= .tok (tk l i).kind (tk l i).text.data.toList:=rfl;rw[e,bk hg];rcases hF.word t (bz hg)with q | q | q
  ·exact absurd q h6
  ·exact absurd q h7
  ·exact q
 | true=>
  obtain⟨c,hm,i,rfl,_⟩:=h.com hc;exact Pc.mW (hF.com c hm)
theorem fF {p:Pc} (g:Pc.Good p):∃b r,Pc.bytes p=b::r:=by
 unfold Pc.Good at g;cases h:Pc.bytes p with
 | nil=>rw[h]at g;cases g
 | cons b r=>exact⟨b,r,rfl⟩
theorem pe {p:Pc} (g:Pc.Good p) (ps:List Pc):(flat (p::ps)).head? =(Pc.bytes p).head? :=by
 obtain⟨b,r,h⟩:=fF g;rw[cU,h];rfl
theorem ir {b x:It} (h:b.com=true):aC l b x=true:=by
 unfold aC;rw[h];cases x.com <;> rfl
theorem ft {i:Nat} {t:Tok} (h:l[i]? =some t):tokAt l i=t:=Gr.dM h
theorem nT (hF:Facts l cs) (hb:∀i,bL (tokAt l i)=true->cP (tokAt l (i + 1))=true) {p:Option It} {x y:It} {rest:List Pc} (h1:Lnk l cs p x) (h2:Lnk l cs (some x) y):Sep (itQ l x) (flat (bP l src (some x) y ++ itQ l y::rest)).head? :=by
 have gy:=(fD hF h2).1;have any:∀b:UInt8,eN b=true->(x.com=true->b=10)->Sep (itQ l x) (some b):=by
  intro b hp hc;unfold itQ;split
  ·rename_i q;intro c e;cases e;exact hc q
  ·exact jE hp
 rw[eH]
 by_cases hbr:aC l x y=true
 ·rw[if_pos hbr];have e:(flat (((if cH l src x y=true then [Pc.nl,Pc.nl]else [Pc.nl])++ bw (aW l y).toNat)++ itQ l y::rest)).head? =some 10:=by split <;> rfl
  rw[e];exact any 10 (by decide) fun _=>rfl
 ·rw[if_neg hbr];have hx:x.com=false:=by
   cases q:x.com with
   | false=>rfl
   | true=>exact absurd (ir q) hbr
  have h32:Sep (itQ l x) (some 32):=any 32 (by decide) fun q=>by rw[hx]at q;cases q
  by_cases hy:y.com=true
  ·rw[if_pos hy];exact h32
  ·rw[if_neg hy]
   by_cases hs:cA l y.tok.toNat=true
   ·rw[if_pos hs];exact h32
   ·rw[if_neg hs,aP,pe gy];obtain⟨j,a,rfl,ga,a6,a7⟩:=h1.tok hx;obtain⟨i,b,rfl,gb,b6,b7⟩:=h2.tok (by simpa using hy);have hle:j + 1<=i:=h2.le;have hsem:∀k,j < k->k < i->(tk l k).kind=6:=fun k q1 q2=>h2.semis k q1 q2
    obtain⟨e1,e2⟩:=fX (l:=l) (j:=j) (by rw[bk ga];exact a6) i hle hsem;have hsp:Fo.spaceT (if 1<=j then tk l (j - 1)else zeroT) a b=false:=by
     have:¬cA l i=true:=hs;unfold cA at this;dsimp only at this;rw[e2,bk ga,bk gb]at this;simpa using this
    have e3:itQ l (aJ j a)= .tok a.kind a.text.data.toList:=by show Pc.tok (tk l j).kind (tk l j).text.data.toList=_;rw[bk ga]
    have e4:itQ l (aJ i b)= .tok b.kind b.text.data.toList:=by show Pc.tok (tk l i).kind (tk l i).text.data.toList=_;rw[bk gb]
    rw[e3,e4];rw[e4]at gy;refine mT hsp (fun hbang=> ?_) gy;have hn:¬aC l (aJ j a) (aJ i b)=true:=hbr;have e5:(aJ i b).com=false:=rfl;have e6:(aJ j a).com=false:=rfl;have e7:(aJ i b).tok.toNat=i:=rfl;unfold aC at hn;rw[e5,e6,e7,e1,bk ga]at hn;simp only[aa,if_false]at hn;have ho:isO a [123]=false:=by
     unfold bL at hbang;rw[ae,beq_iff_eq,beq_iff_eq]at hbang;unfold Fo.isO;rw[hbang.2,aB];exact .inr rfl
    rw[ho]at hn;simp only[aa,if_false]at hn;have hij:i=j + 1:=by
     rcases aT hle with q | q
     ·exact q.symm
     ·exfalso
      apply hn;rw[if_pos (by simpa using hsem (i - 1) (by omega) (by omega))]
    have:=hb j (by rw[ft ga];exact hbang);rw[<-hij,ft gb]at this;exact this
theorem lf (hF:Facts l cs) (hb:∀i,bL (tokAt l i)=true->cP (tokAt l (i + 1))=true):∀(xs:List It) (p:Option It),Lk l cs p xs->ew (bF l src p xs ++ [.nl])
 | [],p,h=>⟨rfl,True.intro,True.intro⟩
 | x::xs,p,h=>by
  have e:bF l src p (x::xs)++ [.nl]=bP l src p x ++(itQ l x::(bF l src (some x) xs ++ [.nl])):=by
   show(bP l src p x ++ itQ l x::bF l src (some x) xs)++ [Pc.nl]=_;rw[ai];rfl
  rw[e];refine ew.gD (ie l src p x) ⟨(fD hF h.1).1,?_,lf hF hb xs (some x) h.2⟩;cases xs with
  | nil=>
   show Sep (itQ l x) (some 10);unfold itQ;split
   ·intro b q;cases q;rfl
   ·exact jE (by decide)
  | cons y ys=>
   have e2:bF l src (some x) (y::ys)++ [.nl]=bP l src (some x) y ++(itQ l y::(bF l src (some y) ys ++ [.nl])):=by
    show(bP l src (some x) y ++ itQ l y::bF l src (some y) ys)++ [Pc.nl]=_;rw[ai];rfl
   rw[e2];exact nT hF hb h.1 h.2.1
theorem gu (hF:Facts l cs):∀(xs:List It) (p:Option It),Lk l cs p xs->∀q∈bF l src p xs ++ [.nl],GV q
 | [],p,h,q,hq=>by
  have e:bF l src p [] ++ [Pc.nl]= [Pc.nl]:=rfl;rw[e,aj]at hq;subst hq;exact(jY (p:= .nl) rfl).1
 | x::xs,p,h,q,hq=>by
  have e:bF l src p (x::xs)++ [.nl]=bP l src p x ++(itQ l x::(bF l src (some x) xs ++ [.nl])):=by
   show(bP l src p x ++ itQ l x::bF l src (some x) xs)++ [Pc.nl]=_;rw[ai];rfl
  rw[e,ao,az]at hq;rcases hq with hq | rfl | hq
  ·exact(jY (ie l src p x q hq)).1
  ·exact fD hF h.1
  ·exact gu hF xs (some x) h.2 q hq
theorem gB:∀(ps:List Pc),(∀p∈ps,GV p)->V (flat ps)
 | [],h=> .nil
 | p::ps,h=>by
  rw[cU];exact Pc.V.app (h p (by simp)).2 (gB ps fun q hq=>h q (by simp[hq]))
def bY (s:ByteArray):ByteArray:=fQ (scanP s).1 (scanP s).2.1 (Fo.linesP s)
def fg (s:ByteArray):List Pc:=iD (scanP s).1 (scanP s).2.1 (Fo.linesP s)
theorem jW {s:ByteArray} (h:Gr.Parsed s):Reads (bY s).data.toList (fg s)/\V (bY s).data.toList:=by
 have hF:=Pc.jZ h.scan;have hk:=gL (Gr.cW h.scan);unfold bY fg;rw[lR];exact⟨(lf hF h.er _ none hk).reads,gB _ (gu hF _ none hk)⟩
theorem pd {s:ByteArray} (h:Gr.Parsed s) (hs:(bY s).size<=2000):(scanP (bY s)).2.2 < 0/\aR (bY s)=(fg s).foldl Pc.ap ss0:=by
 obtain⟨h1,h2⟩:=jW h;have h3:=Pc.iv h1;refine⟨Pc.lj.2 ⟨by rw[h3];show(-1:Int)< 0;decide,h2,hs⟩,?_⟩;unfold aR;rw[h3]
end Rf
end Go.Proofs.Dm
namespace Go.Proofs.Dm
open Go Go.Proofs Go.Proofs.Dm.Sc
open Fo (isO zeroT LS nlB spB pad trimR valueT)
open Pc (Sep GV V Facts Reads)
open Gr (ss0 aR tokAt bL cP bA bq bm cq LI)
namespace Rf
variable {l l':List Tok} {src:List ByteArray}
def bo (y:SS):Bool:=y.l.getLast?.any ends
theorem cN (y:SS):(Sc.semi y).l=if bo y then y.l ++ [⟨6,⟨#[59]⟩,y.at_,y.line,true⟩]else y.l:=by
 unfold Sc.semi bo;split <;> rfl
theorem fb (y:SS):bo (Sc.semi y)=false:=by
 unfold bo;cases h:(Sc.semi y).l.getLast? with
 | none=>rfl
 | some t=>exact Pc.jF h
theorem fC {k:Nat} (h:(tk l k).kind=6):∃t,l[k]? =some t/\t.kind=6:=by
 unfold tk at h;cases hg:l[k]? with
 | none=>rw[hg]at h;exact absurd h (by decide)
 | some t=>rw[hg]at h;exact⟨t,rfl,h⟩
theorem ic {i:Nat} {t:Tok} (h:l[i]? =some t):l.drop i=t::l.drop (i + 1):=by
 have hlt:i < l.length:=by
  rcases al i l.length with q | q
  ·exact q
  ·rw[aq q]at h;cases h
 rw[aK hlt];rw[ah hlt]at h;injection h with h
 rw[h]
theorem gd:∀(n a b:Nat),b=a + n->(∀k,a<=k->k < b->(tk l k).kind=6)->bq false (l.drop a)=bq false (l.drop b)
 | 0,a,b,h,hs=>by rw[h];rfl
 | n + 1,a,b,h,hs=>by
  obtain⟨t,ht,h6⟩:=fC (hs a (au _) (by omega));rw[<-gd n (a + 1) b (by omega) fun k q1 q2=>hs k (by omega) q2,ic ht]
  conv=>lhs;unfold bq
  rw[if_pos h6];rfl
theorem jd {a b:Nat} (h:a < b) (hs:∀k,a<=k->k < b->(tk l k).kind=6):bq true (l.drop a)=(6,⟨#[]⟩)::bq false (l.drop b):=by
 obtain⟨t,ht,h6⟩:=fC (hs a (au _) h);rw[ic ht]
 conv=>lhs;unfold bq
 rw[if_pos h6,if_pos rfl,gd (b -(a + 1)) (a + 1) b (by omega) fun k q1 q2=>hs k (by omega) q2]
theorem jc {e:Bool} {i:Nat} {t:Tok} (hg:l[i]? =some t) (h6:t.kind≠6) (he:e=false\/isO t [125]=false):bq e (l.drop i)=bA t::bq (ends t) (l.drop (i + 1)):=by
 rw[ic hg]
 conv=>lhs;unfold bq
 have:(isO t [125]&&e)=false:=by
  rw[aB];rcases he with q | q
  ·exact .inr q
  ·exact .inl q
 rw[if_neg h6,this];rfl
theorem nS {i:Nat} {t:Tok} (hg:l[i]? =some t) (h6:t.kind≠6) (ho:isO t [125]=true):bq true (l.drop i)=(6,⟨#[]⟩)::bq false (l.drop i):=by
 rw[jc (e:=false) hg h6 (.inl rfl),ic hg]
 conv=>lhs;unfold bq
 rw[if_neg h6,ho];rfl
theorem gT {o:Int} {t:Tok} (h:t.kind=6):La.opT o t=o:=by
 unfold La.opT Fo.isO;rw[h];rfl
theorem iq (a:List Tok) (t:Tok):La.opens (a ++ [t])=La.opT (La.opens a) t:=by
 unfold La.opens;rw[cg];rfl
theorem nR {o:Int} {t u:Tok} (h:bm t u):La.opT o t=La.opT o u:=by
 by_cases q:t.kind=6
 ·rw[gT q,gT (by rw[<-h.1];exact q)]
 ·unfold La.opT Fo.isO;rw[h.1,h.2 q]
theorem gS {i:Nat} {t:Tok} (h:l[i]? =some t):l.take (i + 1)=l.take i ++ [t]:=by
 rw[bH,h];rfl
def nw (a:List Tok):Nat:=(a.filter fun t=>t.kind !=6).length
theorem gK (a:List Tok) (t:Tok):nw (a ++ [t])=nw a + if t.kind=6 then 0 else 1:=by
 unfold nw;rw[List.filter_append,aE]
 congr 1
 by_cases h:t.kind=6
 ·rw[if_pos h];simp[h]
 ·rw[if_neg h];have:(t.kind !=6)=true:=by simpa using h
  rw[List.filter_cons,if_pos this];rfl
theorem im:∀(n a b:Nat),b=a + n->(∀k,a<=k->k < b->(tk l k).kind=6)->La.opens (l.take b)=La.opens (l.take a)/\bc l b=bc l a/\atR l b=atR l a/\nw (l.take b)=nw (l.take a)
 | 0,a,b,h,hs=>by rw[h];exact⟨rfl,rfl,rfl,rfl⟩
 | n + 1,a,b,h,hs=>by
  obtain⟨e1,e2,e3,e4⟩:=im n a (a + n) rfl fun k q1 q2=>hs k q1 (by omega)
  have hk:=hs (a + n) (by omega) (by omega);obtain⟨t,ht,h6⟩:=fC hk;rw[h,<-fT,gS ht,iq,gT h6,gK,if_pos h6];refine⟨e1,?_,?_,e4⟩
  ·rw[<-e2]
   conv=>lhs;unfold bc
   rw[if_pos (by simpa using hk)]
  ·rw[<-e3]
   conv=>lhs;unfold atR
   rw[if_pos (by simpa using hk)]
theorem dB {a r:List Tok} {k:Nat} (h:k < a.length):tk (a ++ r) k=tk a k:=by
 unfold tk;rw[aS h]
theorem fl {a r:List Tok}:∀n:Nat,n<=a.length->bc (a ++ r) n=bc a n/\atR (a ++ r) n=atR a n
 | 0,h=>⟨rfl,rfl⟩
 | n + 1,h=>by
  obtain⟨e1,e2⟩:=fl (a:=a) (r:=r) n (by omega);unfold bc atR;rw[dB (by omega),e1,e2];exact⟨rfl,rfl⟩
theorem gE (a:List Tok):∀n:Nat,atR a n<=n - 1
 | 0=>au _
 | n + 1=>by
  unfold atR;split
  ·have:=gE a n;omega
  ·omega
def pvR (l:List Tok) (n:Nat):Tok:=if 1<=atR l n then tk l (atR l n - 1)else zeroT
theorem kp {a r:List Tok} {n:Nat} (h:n<=a.length):pvR (a ++ r) n=pvR a n:=by
 unfold pvR;rw[(fl n h).2]
 by_cases q:1<=atR a n
 ·have:=gE a n;rw[if_pos q,if_pos q,dB (by omega)]
 ·rw[if_neg q,if_neg q]
theorem fV (a:List Tok) (t:Tok):tk (a ++ [t]) a.length=t:=by
 unfold tk;rw[du];rfl
theorem pc {a:List Tok} {t:Tok} (h:t.kind=6):bc (a ++ [t]) (a ++ [t]).length=bc a a.length/\pvR (a ++ [t]) (a ++ [t]).length=pvR a a.length:=by
 have e:(a ++ [t]).length=a.length + 1:=by simp
 rw[e];have hk:(tk (a ++ [t]) a.length).kind==6:=by rw[fV,h];rfl
 have e1:bc (a ++ [t]) (a.length + 1)=bc (a ++ [t]) a.length:=by
  conv=>lhs;unfold bc
  rw[if_pos hk]
 have e2:atR (a ++ [t]) (a.length + 1)=atR (a ++ [t]) a.length:=by
  conv=>lhs;unfold atR
  rw[if_pos hk]
 refine⟨by rw[e1,(fl _ (au _)).1],?_⟩;rw[<-kp (r:= [t]) (au _)];unfold pvR;rw[e2]
theorem jD {a:List Tok} {t:Tok} (h:t.kind≠6):bc (a ++ [t]) (a ++ [t]).length=t/\pvR (a ++ [t]) (a ++ [t]).length=if 1<=a.length then tk a (a.length - 1)else zeroT:=by
 have e:(a ++ [t]).length=a.length + 1:=by simp
 rw[e];have hk:¬((tk (a ++ [t]) a.length).kind==6)=true:=by rw[fV];simpa using h
 have e1:bc (a ++ [t]) (a.length + 1)=t:=by
  unfold bc;rw[if_neg hk,fV]
 have e2:atR (a ++ [t]) (a.length + 1)=a.length:=by
  unfold atR;rw[if_neg hk]
 refine⟨e1,?_⟩;unfold pvR;rw[e2]
 by_cases q:1<=a.length
 ·rw[if_pos q,if_pos q,dB (by omega)]
 ·rw[if_neg q,if_neg q]
def Rel (a b:List Tok):Prop:=(a= []/\b= [])\/∃t u,a.getLast? =some t/\b.getLast? =some u/\(bm t u\/(t.kind=6/\(u.kind=6\/isO u [123]=true)))
theorem dX {t u:Tok} {x:List UInt8} (h:bm t u):isO t x=isO u x:=by
 unfold Fo.isO
 by_cases q:t.kind=6
 ·rw[<-h.1,q];rfl
 ·rw[h.1,h.2 q]
theorem ia {t u:Tok} (h:bm t u):ends t=ends u:=by
 unfold ends
 by_cases q:t.kind=6
 ·rw[<-h.1,q];rfl
 ·rw[h.1,h.2 q]
theorem fc {t u:Tok} {xs:List ByteArray} (h:bm t u):isKind t xs=isKind u xs:=by
 unfold isKind
 by_cases q:t.kind=6
 ·rw[<-h.1,q];rfl
 ·rw[h.1,h.2 q]
def gC (u:Tok):Prop:=u.kind=6\/isO u [123]=true
theorem mS {u:Tok} (h:gC u):onR u=false:=by
 unfold onR;rcases h with h | h
 ·rw[h];rfl
 ·rw[h];simp
theorem pZ {u:Tok} (h:gC u):valueT u=false:=by
 unfold Fo.valueT isKind;rcases h with h | h
 ·rw[h];rfl
 ·unfold Fo.isO at h;rw[ae,beq_iff_eq,beq_iff_eq]at h;rw[h.1];unfold isIn eqB;simp only[dV,eT,h.2];rw[Lib.toList_data ⟨#[41]⟩];rfl
theorem mR {t u:Tok} (h:bm t u):onR t=onR u:=by
 unfold onR;rw[dX h,dX h,h.1]
theorem pY {t u:Tok} (h:bm t u):valueT t=valueT u:=by
 unfold Fo.valueT;rw[fc h,h.1]
theorem fk {i:Nat} (h0:0 < i) (hi:i<=l.length):(l.take i).getLast? =some (tk l (i - 1)):=by
 rw[aH,dg,Nat.min_eq_left hi,List.getElem?_take,if_pos (by omega),ah (by omega)];unfold tk;rw[ah (by omega)];rfl
theorem ko {b:List Tok} {u:Tok} (h:b.getLast? =some u):1<=b.length/\tk b (b.length - 1)=u:=by
 rw[aH]at h;have:b.length - 1 < b.length:=by
  rcases al (b.length - 1) b.length with q | q
  ·exact q
  ·rw[aq q]at h;cases h
 refine⟨by omega,?_⟩;unfold tk;rw[h];rfl
theorem Rel.ahead {i:Nat} {b:List Tok} (h:Rel (l.take i) b) (hi:i<=l.length) (f:Tok->Bool) (hf:∀t u,bm t u->f t=f u) (hd:∀u,gC u->f u=false):
  f (if 1<=i then tk l (i - 1)else zeroT)=f (if 1<=b.length then tk b (b.length - 1)else zeroT)/\(decide (0 < i)&&f (tk l (i - 1)))=(decide (0 < b.length)&&f (tk b (b.length - 1))):=by
 rcases h with ⟨h1,h2⟩ | ⟨t,u,h1,h2,h3⟩
 ·have:i=0:=by
   have:=congrArg List.length h1;simp only[dg,aQ]at this;rcases bt i with q | q
   ·exact q
   ·have:l.length=0:=by omega
    omega
  subst this;subst h2;exact⟨rfl,rfl⟩
 ·have h0:0 < i:=by
   rcases bt i with q | q
   ·subst q;rw[fy]at h1;cases h1
   ·exact q
  rw[fk h0 hi]at h1;cases h1;obtain⟨g1,g2⟩:=ko h2;rw[if_pos (by omega),if_pos g1,g2,decide_eq_true h0,decide_eq_true (by omega:0 < b.length),cm,cm];have e:f (tk l (i - 1))=f u:=by
   rcases h3 with h3 | ⟨h3,h4⟩
   ·exact hf _ _ h3
   ·rw[hd _ (.inl h3),hd _ h4]
  exact⟨e,e⟩
structure Iv (T:ByteArray) (l:List Tok) (p p':Option It) (y:SS):Prop where
 li:LI T y
 sync:y.l.map bA ++ bq (bo y) (l.drop (bp p))=bq false l
 opn:La.opens (l.take (bp p))=La.opens y.l
 lw:bm (bc l (bp p)) (bc y.l y.l.length)
 pv:isO (bc l (bp p)) [45]=true->valueT (pvR l (bp p))=valueT (pvR y.l y.l.length)
 rel:Rel (l.take (bp p)) y.l
 cnt:nw (l.take (bp p))=nw y.l
 com:∀b,p=some b->b.com=true->bo y=false
 wrd:∀b,p=some b->b.com=false->(tk l b.tok.toNat).kind≠6
 none_:p=none->p'=none/\y.l= []
 some_:∀b,p=some b->∃b',p'=some b'/\b'.line=y.line/\b'.com=b.com
structure Cx (l:List Tok) (i:Nat) (b:List Tok) (sh:Bool):Prop where
 opn:La.opens (l.take i)=La.opens b
 lw:bm (bc l i) (bc b b.length)
 pv:isO (bc l i) [45]=true->valueT (pvR l i)=valueT (pvR b b.length)
 rel:sh=false->Rel (l.take i) b
 cnt:nw (l.take i)=nw b
theorem lb {n a b:Nat} (h:b=a + n) (hs:∀k,a<=k->k < b->(tk l k).kind=6):pvR l b=pvR l a:=by
 unfold pvR;rw[(im n a b h hs).2.2.1]
theorem o9:ends zeroT=false:=rfl
theorem o8 {T:ByteArray} {p p':Option It} {y:SS} {i:Nat} (h:Iv T l p p' y) (hsem:∀k,cq l 0 k) (hlt:bp p < i) (hs:∀k,bp p<=k->k < i->(tk l k).kind=6) (he:bo y=false):∃u,y.l.getLast? =some u/\gC u:=by
 obtain⟨t,ht,h6⟩:=fC (hs (bp p) (au _) hlt);obtain⟨j,_,hj,hj2,hj3,hj4⟩:=hsem (bp p) (by rw[ft ht];exact h6);have hjl:j < l.length:=by
  rcases al (bp p) l.length with q | q
  ·omega
  ·rw[aq q]at ht;cases ht
 have ej:tokAt l j=tk l j:=by
  unfold Gr.tokAt tk;rw[ah hjl];rfl
 have hsj:∀k,j < k->k < bp p->(tk l k).kind=6:=fun k q1 q2=>by
  have:=hj2 k q1 q2;have e:tokAt l k=tk l k:=by
   unfold Gr.tokAt tk;rw[ah (by rcases al (bp p) l.length with q | q;omega;rw[aq q]at ht;cases ht)];rfl
  rw[<-e];exact this
 rw[ej]at hj3 hj4;obtain⟨e1,_⟩:=fX hj3 (bp p) hj hsj;have hlw:=h.lw;rw[e1]at hlw;cases hg:y.l.getLast? with
 | none=>
  exfalso
  have:y.l= []:=List.getLast?_eq_none_iff.1 hg;rw[this]at hlw;have e2:bc [] ([]:List Tok).length=zeroT:=rfl;rw[e2]at hlw;rcases hj4 with q | q
  ·rw[ia hlw,o9]at q;cases q
  ·rw[dX hlw]at q;exact absurd q (by decide)
 | some u=>
  refine⟨u,rfl,?_⟩
  by_cases h6u:u.kind=6
  ·exact .inl h6u
  ·obtain⟨a,ha⟩:∃a,y.l=a ++ [u]:=by
    rw[dK]at hg;exact hg
   have e3:bc y.l y.l.length=u:=by rw[ha];exact(jD h6u).1
   rw[e3]at hlw;have e4:ends u=false:=by
    unfold bo at he;rw[hg]at he;exact he
   rcases hj4 with q | q
   ·rw[ia hlw,e4]at q;cases q
   ·exact .inr (by rw[<-dX hlw];exact q)
theorem iR {T:ByteArray} {p p':Option It} {y:SS} {i:Nat} (h:Iv T l p p' y) (hsem:∀k,cq l 0 k) (hi:i<=l.length) (hle:bp p<=i) (hs:∀k,bp p<=k->k < i->(tk l k).kind=6) (he:bo y=false\/i=bp p) (sh:Bool):Cx l i y.l sh:=by
 obtain⟨e1,e2,e3,e4⟩:=im (i - bp p) (bp p) i (by omega) hs;refine⟨by rw[e1];exact h.opn,by rw[e2];exact h.lw,fun q=> ?_,fun _=> ?_,by rw[e4];exact h.cnt⟩
 ·rw[e2]at q;rw[lb (n:=i - bp p) (by omega) hs];exact h.pv q
 ·rcases aT hle with q | q
  ·rw[<-q];exact h.rel
  ·have he':bo y=false:=by
    rcases he with k | k
    ·exact k
    ·omega
   obtain⟨u,h1,h2⟩:=o8 h hsem q hs he';exact .inr ⟨tk l (i - 1),u,fk (by omega) hi,h1,.inr ⟨hs (i - 1) (by omega) (by omega),h2⟩⟩
theorem iQ {T:ByteArray} {p p':Option It} {y:SS} {i:Nat} {t:Tok} (h:Iv T l p p' y) (hi:i<=l.length) (hle:bp p<=i) (hs:∀k,bp p<=k->k < i->(tk l k).kind=6) (h6:t.kind=6) (sh:Bool) (hsh:sh=false->bp p < i):Cx l i (y.l ++ [t]) sh:=by
 obtain⟨e1,e2,e3,e4⟩:=im (i - bp p) (bp p) i (by omega) hs;obtain⟨s1,s2⟩:=pc (a:=y.l) h6;refine⟨by rw[e1,iq,gT h6];exact h.opn,by rw[e2,s1];exact h.lw,fun q=> ?_,fun q=> ?_,by rw[e4,gK,if_pos h6];exact h.cnt⟩
 ·rw[e2]at q;rw[lb (n:=i - bp p) (by omega) hs,s2];exact h.pv q
 ·have:=hsh q;exact .inr ⟨tk l (i - 1),t,fk (by omega) hi,by rw[ar,aO];rfl,.inr ⟨hs (i - 1) (by omega) (by omega),.inl h6⟩⟩
end Rf
end Go.Proofs.Dm
namespace Go.Proofs.Dm
open Go Go.Proofs Go.Proofs.Dm.Sc
open Fo (isO zeroT LS nlB spB pad trimR valueT spaceT)
open Pc (Sep GV V Facts Reads)
open Gr (ss0 aR tokAt bL cP bA bq bm cq LI)
namespace Rf
variable {l l':List Tok} {cs:List Com} {src src':List ByteArray}
theorem hJ:∀(n:Nat) (y:SS),(bw n).foldl Pc.ap y={y with at_:=y.at_ + n}
 | 0,y=>rfl
 | n + 1,y=>by
  unfold bw;rw[dr,bM];show(bw n).foldl Pc.ap {y with at_:=y.at_ + 1}=_;rw[hJ n];simp only[fT,Nat.add_comm 1 n]
theorem semi_c (y:SS):(Sc.semi y).c=y.c:=by unfold Sc.semi;split <;> rfl
theorem dy {y z:SS} (h:y.l=z.l):bo y=bo z:=by unfold bo;rw[h]
theorem iL {y z:SS} (h:z.l=(Sc.semi y).l):(Sc.semi z).l=(Sc.semi y).l:=by
 rw[cN,dy h,fb];exact h
theorem la (x:It) (y:SS):((bP l src none x).foldl Pc.ap y).l=y.l/\((bP l src none x).foldl Pc.ap y).c=y.c/\((bP l src none x).foldl Pc.ap y).line=y.line:=by
 rw[ig,hJ];exact⟨rfl,rfl,rfl⟩
theorem dQ {b x:It} (h:aC l b x=true) (y:SS):((bP l src (some b) x).foldl Pc.ap y).l=(Sc.semi y).l/\((bP l src (some b) x).foldl Pc.ap y).c=y.c/\((bP l src (some b) x).foldl Pc.ap y).line=y.line + if cH l src b x then 2 else 1:=by
 rw[eH,if_pos h,cg,hJ];split
 ·refine⟨?_,?_,?_⟩
  ·exact iL (y:=y) (z:=Pc.ap y .nl) rfl
  ·exact(semi_c (Pc.ap y .nl)).trans (semi_c y)
  ·show y.line + 1 + 1=_;omega
 ·exact⟨rfl,semi_c y,rfl⟩
theorem fa {b x:It} (h:aC l b x=false) (y:SS):((bP l src (some b) x).foldl Pc.ap y).l=y.l/\((bP l src (some b) x).foldl Pc.ap y).c=y.c/\((bP l src (some b) x).foldl Pc.ap y).line=y.line:=by
 rw[eH,if_neg (by rw[h];decide)];split
 ·exact⟨rfl,rfl,rfl⟩
 ·split <;> exact⟨rfl,rfl,rfl⟩
def one (y:SS):Pc->List It
 | .com w=> [aV ⟨⟨w.toArray⟩,y.at_,y.line,(Sc.semi y).l.length⟩]
 | .tok k w=>if k !=6&&k !=7 then [aJ y.l.length ⟨k,⟨w.toArray⟩,y.at_,y.line,false⟩]else []
 | _=> []
def pIt:SS->List Pc->List It
 | _,[]=> []
 | y,q::qs=>one y q ++ pIt (Pc.ap y q) qs
theorem il:∀(a ps:List Pc) (y:SS),(∀q∈a,dF q=true)->pIt y (a ++ ps)=pIt (a.foldl Pc.ap y) ps
 | [],ps,y,h=>rfl
 | q::a,ps,y,h=>by
  have hq:=h q (by simp);rw[aw,bM,<-il a ps _ fun z hz=>h z (by simp[hz])];show one y q ++ pIt (Pc.ap y q) (a ++ ps)=_;cases q with
  | sp b=>rfl
  | nl=>rfl
  | com w=>cases hq
  | tok k w=>cases hq
inductive SE (l l':List Tok) (src src':List ByteArray):Option It->Option It->List It->List It->Prop
 | nil {p p'}:SE l l' src src' p p' [] []
 | cons {p p' x x' xs xs'} (hs:cO l src p x=cO l' src' p' x') (ht:cz l x=cz l' x') (hc:x.com=x'.com) (hn:nw (l.take x.tok.toNat)=nw (l'.take x'.tok.toNat)) (h:SE l l' src src' (some x) (some x') xs xs'):SE l l' src src' p p' (x::xs) (x'::xs')
theorem SE.out {p p':Option It} {xs xs':List It} (h:SE l l' src src' p p' xs xs'):∀o,cY l src p xs o=cY l' src' p' xs' o:=by
 induction h with
 | nil=>intro o;rfl
 | @cons p p' x x' xs xs' hs ht hc hn h ih=>
  intro o;show cY l src (some x) xs (o ++ cO l src p x ++ cz l x)=cY l' src' (some x') xs' (o ++ cO l' src' p' x' ++ cz l' x');rw[hs,ht,ih]
theorem jC {x:It} {i:Nat} (ex:x.tok=(i:Int)):aW l x=if bN l x then La.opens (l.take i)- 1 else if(decide (0 < i)&&onR (tk l (i - 1)))then La.opens (l.take i)+ 1 else La.opens (l.take i):=by
 unfold aW;rw[ex,bS];have e:decide ((0:Int)<(i:Int))=decide (0 < i):=by simp
 rw[e];cases bN l x <;> cases decide (0 < i)<;> cases onR (tk l (i - 1))<;> simp
theorem kn {x x':It} {i:Nat} {b r:List Tok} (hi:i<=l.length) (ex:x.tok=(i:Int)) (ex':x'.tok=(b.length:Int)) (hl:l'=b ++ r) (hsh:bN l x=bN l' x') (cx:Cx l i b (bN l x)):aW l x=aW l' x':=by
 have e0:l'.take b.length=b:=by rw[hl,bZ]
 rw[jC ex,jC ex',<-hsh,e0,<-cx.opn];cases hs:bN l x with
 | true=>rfl
 | false=>
  have h:=((cx.rel hs).ahead hi onR (fun t u q=>mR q) (fun u q=>mS q)).2;have e2:(decide (0 < b.length)&&onR (tk l' (b.length - 1)))=(decide (0 < b.length)&&onR (tk b (b.length - 1))):=by
   rcases bt b.length with q | q
   ·rw[q];rfl
   ·rw[hl,dB (by omega)]
  rw[e2,<-h]
theorem nQ (t:Tok) (c:UInt8):isKind t [⟨#[c]⟩]=isO t [c]:=by
 unfold isKind Fo.isO isIn eqB;simp only[dV,eT,fU];rw[Lib.toList_data ⟨#[c]⟩]
theorem pX {p p' a a' b b':Tok} (ha:bm a a') (hb:bm b b') (hp:isO a [45]=true->valueT p=valueT p'):spaceT p a b=spaceT p' a' b':=by
 unfold Fo.spaceT;have ek:(a.kind==1)=(a'.kind==1):=by rw[ha.1]
 rw[<-fc (xs:= [⟨#[40]⟩,⟨#[46]⟩,⟨#[33]⟩]) ha,<-fc (xs:= [⟨#[45]⟩]) ha,<-fc (xs:= [⟨#[41]⟩,⟨#[44]⟩,⟨#[46]⟩,⟨#[58]⟩]) hb,<-fc (xs:= [⟨#[40]⟩]) hb,<-fc (xs:= [⟨#[41]⟩]) ha,<-fc (xs:= [⟨#[123]⟩]) ha,<-fc (xs:= [⟨#[125]⟩]) hb,ek];have e:(isKind a [⟨#[45]⟩]&& !valueT p)=(isKind a [⟨#[45]⟩]&& !valueT p'):=by
  cases h:isKind a [⟨#[45]⟩]with
  | false=>rfl
  | true=>rw[hp (by rw[<-nQ];exact h)]
 rw[e]
theorem dC (v:List UInt8):Gr.spl (10::v)= []::Gr.spl v:=Gr.eF [] v (by simp)
theorem hH {c:UInt8} (h:c≠10) (v:List UInt8):Gr.spl (c::v)=match Gr.spl v with
  | g::t=>(c::g)::t
  | []=> [[c]]:=by
 conv=>lhs;unfold Gr.spl
 rw[if_neg h];try(cases Gr.spl v <;> rfl)
theorem happ:∀u v:List UInt8,Gr.spl (u ++ 10::v)=Gr.spl u ++ Gr.spl v
 | [],v=>by rw[aP,dC];rfl
 | c::u,v=>by
  rw[aw]
  by_cases h:c=10
  ·subst h;rw[dC,dC,happ u v];rfl
  ·rw[hH h,hH h,happ u v];cases hu:Gr.spl u with
   | nil=>exact absurd hu (Gr.dD u)
   | cons g t=>rfl
theorem nP {T:ByteArray} {y:SS} (h:LI T y) {r:List UInt8} (hd:T.data.toList.drop y.at_=10::10::r):((Fo.linesP T)[y.line]?).getD ⟨#[]⟩=⟨#[]⟩:=by
 have e1:T.data.toList=T.data.toList.take y.at_ ++ 10::10::r:=by rw[<-hd,bj]
 have e2:y.line=(Gr.spl (T.data.toList.take y.at_)).length:=by
  rw[Gr.iW];have:=h.line;unfold Gr.nl at this;omega
 have e3:((Fo.linesP T).map (·.data.toList))[y.line]? =some []:=by
  rw[Gr.dZ,e1,happ,e2,bV (au _)];rw[iF,dC];rfl
 rw[dO]at e3;cases hg:(Fo.linesP T)[y.line]? with
 | none=>rfl
 | some z=>
  rw[hg]at e3;simp only[cB,ak]at e3;show z=_;exact ba_ext e3
theorem gA {T:ByteArray} {y:SS} {b b' x x':It} (hg:isO (bc l x.tok.toNat) [123]=isO (bc l' x'.tok.toNat) [123]) (hsh:bN l x=bN l' x') (hb:b'.line=(y.line:Int)) (hx:x'.line=((y.line + if cH l src b x then 2 else 1:Nat):Int))
  (he:cH l src b x=true->((Fo.linesP T)[y.line]?).getD ⟨#[]⟩=⟨#[]⟩):cH l src b x=cH l' (Fo.linesP T) b' x':=by
 generalize hq:cH l src b x=g at *;unfold cH at hq|-;rw[<-hg,<-hsh]
 by_cases q:(isO (bc l x.tok.toNat) [123] || bN l x)=true
 ·rw[if_pos q]at hq|-;exact hq.symm
 ·rw[if_neg q]at hq|-;rw[hx,hb];cases g with
  | true=>
   have e:(((y.line + if true=true then 2 else 1:Nat):Int)- 1 -(y.line:Int)).toNat=1:=by simp only[if_true];omega
   rw[e,bS];unfold fR;rw[he rfl,if_pos (by rw[Lib.toList_data];rfl)]
  | false=>
   have e:(((y.line + if false=true then 2 else 1:Nat):Int)- 1 -(y.line:Int)).toNat=0:=by simp only[aa,if_false];omega
   rw[e];rfl
theorem jB {T:ByteArray} {p':Option It} {y:SS} {b:It} (h:Iv T l (some b) p' y) (he:bo y=true) (hl:bp (some b)<=l.length):∃j,bp (some b)=j + 1/\ends (tk l j)=true/\(tk l j).kind≠6/\isO (tk l j) [123]=false:=by
 have hc:b.com=false:=by
  cases q:b.com with
  | false=>rfl
  | true=>rw[h.com b rfl q]at he;cases he
 have hbp:bp (some b)=b.tok.toNat + 1:=by
  show(if b.com then _ else _)=_;rw[hc];rfl
 refine⟨b.tok.toNat,hbp,?_⟩;have hr:=h.rel;rw[hbp]at hr hl;rcases hr with ⟨_,h2⟩ | ⟨t,u,h1,h2,h3⟩
 ·unfold bo at he;rw[h2]at he;cases he
 ·rw[fk (by omega) hl]at h1;cases h1;rw[aU]at h3;have hu:ends u=true:=by
   unfold bo at he;rw[h2]at he;exact he
  have nd:¬gC u:=by
   rintro(q | q)
   ·have:ends u=false:=by unfold ends;rw[q];rfl
    rw[hu]at this;cases this
   ·rw[Gr.jG q]at hu;cases hu
  rcases h3 with h3 | ⟨_,h4⟩
  ·have he2:ends (tk l b.tok.toNat)=true:=by rw[ia h3];exact hu
   refine⟨he2,?_,?_⟩
   ·intro q;have:ends (tk l b.tok.toNat)=false:=by unfold ends;rw[q];rfl
    rw[he2]at this;cases this
   ·rw[c8];intro q;rw[Gr.jG q]at he2;cases he2
  ·exact absurd h4 nd
theorem pW {T:ByteArray} {p p':Option It} {y:SS} {i:Nat} {t:Tok} (h:Iv T l p p' y) (hsem:∀k,cq l 0 k) (hk:Lnk l cs p (aJ i t)) (hg:l[i]? =some t) (h6:t.kind≠6):
  (((bP l src p (aJ i t)).foldl Pc.ap y).l.map bA ++ bq (bo ((bP l src p (aJ i t)).foldl Pc.ap y)) (l.drop i)=bq false l/\(bo ((bP l src p (aJ i t)).foldl Pc.ap y)=false\/isO t [125]=false))/\Cx l i ((bP l src p (aJ i t)).foldl Pc.ap y).l (isO t [125]):=by
 have hlt:i < l.length:=by
  rcases al i l.length with q | q
  ·exact q
  ·rw[aq q]at hg;cases hg
 have hle:bp p<=i:=hk.le;have hs:∀k,bp p<=k->k < i->(tk l k).kind=6:=hk.semis;have same:bo y=false->∀y1:SS,y1.l=y.l->(y1.l.map bA ++ bq (bo y1) (l.drop i)=bq false l/\(bo y1=false\/isO t [125]=false))/\Cx l i y1.l (isO t [125]):=by
  intro he y1 e1;rw[dy e1,e1,he];refine⟨⟨?_,.inl rfl⟩,iR h hsem (by omega) hle hs (.inl he) _⟩;have hsy:=h.sync;rw[he,gd (i - bp p) (bp p) i (by omega) hs]at hsy;exact hsy
 cases p with
 | none=>
  have h0:=(h.none_ rfl).2;exact same (by unfold bo;rw[h0];rfl) _ (la _ y).1
 | some b=>
  cases he:bo y with
  | false=>
   refine same he _ ?_;cases hb:aC l b (aJ i t)with
   | true=>rw[(dQ hb y).1,cN,he];rfl
   | false=>exact(fa hb y).1
  | true=>
   obtain⟨j,hj,he1,hk6,ho⟩:=jB h he (by omega);have hsj:∀k,j < k->k < i->(tk l k).kind=6:=fun k q1 q2=>hs k (by omega) q2
   obtain⟨el,_⟩:=fX hk6 i (by omega) hsj;have hbc:b.com=false:=by
    cases q:b.com with
    | false=>rfl
    | true=>rw[h.com b rfl q]at he;cases he
   have ebr:aC l b (aJ i t)=if(tk l (i - 1)).kind==6 then true else isO t [125]:=by
    unfold aC;have e1:(aJ i t).com=false:=rfl;have e2:(aJ i t).tok.toNat=i:=rfl;rw[e1,e2,hbc,el,ho,bk hg];simp only[aa,if_false]
   have hsync:=h.sync;rw[he]at hsync;rcases aT hle with q | q
   ·have eij:i - 1=j:=by omega
    rw[eij,if_neg (by simpa using hk6)]at ebr;rw[q]at hsync;cases hs2:isO t [125]with
    | true=>
     rw[hs2]at ebr;rw[dy (dQ ebr y).1,(dQ ebr y).1,fb,cN,he];refine⟨⟨?_,.inl rfl⟩,iQ h (by omega) hle hs rfl true (fun k=>by cases k)⟩;rw[if_pos rfl,bu,ai,<-hsync,nS hg h6 hs2];rfl
    | false=>
     rw[hs2]at ebr;rw[dy (fa ebr y).1,(fa ebr y).1,he];exact⟨⟨hsync,.inr rfl⟩,iR h hsem (by omega) hle hs (.inr q.symm) false⟩
   ·rw[if_pos (by simpa using hs (i - 1) (by omega) (by omega))]at ebr;rw[dy (dQ ebr y).1,(dQ ebr y).1,fb,cN,he];refine⟨⟨?_,.inl rfl⟩,iQ h (by omega) hle hs rfl _ (fun _=>q)⟩;rw[if_pos rfl,bu,ai,<-hsync,jd q hs];rfl
theorem o7 {b b':It} {i:Nat} {t t':Tok} {c r:List Tok} (hi:i<=l.length) (hi0:0 < i) (hbc:b'.com=b.com) (hl:l'=c ++ t'::r) (ht:bm t t') (hg:l[i]? =some t) (cx:Cx l i c (isO t [125])) (hc0:b.com=false->c≠ []):aC l b (aJ i t)=aC l' b' (aJ c.length t'):=by
 have e0:bc l' c.length=bc c c.length:=by rw[hl];exact(fl _ (au _)).1
 have e3:tk l' c.length=t':=by rw[hl];unfold tk;simp
 unfold aC;have e1:∀(i:Nat) (t:Tok),(aJ i t).com=false:=fun _ _=>rfl
 have e2:∀(i:Nat) (t:Tok),(aJ i t).tok.toNat=i:=fun _ _=>rfl
 rw[e1,e1,e2,e2,hbc,bk hg,e3,e0,<-dX cx.lw,<-dX ht];simp only[aa,if_false];cases hb:b.com with
 | true=>rfl
 | false=>
  simp only[aa,if_false];split
  ·rfl
  ·rename_i hno;cases hs:isO t [125]with
   | true=>cases ((tk l (i - 1)).kind==6)<;> cases ((tk l' (c.length - 1)).kind==6)<;> rfl
   | false=>
    have hc1:0 < c.length:=dt.2 (hc0 hb);have e4:tk l' (c.length - 1)=tk c (c.length - 1):=by rw[hl,dB (by omega)]
    have e5:((tk l (i - 1)).kind==6)=((tk l' (c.length - 1)).kind==6):=by
     rcases cx.rel hs with ⟨_,q⟩ | ⟨t0,u,q1,q2,q3⟩
     ·exact absurd q (hc0 hb)
     ·rw[fk hi0 hi]at q1;cases q1;rw[e4,(ko q2).2];rcases q3 with q3 | ⟨q3,q4 | q4⟩
      ·rw[q3.1]
      ·rw[q3,q4]
      ·exfalso
       apply hno;rw[dX cx.lw];have hu6:u.kind≠6:=by rw[Gr.dY q4];decide
       obtain⟨a,ha⟩:∃a,c=a ++ [u]:=by
        rw[dK]at q2;exact q2
       rw[ha,(jD hu6).1];exact q4
    rw[e5]
theorem o6 (w:List UInt8):Lib.trimRightS (Lib.trimRightS w [32,9]) [32,9]=Lib.trimRightS w [32,9]:=by
 obtain⟨q,h1,h2,h3⟩:=Pc.iu w;generalize Lib.trimRightS w [32,9]=t at *;unfold Lib.trimRightS;cases ht:t.reverse with
 | nil=>
  have:t= []:=by simpa using ht
  rw[this];rfl
 | cons b r=>
  have hb:=h3 b (by rw[<-List.head?_reverse,ht];rfl);rw[bg,if_neg (by unfold Pc.cQ at hb;rw[hb];decide),<-ht,fj]
theorem pV (c:ByteArray):trimR (trimR c)=trimR c:=by
 apply ba_ext;exact o6 c.data.toList
theorem jV (w:ByteArray):(⟨w.data.toList.toArray⟩:ByteArray)=w:=by
 apply ba_ext;simp
end Rf
end Go.Proofs.Dm
namespace Go.Proofs.Dm
open Go Go.Proofs Go.Proofs.Dm.Sc
open Fo (isO zeroT LS nlB spB pad trimR valueT spaceT linesP)
open Pc (Sep GV V Facts Reads)
open Gr (ss0 aR tokAt bL cP bA bq bm cq LI)
namespace Rf
variable {l l':List Tok} {cs:List Com} {src src':List ByteArray}
theorem nO {T:ByteArray} {p':Option It} {y:SS} {b:It} {i:Nat} {t t':Tok} {r:List Tok} (h:Iv T l (some b) p' y) (hk:Lnk l cs (some b) (aJ i t)) (hg:l[i]? =some t) (hb:b.com=false) (hl:l'=y.l ++ t'::r) (ht:bm t t') (cx:Cx l i y.l (isO t [125])):cA l i=cA l' y.l.length:=by
 have hlt:i < l.length:=by
  rcases al i l.length with q | q
  ·exact q
  ·rw[aq q]at hg;cases hg
 have hbp:bp (some b)=b.tok.toNat + 1:=by
  show(if b.com then _ else _)=_;rw[hb];rfl
 have hle:bp (some b)<=i:=hk.le;have h6:=h.wrd b rfl hb;obtain⟨e1,e2⟩:=fX h6 i (by omega) fun k q1 q2=>hk.semis k (by omega) q2
 have hr:=h.rel;rw[hbp]at hr;rcases hr with ⟨q,_⟩ | ⟨t0,u,q1,q2,q3⟩
 ·have:=congrArg List.length q;simp only[dg,aQ]at this;omega
 ·rw[fk (by omega) (by omega),aU]at q1;cases q1;have hs:bm (tk l b.tok.toNat) u:=by
   rcases q3 with q3 | ⟨q3,_⟩
   ·exact q3
   ·exact absurd q3 h6
  obtain⟨a,ha⟩:∃a,y.l=a ++ [u]:=by
   rw[dK]at q2;exact q2
  have hu6:u.kind≠6:=by rw[<-hs.1];exact h6
  have hlen:y.l.length=a.length + 1:=by rw[ha];simp
  have ea:atR l' y.l.length=a.length:=by
   rw[hl,(fl _ (au _)).2,hlen];unfold atR;have:tk y.l a.length=u:=by rw[ha,fV]
   rw[this,if_neg (by simpa using hu6)]
  have eu:tk l' a.length=u:=by
   rw[hl,dB (by omega),ha,fV]
  have et:tk l' y.l.length=t':=by rw[hl];unfold tk;simp
  have ep:pvR l' y.l.length=pvR y.l y.l.length:=by rw[hl];exact kp (au _)
  show spaceT (pvR l i) (tk l (atR l i)) (tk l i)=spaceT (pvR l' y.l.length) (tk l' (atR l' y.l.length)) (tk l' y.l.length);rw[e2,ea,eu,et,ep,bk hg];refine pX hs ht fun q=> ?_
  exact cx.pv (by rw[e1];exact q)
theorem o5 {T:ByteArray} {p p':Option It} {y y1:SS} {i:Nat} {t t':Tok} {r:List Tok} (h:Iv T l p p' y) (hsem:∀k,cq l 0 k) (hk:Lnk l cs p (aJ i t)) (hg:l[i]? =some t) (h6:t.kind≠6)
  (e1:y1=(bP l src p (aJ i t)).foldl Pc.ap y) (et:t'=⟨t.kind,⟨t.text.data.toList.toArray⟩,y1.at_,y1.line,false⟩) (hli:LI T (Pc.ap y1 (.tok t.kind t.text.data.toList))) (hl:l'=y1.l ++ t'::r)
  (hgap:∀b,p=some b->aC l b (aJ i t)=true->cH l src b (aJ i t)=true->((linesP T)[y.line]?).getD ⟨#[]⟩=⟨#[]⟩):
  (cO l src p (aJ i t)=cO l' (linesP T) p' (aJ y1.l.length t')/\cz l (aJ i t)=cz l' (aJ y1.l.length t'))/\nw (l.take i)=nw (l'.take y1.l.length)/\Iv T l (some (aJ i t)) (some (aJ y1.l.length t')) (Pc.ap y1 (.tok t.kind t.text.data.toList)):=by
 have hlt:i < l.length:=by
  rcases al i l.length with q | q
  ·exact q
  ·rw[aq q]at hg;cases hg
 have ht:bm t t':=by rw[et];exact⟨rfl,fun _=>by rw[jV]⟩
 obtain⟨⟨hsync,hor⟩,cx⟩:=pW (src:=src) h hsem hk hg h6;rw[<-e1]at hsync hor cx;have e3:tk l' y1.l.length=t':=by rw[hl];unfold tk;simp
 have etake:l'.take y1.l.length=y1.l:=by rw[hl,bZ]
 have hsh:bN l (aJ i t)=bN l' (aJ y1.l.length t'):=by
  have e5:bN l (aJ i t)=isO (tk l i) [125]:=rfl;have e6:bN l' (aJ y1.l.length t')=isO (tk l' y1.l.length) [125]:=rfl;rw[e5,e6,bk hg,e3];exact dX ht
 have hsh2:bN l (aJ i t)=isO t [125]:=by
  show isO (tk l i) [125]=_;rw[bk hg]
 have htabs:aW l (aJ i t)=aW l' (aJ y1.l.length t'):=kn (i:=i) (b:=y1.l) (by omega) rfl rfl hl hsh (by rw[hsh2];exact cx);have hl0:0<=y.line:=by have:=h.li.line;omega
 refine⟨⟨?_,?_⟩,by rw[etake];exact cx.cnt,?_⟩
 ·cases p with
  | none=>
   rw[(h.none_ rfl).1,fo,fo,htabs]
  | some b=>
   obtain⟨b',hb',hline,hcom⟩:=h.some_ b rfl;subst hb';have hle:bp (some b)<=i:=hk.le;have hy0:b.com=false->y.l≠ []:=fun q k=>by
    have hbp:bp (some b)=b.tok.toNat + 1:=by
     show(if b.com then _ else _)=_;rw[q];rfl
    have hr:=h.rel;rw[hbp]at hr;rcases hr with ⟨g,_⟩ | ⟨t0,u,_,g,_⟩
    ·have:=congrArg List.length g;simp only[dg,aQ]at this;omega
    ·rw[k]at g;cases g
   have hi0:b.com=false->0 < i:=fun q=>by
    have hbp:bp (some b)=b.tok.toNat + 1:=by
     show(if b.com then _ else _)=_;rw[q];rfl
    omega
   have hy1:b.com=false->y1.l≠ []:=fun q=>by
    rw[e1];cases hbr:aC l b (aJ i t)with
    | true=>
     rw[(dQ hbr y).1,cN];split
     ·simp
     ·exact hy0 q
    | false=>rw[(fa hbr y).1];exact hy0 q
   have hbr:aC l b (aJ i t)=aC l' b' (aJ y1.l.length t'):=by
    cases q:b.com with
    | true=>rw[ir q,ir (by rw[hcom];exact q)]
    | false=>exact o7 (by omega) (hi0 q) hcom hl ht hg cx (fun _=>hy1 q)
   rw[eI,eI,<-hbr,<-htabs];cases hbk:aC l b (aJ i t)with
   | true=>
    have hg1:cH l src b (aJ i t)=cH l' (linesP T) b' (aJ y1.l.length t'):=by
     refine gA (y:=y) ?_ hsh hline ?_ (hgap b rfl hbk)
     ·show isO (bc l i) [123]=isO (bc l' y1.l.length) [123];rw[hl,(fl _ (au _)).1];exact dX cx.lw
     ·show t'.line=_;rw[et];show((y1.line:Nat):Int)=_;rw[e1,(dQ hbk y).2.2]
    rw[if_pos rfl,if_pos rfl,hg1]
   | false=>
    have hbc:b.com=false:=by
     cases q:b.com with
     | false=>rfl
     | true=>rw[ir q]at hbk;cases hbk
    have ey:y1.l=y.l:=by rw[e1];exact(fa hbk y).1
    rw[ey]at cx hl|-;have hsp:=nO h hk hg hbc hl ht cx;simp only[aa,if_false];show(if false=true then spB else if cA l i then spB else⟨#[]⟩)=(if false=true then spB else if cA l' y.l.length then spB else⟨#[]⟩)
    rw[hsp]
 ·show(tk l i).text=(tk l' y1.l.length).text;rw[bk hg,e3];exact ht.2 h6
 ·have ey2:(Pc.ap y1 (.tok t.kind t.text.data.toList)).l=y1.l ++ [t']:=by rw[et];rfl
  have hk6:t'.kind≠6:=by rw[<-ht.1];exact h6
  obtain⟨s1,s2⟩:=jD (a:=y1.l) hk6;have elr:bc l (i + 1)=t:=by
   unfold bc;rw[bk hg,if_neg (by simpa using h6)]
  have epv:pvR l (i + 1)=if 1<=i then tk l (i - 1)else zeroT:=by
   have:atR l (i + 1)=i:=by
    unfold atR;rw[bk hg,if_neg (by simpa using h6)]
   unfold pvR;rw[this]
  have ebp:bp (some (aJ i t))=i + 1:=rfl;have elast:bo (Pc.ap y1 (.tok t.kind t.text.data.toList))=ends t:=by
   unfold bo;rw[ey2,ar,aO];exact(ia ht).symm
  refine⟨hli,?_,?_,?_,?_,?_,?_,fun b q k=> ?_,fun b q k=> ?_,(fun q=>by cases q),fun b q=> ?_⟩
  ·rw[elast,ey2,ebp,bu,ai,<-hsync,jc hg h6 hor];have ek:bA t'=bA t:=by
    unfold Gr.bA;rw[<-ht.1,if_neg h6,if_neg h6,ht.2 h6]
   show _ ++([bA t'] ++ _)=_;rw[ek];rfl
  ·rw[ebp,ey2,gS hg,iq,iq,cx.opn];exact nR ht
  ·rw[ebp,ey2,elr,s1];exact ht
  ·rw[ebp,ey2,elr,epv,s2];intro q;have hno:isO t [125]=false:=by
    unfold Fo.isO at q|-;rw[ae,beq_iff_eq,beq_iff_eq]at q;rw[q.2,aB];exact .inr rfl
   exact((cx.rel hno).ahead (by omega) valueT (fun t u q=>pY q) (fun u q=>pZ q)).1
  ·rw[ebp,ey2,gS hg];exact .inr ⟨t,t',by rw[ar,aO];rfl,by rw[ar,aO];rfl,.inl ht⟩
  ·rw[ebp,ey2,gS hg,gK,gK,cx.cnt,ht.1]
  ·cases q;cases k
  ·cases q;show(tk l i).kind≠6;rw[bk hg];exact h6
  ·cases q;exact⟨_,rfl,by show t'.line=_;rw[et];rfl,rfl⟩
theorem o4 {T:ByteArray} {p p':Option It} {y y1:SS} {i:Nat} {c:Com} {x':It} {r:List Tok} (h:Iv T l p p' y) (hsem:∀k,cq l 0 k) (hk:Lnk l cs p (aV c)) (hc:c.next=(i:Int)) (hi:i < l.length) (hnote:∀(n:Nat) t,c.next=((n + 1:Nat):Int)->l[n]? =some t->ends t=false)
  (e1:y1=(bP l src p (aV c)).foldl Pc.ap y) (ex:x'=aV ⟨⟨(trimR c.text).data.toList.toArray⟩,y1.at_,y1.line,(Sc.semi y1).l.length⟩) (hli:LI T (Pc.ap y1 (.com (trimR c.text).data.toList))) (hl:l'=(Sc.semi y1).l ++ r)
  (hgap:∀b,p=some b->aC l b (aV c)=true->cH l src b (aV c)=true->((linesP T)[y.line]?).getD ⟨#[]⟩=⟨#[]⟩):
  (cO l src p (aV c)=cO l' (linesP T) p' x'/\cz l (aV c)=cz l' x')/\nw (l.take i)=nw (l'.take (Sc.semi y1).l.length)/\Iv T l (some (aV c)) (some x') (Pc.ap y1 (.com (trimR c.text).data.toList)):=by
 have eti:(aV c).tok.toNat=i:=by show c.next.toNat=i;rw[hc];rfl
 have hle:bp p<=i:=by have:=hk.le;rw[eti]at this;exact this
 have hs:∀k,bp p<=k->k < i->(tk l k).kind=6:=by have:=hk.semis;rw[eti]at this;exact this
 have hl0:0<=y.line:=by have:=h.li.line;omega
 have key:((Sc.semi y1).l=y.l/\bo y=false)\/(∃t6:Tok,t6.kind=6/\(Sc.semi y1).l=y.l ++ [t6]/\bo y=true/\bp p < i):=by
  cases he:bo y with
  | false=>
   refine .inl ⟨?_,rfl⟩;have e2:y1.l=y.l:=by
    rw[e1];cases p with
    | none=>exact(la _ y).1
    | some b=>
     cases hb:aC l b (aV c)with
     | true=>rw[(dQ hb y).1,cN,he];rfl
     | false=>exact(fa hb y).1
   rw[cN,dy e2,he];exact e2
  | true=>
   right;cases p with
   | none=>
    have:=(h.none_ rfl).2;unfold bo at he;rw[this]at he;cases he
   | some b=>
    have hlt:bp (some b)< i:=by
     rcases aT hle with q | q
     ·exfalso
      obtain⟨j,hj,he1,_,_⟩:=jB h he (by omega);have hjl:j < l.length:=by omega
      have:=hnote j (tk l j) (by rw[hc];omega) (by unfold tk;rw[ah hjl];rfl);rw[he1]at this;cases this
     ·exact q
    cases hb:aC l b (aV c)with
    | true=>
     refine⟨⟨6,⟨#[59]⟩,y.at_,y.line,true⟩,rfl,?_,rfl,hlt⟩;have e2:y1.l=(Sc.semi y).l:=by rw[e1];exact(dQ hb y).1
     rw[cN,dy e2,fb,e2,cN,he];rfl
    | false=>
     refine⟨⟨6,⟨#[59]⟩,y1.at_,y1.line,true⟩,rfl,?_,rfl,hlt⟩;have e2:y1.l=y.l:=by rw[e1];exact(fa hb y).1
     rw[cN,dy e2,he,e2];rfl
 have cx:Cx l i (Sc.semi y1).l false:=by
  rcases key with ⟨k1,k2⟩ | ⟨t6,k1,k2,k3,k4⟩
  ·rw[k1];exact iR h hsem (by omega) hle hs (.inl k2) false
  ·rw[k2];exact iQ h (by omega) hle hs k1 false fun _=>k4
 have ex2:x'.com=true:=by rw[ex];rfl
 have ext:x'.tok=((Sc.semi y1).l.length:Int):=by rw[ex];rfl
 have exl:x'.line=y1.line:=by rw[ex];rfl
 have etake:l'.take (Sc.semi y1).l.length=(Sc.semi y1).l:=by rw[hl,bZ]
 have hsh0:bN l (aV c)=false:=rfl;have hsh1:bN l' x'=false:=by unfold bN;rw[ex2];rfl
 have hsh:bN l (aV c)=bN l' x':=by rw[hsh0,hsh1]
 have htabs:aW l (aV c)=aW l' x':=kn (i:=i) (b:=(Sc.semi y1).l) (by omega) hc ext hl hsh (by rw[hsh0];exact cx);refine⟨⟨?_,?_⟩,by rw[etake];exact cx.cnt,?_⟩
 ·cases p with
  | none=>rw[(h.none_ rfl).1,fo,fo,htabs]
  | some b=>
   obtain⟨b',hb',hline,hcom⟩:=h.some_ b rfl;subst hb';have e5:aC l b (aV c)=(b.com || b.line !=c.line):=rfl;have e6:aC l' b' x'=(b'.com || b'.line !=y1.line):=by unfold aC;rw[ex2,exl];rfl
   have hbr:aC l b (aV c)=aC l' b' x':=by
    rw[e6,hcom,hline];cases hbk:aC l b (aV c)with
    | true=>
     have:((y.line:Int) !=(y1.line:Int))=true:=by
      rw[bne_iff_ne,e1,(dQ hbk y).2.2];split <;> omega
     rw[this,Bool.or_true]
    | false=>
     have h1:b.com=false:=by
      rw[e5,Bool.or_eq_false_iff]at hbk;exact hbk.1
     have:((y.line:Int) !=(y1.line:Int))=false:=by
      rw[e1,(fa hbk y).2.2];simp
     rw[h1,this];rfl
   rw[eI,eI,<-hbr,<-htabs];cases hbk:aC l b (aV c)with
   | true=>
    have hg1:cH l src b (aV c)=cH l' (linesP T) b' x':=by
     refine gA (y:=y) ?_ hsh hline ?_ (hgap b rfl hbk)
     ·rw[eti,ext,bS,hl,(fl _ (au _)).1];exact dX cx.lw
     ·rw[exl,e1,(dQ hbk y).2.2]
    rw[if_pos rfl,if_pos rfl,hg1]
   | false=>
    simp only[aa,if_false];rw[if_pos (show(aV c).com=true from rfl),if_pos ex2]
 ·rw[ex];show trimR c.text=trimR ⟨(trimR c.text).data.toList.toArray⟩;rw[jV,pV]
 ·have ebp:bp (some (aV c))=i:=eti;have ey2:(Pc.ap y1 (.com (trimR c.text).data.toList)).l=(Sc.semi y1).l:=rfl;have el:bo (Pc.ap y1 (.com (trimR c.text).data.toList))=false:=by rw[dy ey2,fb]
  refine⟨hli,?_,?_,?_,?_,?_,?_,fun b q k=>el,fun b q k=> ?_,(fun q=>by cases q),fun b q=> ?_⟩
  ·rw[el,ey2,ebp];have hsync:=h.sync;rcases key with ⟨k1,k2⟩ | ⟨t6,k1,k2,k3,k4⟩
   ·rw[k2,gd (i - bp p) (bp p) i (by omega) hs]at hsync;rw[k1];exact hsync
   ·rw[k3,jd k4 hs]at hsync;rw[k2,bu,ai,<-hsync];have ek:bA t6=(6,⟨#[]⟩):=by unfold Gr.bA;rw[k1];rfl
    show _ ++([bA t6] ++ _)=_;rw[ek];rfl
  ·rw[ebp,ey2];exact cx.opn
  ·rw[ebp,ey2];exact cx.lw
  ·rw[ebp,ey2];exact cx.pv
  ·rw[ebp,ey2];exact cx.rel rfl
  ·rw[ebp,ey2];exact cx.cnt
  ·cases q;cases k
  ·cases q;refine⟨x',rfl,?_,ex2⟩;rw[exl];show((y1.line:Nat):Int)=((Sc.semi y1).line:Int)
   rw[semi_line]
end Rf
end Go.Proofs.Dm
namespace Go.Proofs.Dm
open Go Go.Proofs Go.Proofs.Dm.Sc
open Fo (isO zeroT LS nlB spB pad trimR valueT spaceT linesP)
open Pc (Sep GV V Facts Reads)
open Gr (ss0 aR tokAt bL cP bA bq bm cq LI)
namespace Rf
variable {l l':List Tok} {cs:List Com} {src src':List ByteArray}
theorem gH {T:ByteArray}:∀(a rest:List Pc) (y:SS),Reads (T.data.toList.drop y.at_) (a ++ rest)->LI T y->LI T (a.foldl Pc.ap y)/\Reads (T.data.toList.drop (a.foldl Pc.ap y).at_) rest
 | [],rest,y,h,g=>⟨g,h⟩
 | p::a,rest,y,h,g=>by
  rw[aw]at h;generalize hr:T.data.toList.drop y.at_=r at h;cases h with
  | @cons _ _ r' _ hq hr'=>
   have hst:=Pc.fu hr;rw[hq]at hst;simp only[cB]at hst;have hlt:y.at_ < T.size:=by
    cases h0:r with
    | nil=>rw[h0]at hq;cases hq
    | cons c r0=>rw[h0]at hr;exact(Pc.dR hr).1
   rw[bM];refine gH a rest _ ?_ (LI.step hlt g hst);rw[Pc.dU,<-cu,hr,(Pc.ef hq).1,fA];exact hr'
theorem kh (y:SS) (q:Pc):∃r,(Pc.ap y q).l=y.l ++ r:=by
 have hs:∃r,(Sc.semi y).l=y.l ++ r:=by
  rw[cN];split
  ·exact⟨_,rfl⟩
  ·exact⟨[],by simp⟩
 cases q with
 | sp b=>exact⟨[],by simp[Pc.ap]⟩
 | nl=>exact hs
 | com w=>exact hs
 | tok k w=>exact⟨_,rfl⟩
theorem k8:∀(ps:List Pc) (y:SS),∃r,(ps.foldl Pc.ap y).l=y.l ++ r
 | [],y=>⟨[],by simp⟩
 | q::ps,y=>by
  obtain⟨r1,h1⟩:=kh y q;obtain⟨r2,h2⟩:=k8 ps (Pc.ap y q);exact⟨r1 ++ r2,by rw[bM,h2,h1,ai]⟩
theorem o3 (y:SS):∃r,ended y=y.l ++ r:=by
 unfold ended;rw[cN];split
 ·exact⟨_,by rw[ai]⟩
 ·exact⟨_,rfl⟩
theorem nN {T:ByteArray} {p p':Option It} {y:SS} (hF:Facts l cs) (h:Iv T l p p' y) (hk:Lk l cs p []) (hl:l'=ended (Pc.ap y .nl)):l'.map bA=bq false l:=by
 obtain⟨n,hn,h7,hle,hs⟩:=hk;obtain⟨ls,e,f1,f2,f3⟩:=hF.fin;have hln:ls.length=n:=by
  have:=congrArg List.length f1;simp only[aE,aX]at this;omega
 have hsy:(Pc.ap y .nl).l=(Sc.semi y).l:=rfl;have el:bo (Pc.ap y .nl)=false:=by rw[dy hsy,fb]
 have e1:l'.map bA=(Sc.semi y).l.map bA ++ [(7,⟨#[]⟩)]:=by
  rw[hl];unfold ended;rw[cN,el];simp only[aa,if_false];rw[hsy,bu];rfl
 have eg:l[n]? =some e:=by
  rw[f1,<-hln,du]
 have e7:e.kind=7:=by
  have:=bk eg;rw[<-this];exact h7
 have edrop:bq false (l.drop n)= [(7,⟨#[]⟩)]:=by
  rw[jc (e:=false) eg (by rw[e7];decide) (.inl rfl),aI (by omega)];unfold Gr.bq;rw[f2]
 have hsync:=h.sync;rw[e1];cases he:bo y with
 | false=>
  rw[he,gd (n - bp p) (bp p) n (by omega) hs,edrop]at hsync;rw[cN,he];exact hsync
 | true=>
  have hlt:bp p < n:=by
   cases p with
   | none=>
    have:=(h.none_ rfl).2;unfold bo at he;rw[this]at he;cases he
   | some b=>
    rcases aT hle with q | q
    ·exfalso
     obtain⟨j,hj,he1,_,_⟩:=jB h he (by omega);have hjl:j < ls.length:=by omega
     have e2:ls.getLast? =some (tk l j):=by
      rw[aH,show ls.length - 1=j by omega];unfold tk;rw[f1,aS hjl,ah hjl];rfl
     have:=f3 _ e2;rw[he1]at this;cases this
    ·exact q
  rw[he,jd hlt hs,edrop]at hsync;rw[cN,he,if_pos rfl,bu,ai,<-hsync];rfl
theorem nM {T:ByteArray} {p:Option It} {y:SS} {x:It} {rest:List Pc} (hli:LI T y) (hr:Reads (T.data.toList.drop y.at_) (bP l src p x ++ rest)):∀b,p=some b->aC l b x=true->cH l src b x=true->((linesP T)[y.line]?).getD ⟨#[]⟩=⟨#[]⟩:=by
 intro b hb h1 h2;subst hb;have hd:=hr.bytes;have e:((bP l src (some b) x ++ rest).map Pc.bytes).flatten=10::10::((bw (aW l x).toNat ++ rest).map Pc.bytes).flatten:=by
  rw[eH,if_pos h1,if_pos h2];rfl
 rw[e]at hd;exact nP hli hd
theorem jb {T:ByteArray} (hF:Facts l cs) (hsem:∀k,cq l 0 k):∀(xs:List It) (p p':Option It) (y:SS),Lk l cs p xs->Iv T l p p' y->Reads (T.data.toList.drop y.at_) (bF l src p xs ++ [.nl])->l'=ended ((bF l src p xs ++ [Pc.nl]).foldl Pc.ap y)->
  SE l l' src (linesP T) p p' xs (pIt y (bF l src p xs ++ [.nl]))/\l'.map bA=bq false l
 | [],p,p',y,hk,h,hr,hl=>⟨.nil,nN hF h hk hl⟩
 | x::xs,p,p',y,hk,h,hr,hl=>by
  have e:bF l src p (x::xs)++ [.nl]=bP l src p x ++(itQ l x::(bF l src (some x) xs ++ [.nl])):=by
   show(bP l src p x ++ itQ l x::bF l src (some x) xs)++ [Pc.nl]=_;rw[ai];rfl
  rw[e]at hr hl|-;obtain⟨hk1,hk2⟩:=hk;have hgap:=nM h.li hr;obtain⟨_,r1⟩:=gH _ _ _ hr h.li;obtain⟨g2,r2⟩:=gH [itQ l x] (bF l src (some x) xs ++ [.nl]) _ r1 (gH _ _ _ hr h.li).1;rw[il _ _ _ (ie l src p x)];generalize ey:(bP l src p x).foldl Pc.ap y=y1 at *;have hl2:l'=ended ((bF l src (some x) xs ++ [Pc.nl]).foldl Pc.ap (Pc.ap y1 (itQ l x))):=by
   rw[hl,cg,ey];rfl
  obtain⟨ra,ha⟩:=k8 (bF l src (some x) xs ++ [.nl]) (Pc.ap y1 (itQ l x));obtain⟨rb,hb⟩:=o3 ((bF l src (some x) xs ++ [Pc.nl]).foldl Pc.ap (Pc.ap y1 (itQ l x)));have hext:l'=(Pc.ap y1 (itQ l x)).l ++(ra ++ rb):=by rw[hl2,hb,ha,ai]
  cases hc:x.com with
  | false=>
   obtain⟨i,t,rfl,hg,h6,h7⟩:=hk1.tok hc;have eq:itQ l (aJ i t)= .tok t.kind t.text.data.toList:=by show Pc.tok (tk l i).kind (tk l i).text.data.toList=_;rw[bk hg]
   rw[eq]at r1 r2 g2 hl2 hext|-;obtain⟨⟨s1,s2⟩,s3,s4⟩:=o5 (l':=l') (r:=ra ++ rb) h hsem hk1 hg h6 ey.symm rfl g2 (by rw[hext];show(y1.l ++ [_])++ _=_;rw[ai];rfl) hgap;obtain⟨k1,k2⟩:=jb hF hsem xs _ _ _ hk2 s4 r2 hl2;refine⟨?_,k2⟩;have eo:one y1 (.tok t.kind t.text.data.toList)= [aJ y1.l.length ⟨t.kind,⟨t.text.data.toList.toArray⟩,y1.at_,y1.line,false⟩]:=by
    show(if(t.kind !=6&&t.kind !=7)=true then _ else _)=_;rw[if_pos];rw[ae,bne_iff_ne,bne_iff_ne];exact⟨h6,h7⟩
   show SE l l' src (linesP T) p p' _ (one y1 (.tok t.kind t.text.data.toList)++ pIt _ _);rw[eo];exact .cons s1 s2 rfl s3 k1
  | true=>
   obtain⟨c,hm,i,rfl,hn,hi⟩:=hk1.com hc;have eq:itQ l (aV c)= .com (trimR c.text).data.toList:=rfl;rw[eq]at r1 r2 g2 hl2 hext|-;obtain⟨⟨s1,s2⟩,s3,s4⟩:=o4 (l':=l') (r:=ra ++ rb) h hsem hk1 hn hi (hF.note c hm) ey.symm rfl g2 hext hgap;obtain⟨k1,k2⟩:=jb hF hsem xs _ _ _ hk2 s4 r2 hl2;refine⟨?_,k2⟩;show SE l l' src (linesP T) p p' _ (one y1 (.com (trimR c.text).data.toList)++ pIt _ _);have et:(aV c).tok.toNat=i:=by show c.next.toNat=i;rw[hn];rfl
   exact .cons s1 s2 rfl (by rw[et];exact s3) k1
def itE:List Tok->Nat->List Com->List It
 | [],_,cs=>cs.map aV
 | t::ts,i,cs=>(a8 i cs).1.map aV ++((if t.kind !=6&&t.kind !=7 then [aJ i t]else [])++ itE ts (i + 1) (a8 i cs).2)
theorem kZ (i:Nat):∀cs:List Com,(∀c∈cs,c.next<=(i:Int))->a8 i cs=(cs,[])
 | [],h=>rfl
 | c::cs,h=>by
  unfold a8;rw[if_pos (h c (by simp)),kZ i cs fun d hd=>h d (by simp[hd])]
theorem mn (i:Nat) (c:Com) (h:(i:Int)< c.next):∀cs:List Com,a8 i (cs ++ [c])=((a8 i cs).1,(a8 i cs).2 ++ [c])
 | []=>by
  show a8 i [c]=_;unfold a8;rw[if_neg (by omega)];rfl
 | d::cs=>by
  rw[aw];unfold a8;split
  ·rw[mn i c h cs]
  ·rfl
theorem gG:∀(l:List Tok) (i:Nat) (cs:List Com) (t:Tok),(∀c∈cs,c.next<=((i + l.length:Nat):Int))->itE (l ++ [t]) i cs=itE l i cs ++ if t.kind !=6&&t.kind !=7 then [aJ (i + l.length) t]else []
 | [],i,cs,t,h=>by
  show itE [t] i cs=_;unfold itE;rw[kZ i cs fun c hc=>by have:=h c hc;simp only[aQ]at this;omega];show cs.map aV ++(_ ++ itE [] (i + 1) [])=_;simp only[itE,List.map_nil,aZ,aQ,dG]
 | u::l,i,cs,t,h=>by
  rw[aw];unfold itE;rw[gG l (i + 1) _ t fun c hc=>by
   have:=h c (by rw[fN i cs];simp[hc]);simp only[av]at this;omega]
  simp only[ai,av,fT,Nat.add_comm 1 l.length]
theorem km:∀(l:List Tok) (i:Nat) (cs:List Com) (c:Com),c.next=((i + l.length:Nat):Int)->itE l i (cs ++ [c])=itE l i cs ++ [aV c]
 | [],i,cs,c,h=>by simp[itE]
 | u::l,i,cs,c,h=>by
  unfold itE;simp only[av]at h;rw[mn i c (by omega) cs,km l (i + 1) _ c (by omega)];simp only[ai]
theorem lQ:∀(l:List Tok) (i:Nat) (cs:List Com),(∀c∈cs,(i:Int)<=c.next/\c.next <((i + l.length:Nat):Int))->cs.Pairwise (fun b c=>b.line < c.line/\b.next<=c.next)->itE l i cs=bQ l i cs
 | [],i,cs,h,hp=>by
  cases cs with
  | nil=>rfl
  | cons c cs=>have:=h c (by simp);simp only[aQ]at this;omega
 | t::l,i,cs,h,hp=>by
  unfold itE bQ;rw[lQ l (i + 1) (a8 i cs).2 (fun c hc=>by
   have h1:=gW i cs hp c hc;have h2:=h c (by rw[fN i cs];simp[hc]);simp only[av]at h2;omega) (by
   have hp2:=hp;rw[fN i cs]at hp2;exact(di.1 hp2).2.1)]
theorem kY {y:SS} (h:∀c∈y.c,c.next<=(y.l.length:Int)):itE (Sc.semi y).l 0 y.c=itE y.l 0 y.c/\∀c∈y.c,c.next<=((Sc.semi y).l.length:Int):=by
 rw[cN];split
 ·rw[gG _ _ _ _ (by simpa using h)];refine⟨by simp,fun c hc=> ?_⟩;have:=h c hc;simp only[aE,aX];omega
 ·exact⟨rfl,h⟩
theorem gr:∀(qs:List Pc) (y:SS),(∀c∈y.c,c.next<=(y.l.length:Int))->itE (qs.foldl Pc.ap y).l 0 (qs.foldl Pc.ap y).c=itE y.l 0 y.c ++ pIt y qs/\∀c∈(qs.foldl Pc.ap y).c,c.next<=((qs.foldl Pc.ap y).l.length:Int)
 | [],y,h=>⟨by simp[pIt],h⟩
 | q::qs,y,h=>by
  have key:itE (Pc.ap y q).l 0 (Pc.ap y q).c=itE y.l 0 y.c ++ one y q/\∀c∈(Pc.ap y q).c,c.next<=((Pc.ap y q).l.length:Int):=by
   obtain⟨s1,s2⟩:=kY h;cases q with
   | sp b=>exact⟨by simp[Pc.ap,one],h⟩
   | nl=>
    have e1:(Pc.ap y .nl).l=(Sc.semi y).l:=rfl;have e2:(Pc.ap y .nl).c=y.c:=semi_c y;rw[e1,e2];exact⟨by rw[s1];simp[one],s2⟩
   | com w=>
    have e1:(Pc.ap y (.com w)).l=(Sc.semi y).l:=rfl;have e2:(Pc.ap y (.com w)).c=y.c ++ [⟨⟨w.toArray⟩,y.at_,y.line,(Sc.semi y).l.length⟩]:=rfl;rw[e1,e2];refine⟨by rw[km _ _ _ _ (by simp),s1];rfl,fun c hc=> ?_⟩;simp only[ao,aj]at hc;rcases hc with hc | rfl
    ·exact s2 c hc
    ·exact cM _
   | tok k w=>
    have e1:(Pc.ap y (.tok k w)).l=y.l ++ [⟨k,⟨w.toArray⟩,y.at_,y.line,false⟩]:=rfl;have e2:(Pc.ap y (.tok k w)).c=y.c:=rfl;rw[e1,e2,gG _ _ _ _ (by simpa using h)];refine⟨by simp only[one,c9],fun c hc=> ?_⟩;have:=h c hc;simp only[aE,aX];omega
  obtain⟨k1,k2⟩:=key;obtain⟨g1,g2⟩:=gr qs (Pc.ap y q) k2;refine⟨?_,g2⟩;rw[bM,g1,k1,ai];rfl
theorem mc {T:ByteArray} (hf:(scanP T).2.2 < 0) {qs:List Pc} (h:aR T=qs.foldl Pc.ap ss0):bQ (scanP T).1 0 (scanP T).2.1=pIt ss0 qs:=by
 obtain⟨e1,e2,_⟩:=Gr.eJ hf;have hs:=Gr.cW hf;rw[<-lQ _ _ _ (fun c hc=>by have:=hs.next c hc;simpa using this) hs.cpair,e1,e2];obtain⟨g1,g2⟩:=gr qs ss0 (fun c hc=>by cases hc);rw[<-h]at g1 g2;obtain⟨s1,s2⟩:=kY g2;unfold ended;rw[gG _ _ _ _ (by simpa using s2),s1,g1];simp[itE];rfl
theorem iv0 (T:ByteArray) (l:List Tok):Iv T l none none ss0:=by
 refine⟨⟨br _,rfl,(fun t ht=>by cases ht),List.Pairwise.nil,(fun t ht=>by cases ht),List.Pairwise.nil,(fun t ht=>by cases ht),(fun t ht=>by cases ht)⟩,rfl,rfl,Gr.jH,fun q=>rfl,.inl ⟨rfl,rfl⟩,rfl,(fun b q=>by cases q),(fun b q=>by cases q),fun _=>⟨rfl,rfl⟩,(fun b q=>by cases q)⟩
theorem mQ {s:ByteArray} (h:Gr.Parsed s) (h2:(bY s).size<=2000):(scanP (bY s)).2.2 < 0/\(scanP (bY s)).1.map bA=bq false (scanP s).1/\
  SE (scanP s).1 (scanP (bY s)).1 (linesP s) (linesP (bY s)) none none (bQ (scanP s).1 0 (scanP s).2.1) (bQ (scanP (bY s)).1 0 (scanP (bY s)).2.1)/\bY (bY s)=bY s:=by
 obtain⟨h3,h4⟩:=pd h h2;obtain⟨e1,e2,_⟩:=Gr.eJ h3;have hl:(scanP (bY s)).1=ended ((fg s).foldl Pc.ap ss0):=by rw[e1,h4]
 obtain⟨k1,k2⟩:=jb (T:=bY s) (Pc.jZ h.scan) h.sem (src:=linesP s) (bQ (scanP s).1 0 (scanP s).2.1) none none ss0 (gL (Gr.cW h.scan)) (iv0 _ _) (jW h).1 hl;have k1':SE (scanP s).1 (scanP (bY s)).1 (linesP s) (linesP (bY s)) none none (bQ (scanP s).1 0 (scanP s).2.1) (bQ (scanP (bY s)).1 0 (scanP (bY s)).2.1):=by
  rw[mc h3 h4];exact k1
 refine⟨h3,k2,k1',?_⟩;show cY (scanP (bY s)).1 (linesP (bY s)) none (bQ (scanP (bY s)).1 0 (scanP (bY s)).2.1) ⟨#[]⟩ ++ nlB=cY (scanP s).1 (linesP s) none (bQ (scanP s).1 0 (scanP s).2.1) ⟨#[]⟩ ++ nlB;rw[k1'.out]
end Rf
end Go.Proofs.Dm
