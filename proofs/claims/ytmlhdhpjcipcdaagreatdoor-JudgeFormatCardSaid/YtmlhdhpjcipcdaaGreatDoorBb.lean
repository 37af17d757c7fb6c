/- Part of the proof: contracts of the functions, walked by the D-machine. No condition. -/
import Derived.Test.YtmlhdhpjcipcdaaGreatDoorYz
import Derived.Test.YtmlhdhpjcipcdaaGreatDoorSb
import Derived.Lib.IndexLaws
import Derived.Lib.IndexBytes
import Derived.Test.YtmlhdhpjcipcdaaGreatDoorHd
import Derived.Test.YtmlhdhpjcipcdaaGreatDoorFh
set_option linter.unusedSimpArgs false
set_option linter.unusedVariables false
set_option maxHeartbeats 4000000
namespace Go.Proofs.Dm
open Go Go.Proofs Go.Proofs.Dm.Sc
namespace Gr
def spl:List UInt8→List (List UInt8)
 | []=> [[]]
 | c::r=>if c=10 then []::spl r else match spl r with
  | h::t=>(c::h)::t
  | []=> [[c]]
theorem spl_ne:∀r:List UInt8,spl r≠ []
 | []=>by simp[spl]
 | c::r=>by
  unfold spl;split
  ·simp
  ·split <;> simp
theorem spl_len:∀r:List UInt8,(spl r).length=r.count 10 + 1
 | []=>rfl
 | c::r=>by
  have ih:=spl_len r;unfold spl;split
  ·rename_i h;subst h;simp[ih]
  ·rename_i h;have e:(c::r).count 10=r.count 10:=by rw[List.count_cons];simp[h]
   rw[e];split
   ·rename_i hd tl hr;rw[hr]at ih;simpa using ih
   ·rename_i hr;exact absurd hr (spl_ne r)
theorem spl_last:∀p:List UInt8,(10:UInt8)∉p→spl p= [p]
 | [],h=>rfl
 | c::r,h=>by
  simp only[List.mem_cons,not_or]at h;unfold spl;rw[if_neg (fun e=>h.1 e.symm),spl_last r h.2]
theorem spl_app:∀(p r:List UInt8),(10:UInt8)∉p→spl (p ++ 10::r)=p::spl r
 | [],r,h=>by
  show spl (10::r)=_;rw[spl,if_pos rfl]
 | c::p,r,h=>by
  simp only[List.mem_cons,not_or]at h;show spl (c::(p ++ 10::r))=_;rw[spl,if_neg (fun e=>h.1 e.symm),spl_app p r h.2]
theorem split_spl:∀(k:Nat) (s:List UInt8),Lib.count s [10]≤k→Lib.splitK [10] 0 k s=spl s
 | k,s,h=>by
  have e:=Lib.index_one s 10;have hge:=Lib.indexByte_ge s 10;rcases Int.lt_or_le (Lib.indexByte s 10) 0 with q | q
  ·have q1:Lib.indexByte s 10= -1:=by omega
   have hno:(10:UInt8)∉s:=by
    intro hm;obtain⟨i,hi⟩:=List.mem_iff_getElem?.1 hm;exact Lib.indexByte_none q1 i hi
   rw[spl_last s hno];cases k with
   | zero=>rfl
   | succ k=>
    unfold Lib.splitK;rw[e,q1];rfl
  ·obtain⟨i,hi⟩:=Int.eq_ofNat_of_zero_le q;obtain⟨h1,h2⟩:=Lib.indexByte_some hi;have hc:=Lib.count_hit (s:=s) (sub:= [10]) (i:=i) (by simp) (by rw[e,hi]);cases k with
   | zero=>omega
   | succ k=>
    unfold Lib.splitK;have hil:i < s.length:=by
     rcases Nat.lt_or_ge i s.length with q | q
     ·exact q
     ·rw[List.getElem?_eq_none q]at h1;cases h1
    have hne:((i:Int)== -1)=false:=by rw[beq_eq_false_iff_ne];omega
    rw[e,hi,hne];simp only[Bool.false_eq_true,if_false,Int.toNat_natCast,Nat.add_zero,List.length_singleton];rw[split_spl k _ (by simp only[List.length_singleton]at hc;omega)];have hs:s=s.take i ++ 10::s.drop (i + 1):=by
     have hd:=List.drop_eq_getElem_cons hil;have hg:s[i]=10:=by
      rw[List.getElem?_eq_getElem hil]at h1;injection h1
     rw[hg]at hd;rw[←hd,List.take_append_drop]
    conv=>rhs;rw[hs]
    rw[spl_app];intro hm;obtain⟨j,hj⟩:=List.mem_iff_getElem?.1 hm;rw[List.getElem?_take]at hj;split at hj
    ·rename_i hji;exact h2 j hji hj
    ·cases hj
termination_by k s _=>k
theorem lines_spl (s:ByteArray):(Fo.linesP s).map (·.data.toList)=spl s.data.toList:=by
 unfold Fo.linesP;rw[Lib.splitB_data];exact split_spl _ _ (Nat.le_refl _)
theorem map_data_inj:∀(a b:List ByteArray),a.map (·.data.toList)=b.map (·.data.toList)→a=b
 | [],[],h=>rfl
 | [],_::_,h=>by simp at h
 | _::_,[],h=>by simp at h
 | x::a,y::b,h=>by
  simp only[List.map_cons,List.cons.injEq]at h;rw[ba_ext h.1,map_data_inj a b h.2]
theorem lines_len (s:ByteArray):(Fo.linesP s).length=s.data.toList.count 10 + 1:=by
 have:=congrArg List.length (lines_spl s);rw[List.length_map,spl_len]at this;exact this
end Gr
open Fo (isO zeroT LS nlB spB pad trimR)
namespace Rf
structure It where
 tok:Int
 line:Int
 note:ByteArray
 com:Bool
def tk (l:List Tok) (i:Nat):Tok:=(l[i]?).getD zeroT
theorem dropWhile_nil {α:Type} {p:α→Bool}:∀{r:List α},r.dropWhile p= []↔∀x∈r,p x=true
 | []=>by simp
 | c::r=>by
  rw[List.dropWhile_cons];split
  ·rename_i h;rw[dropWhile_nil];simp[h]
  ·rename_i h;constructor
   ·intro q;cases q
   ·intro q;exact absurd (q c (by simp)) h
theorem tk_at {l:List Tok} {i:Nat} {t:Tok} (h:l[i]? =some t):tk l i=t:=by unfold tk;rw[h];rfl
def comI (c:Com):It:=⟨c.next,c.line,trimR c.text,true⟩
def tokI (i:Nat) (t:Tok):It:=⟨i,t.line,⟨#[]⟩,false⟩
def takeI (i:Nat):List Com→List Com×List Com
 | []=>([],[])
 | c::cs=>if c.next≤(i:Int)then(c::(takeI i cs).1,(takeI i cs).2)else([],c::cs)
def itemsG:List Tok→Nat→List Com→List It
 | [],_,_=> []
 | t::ts,i,cs=>(takeI i cs).1.map comI ++((if t.kind !=6&&t.kind !=7 then [tokI i t]else [])++ itemsG ts (i + 1) (takeI i cs).2)
def lastR (l:List Tok):Nat→Tok
 | 0=>zeroT
 | n + 1=>if(tk l n).kind==6 then lastR l n else tk l n
def atR (l:List Tok):Nat→Nat
 | 0=>0
 | n + 1=>if(tk l n).kind==6 then atR l n else n
def onR (a:Tok):Bool:=a.kind !=6&& !isO a [123]&& !isO a [125]
def shutR (l:List Tok) (x:It):Bool:= !x.com&&isO (tk l x.tok.toNat) [125]
def tabsR (l:List Tok) (x:It):Int:=
 let n:=La.opens (l.take x.tok.toNat)
 let m:=if shutR l x then n - 1 else n
 if decide (0 < x.tok)&& !shutR l x then(if onR (tk l (x.tok.toNat - 1))then m + 1 else m)else m
def breaksR (l:List Tok) (b x:It):Bool:=
 if x.com then b.com || b.line !=x.line
 else if b.com then true
 else if isO (lastR l x.tok.toNat) [123]then !isO (tk l x.tok.toNat) [125]
 else if(tk l (x.tok.toNat - 1)).kind==6 then true else isO (tk l x.tok.toNat) [125]
def gapN (src:List ByteArray):Nat→Nat→Bool
 | 0,_=>false
 | n + 1,k=>if(trimR ((src[k]?).getD ⟨#[]⟩)).toList== []then true else gapN src n (k + 1)
def gapR (l:List Tok) (src:List ByteArray) (b x:It):Bool:=
 if isO (lastR l x.tok.toNat) [123] || shutR l x then false else gapN src (x.line - 1 - b.line).toNat b.line.toNat
def spaceR (l:List Tok) (tok:Nat):Bool:=
 let at_:=atR l tok
 Fo.spaceT (if 1≤at_ then tk l (at_ - 1)else zeroT) (tk l at_) (tk l tok)
def textR (l:List Tok) (x:It):ByteArray:=if x.com then x.note else(tk l x.tok.toNat).text
def sepR (l:List Tok) (src:List ByteArray):Option It→It→ByteArray
 | none,x=>pad (tabsR l x).toNat
 | some b,x=>if breaksR l b x then(if gapR l src b x then nlB ++ nlB else nlB)++ pad (tabsR l x).toNat
  else if x.com then spB else if spaceR l x.tok.toNat then spB else⟨#[]⟩
def outR (l:List Tok) (src:List ByteArray):Option It→List It→ByteArray→ByteArray
 | _,[],o=>o
 | p,x::xs,o=>outR l src (some x) xs (o ++ sepR l src p x ++ textR l x)
def layR (l:List Tok) (cs:List Com) (src:List ByteArray):ByteArray:=outR l src none (itemsG l 0 cs) ⟨#[]⟩ ++ nlB
theorem spl_short:∀(r:List UInt8),∀p∈Gr.spl r,p.length≤r.length
 | [],p,h=>by
  simp only[Gr.spl,List.mem_singleton]at h;subst h;exact Nat.le_refl _
 | c::r,p,h=>by
  have ih:=spl_short r;unfold Gr.spl at h;split at h
  ·simp only[List.mem_cons]at h;rcases h with rfl | h
   ·exact Nat.zero_le _
   ·have:=ih p h;simp only[List.length_cons];omega
  ·split at h
   ·rename_i hd tl hr;simp only[List.mem_cons]at h;rcases h with rfl | h
    ·have:=ih hd (by rw[hr];simp);simp only[List.length_cons];omega
    ·have:=ih p (by rw[hr];simp[h]);simp only[List.length_cons];omega
   ·simp only[List.mem_singleton]at h;subst h;simp
theorem lines_short (s:ByteArray):∀x∈Fo.linesP s,x.size≤s.size:=by
 intro x hx;have h1:x.data.toList∈(Fo.linesP s).map (·.data.toList):=List.mem_map_of_mem (f:=fun x:ByteArray=>x.data.toList) hx;rw[Gr.lines_spl]at h1;have:=spl_short _ _ h1;rw[ba_size,ba_size];exact this
end Rf
end Go.Proofs.Dm
set_option maxHeartbeats 4000000
namespace Go.Proofs.Dm
open Go Go.Proofs Go.Proofs.Dm.Sc
namespace Gr
variable {α β:Type} {l:List Tok} {P:Nat→Prop}
def ob (l:List Tok) (i:Nat):Int:=La.opens (l.take i)
theorem ob_next (l:List Tok) (i:Nat):ob l (i + 1)=La.opT (ob l i) (tokAt l i):=by
 unfold ob;cases h:l[i]? with
 | some t=>
  rw[La.opens_take l i t h];simp only[tokAt,h,Option.getD_some]
 | none=>
  have e:l.take (i + 1)=l.take i:=by rw[List.take_add_one,h];simp
  rw[e];simp only[tokAt,h,Option.getD_none];rfl
def nbr (l:List Tok) (i:Nat):Prop:=Fo.isO (tokAt l i) [123]=false∧Fo.isO (tokAt l i) [125]=false
theorem ob_nbr {i:Nat} (h:nbr l i):ob l (i + 1)=ob l i:=by
 rw[ob_next];unfold La.opT;rw[h.1,h.2];rfl
def Bal (l:List Tok) (m:Nat) (a a':Nat):Prop:=a≤a'∧ob l a'=ob l a∧∀i,a≤i→i≤a'→ob l a≤ob l i∧ob l i≤ob l a + m
theorem Bal.refl {m a:Nat}:Bal l m a a:=⟨Nat.le_refl _,rfl,fun i h g=>by
 have:i=a:=by omega
 subst this;omega⟩
theorem Bal.trans {m a b c:Nat} (h:Bal l m a b) (g:Bal l m b c):Bal l m a c:=by
 refine⟨Nat.le_trans h.1 g.1,g.2.1.trans h.2.1,fun i h1 h2=> ?_⟩;rcases Nat.le_total i b with q | q
 ·exact h.2.2 i h1 q
 ·have:=g.2.2 i q h2;have:=h.2.1;omega
theorem Bal.mono {m n a b:Nat} (h:Bal l m a b) (hm:m≤n):Bal l n a b:=⟨h.1,h.2.1,fun i h1 h2=>by have:=h.2.2 i h1 h2;omega⟩
theorem Bal.one {m a:Nat} (h:nbr l a):Bal l m a (a + 1):=by
 have e:=ob_nbr h;refine⟨by omega,e,fun i h1 h2=> ?_⟩;have:i=a∨i=a + 1:=by omega
 rcases this with rfl | rfl <;> omega
def Br (l:List Tok) (P:Nat→Prop) (s:G α):Prop:=∀d a x a',d≤40→P a→s d a= .ok x a'→Bal l (40 - d) a a'
theorem bind_ok {s:G α} {t:α→G β} {d a:Nat} {x:β} {a':Nat} (h:Gr.bind s t d a= .ok x a'):∃y b,s d a= .ok y b∧t y d b= .ok x a':=by
 unfold Gr.bind at h;cases hs:s d a with
 | ok y b=>rw[hs]at h;exact⟨y,b,rfl,h⟩
 | bad k=>rw[hs]at h;cases h
 | out=>rw[hs]at h;cases h
theorem Br.use {s:G α} (h:Br l Any s):Br l P s:=fun d a x a' hd _ q=>h d a x a' hd True.intro q
theorem Br.bind {s:G α} {t:α→G β} (h:Br l P s) (ht:∀x,Br l Any (t x)):Br l P (Gr.bind s t):=by
 intro d a x a' hd hp q;obtain⟨y,b,h1,h2⟩:=bind_ok q;exact(h d a y b hd hp h1).trans (ht y d b x a' hd True.intro h2)
theorem adv_ok {d a:Nat} {x:Int} {a':Nat} (h:adv l d a= .ok x a'):a'=a + 1∧(tokAt l a).kind≠7:=by
 unfold adv at h;split at h
 ·cases h
 ·rename_i q;cases h;exact⟨rfl,by simpa using q⟩
theorem Br.adv {t:Int→G β} (hp:∀a,P a→nbr l a) (ht:∀x,Br l Any (t x)):Br l P (Gr.bind (adv l) t):=Br.bind (fun d a x a' hd h q=>by
 obtain⟨rfl,_⟩:=adv_ok q;exact Bal.one (hp a h)) ht
theorem nbr_kind {i:Nat} (h:(tokAt l i).kind≠4):nbr l i:=by
 have:((tokAt l i).kind==4)=false:=by simpa using h
 exact⟨by unfold Fo.isO;rw[this];rfl,by unfold Fo.isO;rw[this];rfl⟩
theorem nbr_text {i:Nat} (h1:(tokAt l i).text.toList≠ [123]) (h2:(tokAt l i).text.toList≠ [125]):nbr l i:=by
 have e1:((tokAt l i).text.toList== [123])=false:=by simpa using h1
 have e2:((tokAt l i).text.toList== [125])=false:=by simpa using h2
 exact⟨by unfold Fo.isO;rw[e1,Bool.and_false],by unfold Fo.isO;rw[e2,Bool.and_false]⟩
theorem nbr_word {i:Nat} {s:ByteArray} (h:Pp.word (tokAt l i) s=true) (h1:s.data.toList≠ [123]) (h2:s.data.toList≠ [125]):nbr l i:=by
 unfold Pp.word at h;rw[←Lib.toList_data]at h1 h2;rw[Bool.and_eq_true,beq_iff_eq]at h;exact nbr_text (by rw[h.2];exact h1) (by rw[h.2];exact h2)
theorem kind_ok {k:Int} {d a:Nat} {x:Int} {a':Nat} (h:kindG l k d a= .ok x a'):a'=a + 1∧(tokAt l a).kind=k:=by
 unfold kindG at h;split at h
 ·rename_i q;split at h
  ·cases h
  ·cases h;exact⟨rfl,by simpa using q⟩
 ·cases h
theorem want_ok {s:ByteArray} {d a:Nat} {x:Int} {a':Nat} (h:wantG l s d a= .ok x a'):a'=a + 1∧Pp.word (tokAt l a) s=true:=by
 unfold wantG at h;split at h
 ·rename_i q;cases h;exact⟨rfl,q⟩
 ·cases h
theorem Br.kind {k:Int} {t:Int→G β} (hk:k≠4) (ht:∀x,Br l Any (t x)):Br l P (Gr.bind (kindG l k) t):=Br.bind (fun d a x a' hd h q=>by
 obtain⟨rfl,hk'⟩:=kind_ok q;exact Bal.one (nbr_kind (by rw[hk'];exact hk))) ht
theorem Br.want {s:ByteArray} {t:Int→G β} (h1:s.data.toList≠ [123]) (h2:s.data.toList≠ [125]) (ht:∀x,Br l Any (t x)):Br l P (Gr.bind (wantG l s) t):=Br.bind (fun d a x a' hd h q=>by
 obtain⟨rfl,hk'⟩:=want_ok q;exact Bal.one (nbr_word hk' h1 h2)) ht
def PW (l:List Tok) (s:ByteArray) (a:Nat):Prop:=Pp.word (tokAt l a) s=true
theorem Br.isI {s:ByteArray} {A B:G β} (h1:Br l (PW l s) A) (h2:Br l P B):Br l P (Gr.bind (isG l s) fun b=>Gr.ite b A B):=by
 intro d a x a' hd hp q;unfold Gr.bind isG at q;dsimp only[Res.andThen]at q;unfold Gr.ite at q;split at q
 ·rename_i hw;exact h1 d a x a' hd hw q
 ·exact h2 d a x a' hd hp q
def PL (l:List Tok) (P:Nat→Prop) (k:Nat) (t:Tok) (a:Nat):Prop:=P a∧tokAt l (a + k)=t
theorem Br.look {k:Nat} {t:Tok→G β} (ht:∀x,Br l (PL l P k x) (t x)):Br l P (Gr.bind (Gr.look l k) t):=fun d a x a' hd hp q=>ht _ d a x a' hd ⟨hp,rfl⟩ q
theorem Br.here {t:Int→G β} (ht:∀x,Br l P (t x)):Br l P (Gr.bind Gr.here t):=fun d a x a' hd hp q=>ht _ d a x a' hd hp q
theorem semis_bal:∀(n d a:Nat) (x:Unit) (a' m:Nat),semisG l n d a= .ok x a'→Bal l m a a'
 | 0,d,a,x,a',m,h=>by cases h
 | n + 1,d,a,x,a',m,h=>by
  unfold semisG at h;split at h
  ·rename_i hk;exact(Bal.one (nbr_kind (by rw[beq_iff_eq]at hk;omega))).trans (semis_bal n d (a + 1) x a' m h)
  ·cases h;exact Bal.refl
theorem Br.semis {n:Nat} {t:Unit→G β} (ht:∀x,Br l Any (t x)):Br l P (Gr.bind (semisG l n) t):=Br.bind (fun d a x a' hd h q=>semis_bal n d a x a' _ q) ht
theorem Br.iteP {c:Bool} {s t:G α} (h1:c=true→Br l P s) (h2:c=false→Br l P t):Br l P (Gr.ite c s t):=by
 cases c
 ·exact h2 rfl
 ·exact h1 rfl
theorem Br.pure {x:α}:Br l P (Gr.pure x):=fun d a y a' hd hp q=>by
 unfold Gr.pure at q;cases q;exact Bal.refl
theorem Br.fail:Br l P (Gr.fail:G α):=fun d a y a' hd hp q=>by cases q
theorem Br.stop:Br l P (Gr.stop:G α):=fun d a y a' hd hp q=>by cases q
theorem Br.nest {s:G α} (h:Br l P s):Br l P (Gr.nest s):=fun d a y a' hd hp q=>by
 unfold Gr.nest at q;split at q
 ·cases q
 ·exact(h (d + 1) a y a' (by omega) hp q).mono (by omega)
theorem Br.adv2 {Q R:Nat→Prop} {t:Int→Int→G β} (hp:∀a,P a→nbr l a∧nbr l (a + 1)) (ht:∀x y,Br l Any (t x y)):Br l P (Gr.bind (Gr.adv l) fun x=>Gr.bind (Gr.adv l) fun y=>t x y):=by
 intro d a x a' hd h q;obtain⟨y,b,h1,h2⟩:=bind_ok q;obtain⟨z,c,h3,h4⟩:=bind_ok h2;obtain⟨rfl,_⟩:=adv_ok h1;obtain⟨rfl,_⟩:=adv_ok h3;exact((Bal.one (hp a h).1).trans (Bal.one (hp a h).2)).trans (ht _ _ d _ x a' hd True.intro h4)
theorem brace_word {t:Tok} {b:UInt8} (hk:t.kind=5→isIn keys t.text=true) (hb:b=123∨b=125) (h:Pp.word t ⟨#[b]⟩=true):Fo.isO t [b]=true:=by
 unfold Pp.word at h;rw[Bool.and_eq_true,Bool.or_eq_true,beq_iff_eq,beq_iff_eq,beq_iff_eq]at h;have e:t.text.toList= [b]:=by rw[h.2,Lib.toList_data]
 rcases h.1 with q | q
 ·unfold Fo.isO;rw[q,e];simp
 ·exfalso
  have h1:=hk q;simp only[isIn,List.any_eq_true,eqB,beq_iff_eq]at h1;obtain⟨x,hx,he⟩:=h1;rw[e]at he;have h2:keys.all (fun x=> !(x.toList== [123])&& !(x.toList== [125]))=true:=by kernel_rfl
  have h3:=List.all_eq_true.1 h2 x hx;rw[←he]at h3;rcases hb with rfl | rfl <;> simp at h3
def KTs (l:List Tok):Prop:=∀i,(tokAt l i).kind=5→isIn keys (tokAt l i).text=true
theorem br_curlyL {S:GN} (hS:Br l Any S) {N:Nat}:∀(n:Nat) (ks:List Nd),Br l Any (curlyLG l S N n ks)
 | 0,ks=>Br.stop
 | n + 1,ks=>Br.isI Br.pure (Br.bind hS fun x=>Br.isI (Br.use (br_curlyL hS n _)) (Br.kind (by decide) fun _=>Br.semis fun _=>br_curlyL hS n _))
theorem br_curly (hK:KTs l) {S:GN} (hS:Br l Any S) {N:Nat}:Br l Any (curlyG l S N):=by
 intro d a x a' hd _ q;unfold curlyG at q;obtain⟨b0,c0,h0,q⟩:=bind_ok q;unfold isG at h0;cases h0;unfold Gr.ite at q;split at q
 rotate_left
 ·cases q
 rename_i hw;unfold Gr.nest at q;split at q
 ·cases q
 rename_i hd2;obtain⟨y,b,h1,h2⟩:=bind_ok q;obtain⟨rfl,_⟩:=adv_ok h1;obtain⟨z,c,h3,h4⟩:=bind_ok h2;obtain⟨ks,e,h5,h6⟩:=bind_ok h4;obtain⟨w,f,h7,h8⟩:=bind_ok h6;obtain⟨rfl,hw2⟩:=want_ok h7;unfold Gr.pure at h8;cases h8;have B:=(semis_bal N (d + 1) (a + 1) z c (40 -(d + 1)) h3).trans (br_curlyL hS N [] (d + 1) c ks e (by omega) True.intro h5);have o1:=brace_word (hK a) (.inl rfl) hw;have o2:=brace_word (hK e) (.inr rfl) hw2;have e1:ob l (a + 1)=ob l a + 1:=by rw[ob_next];unfold La.opT;rw[if_pos o1]
 have n2:Fo.isO (tokAt l e) [123]=false:=by
  unfold Fo.isO at o2⊢;rw[Bool.and_eq_true,beq_iff_eq,beq_iff_eq]at o2;rw[o2.2,Bool.and_eq_false_iff];right;decide
 have e2:ob l (e + 1)=ob l e - 1:=by rw[ob_next];unfold La.opT;rw[if_neg (by rw[n2];decide),if_pos o2]
 refine⟨by have:=B.1;omega,by have:=B.2.1;omega,fun i g1 g2=> ?_⟩;rcases Nat.lt_or_ge i (a + 1)with q1 | q1
 ·have:i=a:=by omega
  subst this;omega
 ·rcases Nat.lt_or_ge e i with q2 | q2
  ·have:i=e + 1:=by omega
   subst this;have:=B.2.1;omega
  ·have:=B.2.2 i q1 q2;omega
theorem br_typ:Br l P (typG l):=Br.kind (by decide) fun _=>Br.isI (Br.adv (fun a h=>nbr_word h (by decide) (by decide)) fun _=>Br.kind (by decide) fun _=>Br.pure) Br.pure
theorem br_variable {E:GN} (hE:Br l Any E):Br l (PW l ⟨#[118,97,114]⟩) (variableG l E):=Br.adv (fun a h=>nbr_word h (by decide) (by decide)) fun _=>Br.kind (by decide) fun _=>Br.bind br_typ fun _=>Br.isI (Br.adv (fun a h=>nbr_word h (by decide) (by decide)) fun _=>Br.bind hE fun _=>Br.pure) Br.pure
theorem br_constant {E:GN} (hE:Br l Any E):Br l (PW l ⟨#[99,111,110,115,116]⟩) (constantG l E):=Br.adv (fun a h=>nbr_word h (by decide) (by decide)) fun _=>Br.kind (by decide) fun _=>Br.want (by decide) (by decide) fun _=>Br.bind hE fun _=>Br.pure
theorem br_block (hK:KTs l) {S:GN} (hS:Br l Any S) {N:Nat}:Br l Any (blockG l S N):=Br.bind (br_curly hK hS) fun _=>Br.pure
theorem br_structure (hK:KTs l) {N:Nat}:Br l (PW l ⟨#[116,121,112,101]⟩) (structureG l N):=Br.adv (fun a h=>nbr_word h (by decide) (by decide)) fun _=>Br.kind (by decide) fun _=>Br.want (by decide) (by decide) fun _=>Br.bind (br_curly hK (Br.kind (by decide) fun _=>Br.bind br_typ fun _=>Br.pure)) fun _=>Br.pure
theorem br_funcL:∀(n:Nat) (ks:List Nd),Br l Any (funcLG l n ks)
 | 0,ks=>Br.stop
 | n + 1,ks=>Br.isI Br.pure (Br.kind (by decide) fun _=>Br.bind br_typ fun _=>Br.isI (Br.use (br_funcL n _)) (Br.want (by decide) (by decide) fun _=>Br.isI Br.fail (br_funcL n _)))
theorem br_function {C:GN} (hC:Br l Any C) {N:Nat}:Br l (PW l ⟨#[102,117,110,99]⟩) (functionG l C N):=Br.adv (fun a h=>nbr_word h (by decide) (by decide)) fun _=>Br.kind (by decide) fun _=>Br.want (by decide) (by decide) fun _=>Br.bind (br_funcL N []) fun _=>Br.want (by decide) (by decide) fun _=>
 Br.look fun _=>Br.iteP (fun _=>Br.bind br_typ fun _=>Br.bind hC fun _=>Br.pure) (fun _=>Br.bind (Br.use hC) fun _=>Br.pure)
theorem PL.nbr1 {k:Int} {t:Tok} {a:Nat} (hk:k≠4) (hc:(t.kind==k)=true) (h:PL l P 0 t a):nbr l a:=by
 have e:tokAt l a=t:=h.2;rw[beq_iff_eq]at hc;exact nbr_kind (by rw[e,hc];exact hk)
theorem br_leave {w:ByteArray} (h1:w.data.toList≠ [123]) (h2:w.data.toList≠ [125]) (k:Int):Br l (PW l w) (leaveG l k):=Br.adv (fun a h=>nbr_word h h1 h2) fun _=>Br.look fun _=>Br.iteP (fun hc=>Br.adv (fun a h=>PL.nbr1 (by decide) hc h) fun _=>Br.pure) (fun _=>Br.pure)
theorem br_branch {E C R:GN} (hE:Br l Any E) (hC:Br l Any C) (hR:Br l (PW l ⟨#[105,102]⟩) R):Br l (PW l ⟨#[105,102]⟩) (branchG l E C R):=Br.adv (fun a h=>nbr_word h (by decide) (by decide)) fun _=>Br.bind hE fun _=>Br.bind hC fun _=>
 Br.isI (Br.adv (fun a h=>nbr_word h (by decide) (by decide)) fun _=>Br.isI (Br.bind (Br.nest hR) fun _=>Br.pure) (Br.bind hC fun _=>Br.pure)) Br.pure
theorem br_loop {E C:GN} (hE:Br l Any E) (hC:Br l Any C):Br l (PW l ⟨#[102,111,114]⟩) (loopG l E C):=Br.adv (fun a h=>nbr_word h (by decide) (by decide)) fun _=>Br.bind hE fun _=>Br.bind hC fun _=>Br.pure
theorem br_back {E:GN} (hE:Br l Any E):Br l (PW l ⟨#[114,101,116,117,114,110]⟩) (backG l E):=Br.adv (fun a h=>nbr_word h (by decide) (by decide)) fun _=>Br.look fun _=>Br.iteP (fun _=>Br.pure) (fun _=>Br.isI Br.pure (Br.bind (Br.use hE) fun _=>Br.pure))
theorem br_rest {E:GN} (hE:Br l Any E):Br l P (restG l E):=Br.here fun _=>Br.bind (Br.use hE) fun _=>Br.isI (Br.adv (fun a h=>nbr_word h (by decide) (by decide)) fun _=>Br.bind hE fun _=>Br.pure) Br.pure
theorem br_simple {E L:GN} (hE:Br l Any E) (hL:Br l (PW l ⟨#[102,111,114]⟩) L):Br l P (simpleG l E L):=Br.look fun t=>Br.iteP (fun hc=>Br.look fun n=>Br.iteP
  (fun hw=>Br.adv2 (Q:=Any) (R:=Any) (fun a h=>⟨PL.nbr1 (by decide) hc h.1,nbr_word (by rw[h.2];exact hw) (by decide) (by decide)⟩) fun _ _=>Br.bind hE fun _=>Br.pure)
  (fun _=>Br.iteP (fun hw=>Br.adv2 (Q:=Any) (R:=Any) (fun a h=>⟨PL.nbr1 (by decide) hc h.1,nbr_word (by rw[h.2];exact hw) (by decide) (by decide)⟩) fun _ _=>Br.isI (Br.bind hL fun _=>Br.pure) Br.fail) (fun _=>br_rest hE)))
 (fun _=>br_rest hE)
theorem br_stmt {V C K I L R M:GN} (hV:Br l (PW l ⟨#[118,97,114]⟩) V) (hC:Br l (PW l ⟨#[99,111,110,115,116]⟩) C) (hK:Br l Any K) (hI:Br l (PW l ⟨#[105,102]⟩) I) (hL:Br l (PW l ⟨#[102,111,114]⟩) L) (hR:Br l (PW l ⟨#[114,101,116,117,114,110]⟩) R) (hM:Br l Any M):Br l Any (stmtG l V C K I L R M):=
 Br.isI hV (Br.isI hC (Br.isI (Br.use hK) (Br.isI hI (Br.isI hL (Br.isI hR (Br.isI (br_leave (by decide) (by decide) 17) (Br.isI (br_leave (by decide) (by decide) 18) hM)))))))
theorem br_decl {V C S F:GN} (hV:Br l (PW l ⟨#[118,97,114]⟩) V) (hC:Br l (PW l ⟨#[99,111,110,115,116]⟩) C) (hS:Br l (PW l ⟨#[116,121,112,101]⟩) S) (hF:Br l (PW l ⟨#[102,117,110,99]⟩) F):Br l Any (declG l V C S F):=
 Br.isI hV (Br.isI hC (Br.isI hS (Br.isI hF Br.fail)))
theorem rank_brace {s:ByteArray} (h:s.toList= [123]∨s.toList= [125]):Pp.rank s=0:=by
 unfold Pp.rank;rcases h with h | h <;> rw[h] <;> rfl
theorem br_binaryL {Y:Int→GN} (hY:∀r,Br l Any (Y r)):∀(n:Nat) (rk:Int) (x:Nd),Br l Any (binaryLG l Y n rk x)
 | 0,rk,x=>Br.stop
 | n + 1,rk,x=>Br.look fun t=>Br.iteP (fun _=>Br.pure) fun _=>Br.iteP (fun _=>Br.pure) fun _=>Br.iteP (fun _=>Br.pure) fun hr=>Br.adv (fun a h=>by
   have e:tokAt l a=t:=h.2;have hr':Pp.rank t.text≠0:=by simpa using hr
   exact nbr_text (fun q=>hr' (rank_brace (.inl (by rw[←e];exact q)))) (fun q=>hr' (rank_brace (.inr (by rw[←e];exact q)))))
  fun _=>Br.bind (hY _) fun _=>br_binaryL hY n rk _
theorem br_binary {U:GN} {Y:Int→GN} (hU:Br l Any U) (hY:∀r,Br l Any (Y r)) {N:Nat} (rk:Int):Br l Any (binaryG l U Y N rk):=Br.bind hU fun x=>br_binaryL hY N rk x
theorem br_unary {U F:GN} (hU:Br l Any U) (hF:Br l Any F):Br l Any (unaryG l U F):=Br.look fun t=>Br.iteP (fun _=>Br.use hF) fun _=>Br.iteP (fun hu=>Br.nest (Br.adv (fun a h=>by
  have e:tokAt l a=t:=h.2;unfold Pp.unaryS at hu;rw[Bool.or_eq_true,beq_iff_eq,beq_iff_eq]at hu;exact nbr_text (by rw[e];rcases hu with q | q <;> rw[q] <;> decide) (by rw[e];rcases hu with q | q <;> rw[q] <;> decide)) fun _=>Br.bind hU fun _=>Br.pure)) fun _=>Br.use hF
theorem br_first {E:GN} (hE:Br l Any E):Br l Any (firstG l E):=Br.look fun t=>Br.iteP (fun hc=>Br.adv (fun a h=>PL.nbr1 (by decide) hc h) fun _=>Br.pure) fun _=>Br.iteP (fun hc=>Br.adv (fun a h=>PL.nbr1 (by decide) hc h) fun _=>Br.pure) fun _=>
 Br.iteP (fun hc=>Br.adv (fun a h=>PL.nbr1 (by decide) hc h) fun _=>Br.pure) fun _=>Br.isI (Br.nest (Br.adv (fun a h=>nbr_word h (by decide) (by decide)) fun _=>Br.bind hE fun _=>Br.want (by decide) (by decide) fun _=>Br.pure)) Br.fail
theorem br_primL {K:Nd→GN} (hK:∀x,Br l (PW l ⟨#[40]⟩) (K x)):∀(n:Nat) (x:Nd),Br l Any (primLG l K n x)
 | 0,x=>Br.stop
 | n + 1,x=>Br.isI (Br.bind (hK x) fun y=>br_primL hK n y) (Br.isI (Br.adv (fun a h=>nbr_word h (by decide) (by decide)) fun _=>Br.kind (by decide) fun _=>br_primL hK n _) Br.pure)
theorem br_callL {E:GN} (hE:Br l Any E):∀(n:Nat) (ks:List Nd),Br l Any (callLG l E n ks)
 | 0,ks=>Br.stop
 | n + 1,ks=>Br.isI Br.pure (Br.bind hE fun _=>Br.isI (Br.use (br_callL hE n _)) (Br.want (by decide) (by decide) fun _=>Br.isI Br.fail (br_callL hE n _)))
theorem br_call {E:GN} (hE:Br l Any E) {N:Nat} (x:Nd):Br l (PW l ⟨#[40]⟩) (callG l E N x):=Br.nest (Br.adv (fun a h=>nbr_word h (by decide) (by decide)) fun _=>Br.bind (br_callL hE N [x]) fun _=>Br.want (by decide) (by decide) fun _=>Br.pure)
theorem br_prim {E:GN} (hE:Br l Any E) {N:Nat}:Br l Any (primG l (firstG l E) (callG l E N) N):=Br.bind (br_first hE) fun x=>br_primL (fun y=>br_call hE y) N x
theorem br_fileI {N:Nat}:∀(n:Nat) (ks:List Nd),Br l Any (fileIG l N n ks)
 | 0,ks=>Br.stop
 | n + 1,ks=>Br.isI (Br.adv (fun a h=>nbr_word h (by decide) (by decide)) fun _=>Br.kind (by decide) fun _=>Br.kind (by decide) fun _=>Br.semis fun _=>br_fileI n _) Br.pure
theorem br_fileD {D:GN} (hD:Br l Any D) {N:Nat}:∀(n:Nat) (ks:List Nd),Br l Any (fileDG l D N n ks)
 | 0,ks=>Br.stop
 | n + 1,ks=>Br.look fun t=>Br.iteP (fun _=>Br.bind (Br.use hD) fun _=>Br.kind (by decide) fun _=>Br.semis fun _=>br_fileD hD n _) fun _=>Br.pure
theorem br_file {D:GN} (hD:Br l Any D) {N:Nat}:Br l Any (fileG l D N):=Br.want (by decide) (by decide) fun _=>Br.kind (by decide) fun _=>Br.kind (by decide) fun _=>Br.semis fun _=>Br.bind (br_fileI N _) fun _=>Br.bind (br_fileD hD N _) fun _=>Br.pure
structure BrF (l:List Tok) (F:SF):Prop where
 binary:∀r,Br l Any (F.binary r)
 unary:Br l Any F.unary
 block:Br l Any F.block
 branch:Br l (PW l ⟨#[105,102]⟩) F.branch
 stmt:Br l Any F.stmt
theorem sf_br (hK:KTs l) {N:Nat}:∀n,BrF l (sf l N n)
 | 0=>⟨fun _=>Br.stop,Br.stop,Br.stop,Br.stop,Br.stop⟩
 | n + 1=>by
  have h:=sf_br hK (N:=N) n;exact⟨fun r=>br_binary h.unary h.binary r,br_unary h.unary (br_prim (h.binary 1)),br_block hK h.stmt,br_branch (h.binary 1) h.block h.branch,
   br_stmt (br_variable (h.binary 1)) (br_constant (h.binary 1)) h.block h.branch (br_loop (h.binary 1) h.block) (br_back (h.binary 1)) (br_simple (h.binary 1) (br_loop (h.binary 1) h.block))⟩
theorem fileS_br (hK:KTs l) {N n:Nat}:Br l Any (fileS l N (sf l N n)):=by
 have h:=sf_br hK (N:=N) n;exact br_file (br_decl (br_variable (h.binary 1)) (br_constant (h.binary 1)) (br_structure hK) (br_function h.block))
theorem fileD_end7 {D:GN} {N:Nat}:∀(n:Nat) (ks:List Nd) (d a:Nat) (x:List Nd) (a':Nat),fileDG l D N n ks d a= .ok x a'→(tokAt l a').kind=7
 | 0,ks,d,a,x,a',h=>by cases h
 | n + 1,ks,d,a,x,a',h=>by
  unfold fileDG at h;obtain⟨t,b,h1,h2⟩:=bind_ok h;unfold Gr.look at h1;cases h1;unfold Gr.ite at h2;split at h2
  ·obtain⟨_,_,_,h3⟩:=bind_ok h2;obtain⟨_,_,_,h4⟩:=bind_ok h3;obtain⟨_,_,_,h5⟩:=bind_ok h4;exact fileD_end7 n _ _ _ _ _ h5
  ·rename_i hk;unfold Gr.pure at h2;cases h2;simpa using hk
theorem file_end7 {D:GN} {N d a:Nat} {x:Nd} {a':Nat} (h:fileG l D N d a= .ok x a'):(tokAt l a').kind=7:=by
 unfold fileG at h;obtain⟨_,_,_,h⟩:=bind_ok h;obtain⟨_,_,_,h⟩:=bind_ok h;obtain⟨_,_,_,h⟩:=bind_ok h;obtain⟨_,_,_,h⟩:=bind_ok h;obtain⟨_,_,_,h⟩:=bind_ok h;obtain⟨ks,b,h1,h⟩:=bind_ok h;have:=fileD_end7 N _ _ _ _ _ h1;unfold Gr.pure at h;cases h;exact this
end Gr
end Go.Proofs.Dm
set_option maxHeartbeats 4000000
namespace Go.Proofs.Dm
open Go Go.Proofs Go.Proofs.Dm.Sc
namespace Gr
theorem loop_inv {s:ByteArray} {I:SS→Prop} (hs:∀x y,x.at_ < s.size→I x→Sc.step s x=some y→I y):∀(n:Nat) (x:SS),I x→I (loopS s n x).1
 | 0,x,h=>h
 | n + 1,x,h=>by
  unfold loopS;split
  ·rename_i hlt;cases q:Sc.step s x with
   | none=>exact h
   | some y=>exact loop_inv hs n y (hs x y hlt h q)
  ·exact h
def ss0:SS:=⟨0,1,[],[]⟩
def lastS (s:ByteArray):SS:=(loopS s (s.size + 1) ss0).1
theorem scan_last {s:ByteArray} (hf:(scanP s).2.2 < 0):(scanP s).1=ended (lastS s)∧(scanP s).2.1=(lastS s).c∧(loopS s (s.size + 1) ss0).2 < 0:=by
 unfold lastS ss0;unfold scanP at hf⊢;dsimp only at hf⊢;split at hf
 ·rename_i q;exact absurd hf (by simp only;omega)
 ·rename_i q;rw[if_neg q];refine⟨rfl,rfl,?_⟩;generalize (loopS s (s.size + 1) ⟨0,1,[],[]⟩).2=f at *;rcases Int.lt_or_le f 0 with h | h
  ·exact h
  ·exfalso;apply q
   unfold scanF least
   repeat' split
   all_goals omega
inductive Adds (s:ByteArray) (x y:SS):Prop
 | blank (h:y={x with at_:=x.at_ + 1}) (c:UInt8) (hc:s[x.at_]? =some c) (hn:c≠10)
 | line (h:y={semi x with at_:=x.at_ + 1,line:=x.line + 1}) (hc:s[x.at_]? =some 10)
 | note (h:y=Sc.note s x) (c:UInt8) (hc:s[x.at_]? =some c) (hn:c≠10)
 | tok (k:Int) (e:Nat) (h:y=Sc.add s k e x) (c:UInt8) (hc:s[x.at_]? =some c) (hn:c≠10) (hk:k≠7) (h5:k=5→isIn keys (s.extract x.at_ e)=true) (h4:k=4→isIn ops (s.extract x.at_ e)=true) (hl:x.at_ < e∧e≤s.size) (hno:(10:UInt8)∉(s.data.toList.drop x.at_).take (e - x.at_))
theorem op_adds {s:ByteArray} {x y:SS} {c:UInt8} (hc:s[x.at_]? =some c) (hn:c≠10):∀n,opR s x n=some y→Adds s x y
 | 0,q=>by cases q
 | n + 1,q=>by
  simp only[opR]at q;split at q
  ·rename_i hi;cases q;rw[Bool.and_eq_true,decide_eq_true_eq]at hi;refine .tok 4 _ rfl c hc hn (by decide) (fun q=>absurd q (by decide)) (fun _=>hi.2) ⟨by omega,hi.1⟩ ?_;rw[←ext_list];have h2:=hi.2;simp only[isIn,List.any_eq_true,eqB,beq_iff_eq]at h2;obtain⟨o,ho,he⟩:=h2;have h3:ops.all (fun x=> !(x.toList.contains 10))=true:=by kernel_rfl
   have h4:=List.all_eq_true.1 h3 o ho;rw[←he,Lib.toList_data]at h4;simpa using h4
  ·exact op_adds hc hn n q
theorem stop_no {s:ByteArray} {p:UInt8→Bool} {i:Nat} (hp:p 10=false):(10:UInt8)∉(s.data.toList.drop i).take (Sc.stop s p i - i):=by
 rw[stop_tw,Nat.add_sub_cancel_left];generalize s.data.toList.drop i=r;intro h
 induction r with
 | nil=>simp at h
 | cons c r ih=>
  rw[List.takeWhile_cons]at h;split at h
  ·rename_i hc;simp only[List.length_cons,List.take_succ_cons,List.mem_cons]at h;rcases h with h | h
   ·rw[←h,hp]at hc;cases hc
   ·exact ih h
  ·simp at h
theorem step_adds {s:ByteArray} {x y:SS} (h1:x.at_ < s.size) (q:Sc.step s x=some y):Adds s x y:=by
 have hle:=(step_ok h1 q).2.1;have hlt:=(step_ok h1 q).1;unfold Sc.step at q;split at q
 ·cases q
 ·rename_i c hc;split at q
  ·rename_i hn;cases q;have e:c=10:=by
    rw[beq_iff_eq]at hn;apply UInt8.toNat_inj.1;show c.toNat=10;omega
   subst e;exact .line rfl hc
  rename_i hn;have hn':c≠10:=by rintro rfl;exact hn rfl
  split at q
  ·cases q;exact .blank rfl c hc hn'
  split at q
  ·cases q;exact .note rfl c hc hn'
  split at q
  ·rename_i hl;unfold nameS at q;split at q
   ·cases q
   ·cases q;refine .tok _ _ rfl c hc hn' (by split <;> decide) (fun h=> ?_) (fun h=>by split at h <;> omega) ⟨hlt,hle⟩ (stop_no (p:=wordB) (by decide));split at h
    ·assumption
    ·cases h
  split at q
  ·unfold numS at q;split at q
   ·cases q
   ·cases q;exact .tok _ _ rfl c hc hn' (by decide) (fun q=>absurd q (by decide)) (fun q=>absurd q (by decide)) ⟨hlt,hle⟩ (stop_no (p:=digit) (by decide))
  split at q
  ·rename_i hq;unfold textS at q;split at q
   ·rename_i ht;cases q;refine .tok _ _ rfl c hc hn' (by decide) (fun q=>absurd q (by decide)) (fun q=>absurd q (by decide)) ⟨hlt,hle⟩ ?_;have e0:c=34:=by
     rw[beq_iff_eq]at hq;apply UInt8.toNat_inj.1;show c.toNat=34;omega
    subst e0;obtain⟨_,hd⟩:=drop_next s hc;have hs:=stop_no (s:=s) (p:=fun b=>b !=34&&b !=10) (i:=x.at_ + 1) (by decide);have hle2:x.at_ + 1≤textE s x.at_:=(Sc.stop_le s _ _ (by omega)).1;unfold textE at ht hle2⊢;generalize Sc.stop s (fun b=>b !=34&&b !=10) (x.at_ + 1)=e at *;obtain⟨he,hd2⟩:=drop_next s ht;intro hm;rw[hd,show e + 1 - x.at_=(e -(x.at_ + 1)+ 1)+ 1 by omega,List.take_succ_cons,List.mem_cons,List.take_add_one,List.mem_append]at hm;rcases hm with hm | hm | hm
    ·cases hm
    ·exact hs hm
    ·rw[List.getElem?_drop,show x.at_ + 1 +(e -(x.at_ + 1))=e by omega,←ba_get,ht]at hm;simp at hm
   ·cases q
  split at q
  ·cases q;refine .tok _ _ rfl c hc hn' (by decide) (fun q=>absurd q (by decide)) (fun q=>absurd q (by decide)) ⟨hlt,hle⟩ ?_;obtain⟨_,hd⟩:=drop_next s hc;rw[hd,Nat.add_sub_cancel_left];simpa using(Ne.symm hn')
  ·exact op_adds hc hn' 2 q
def KI (x:SS):Prop:=∀t∈x.l,t.kind≠7∧(t.kind=5→isIn keys t.text=true)∧(t.kind=4→isIn ops t.text=true)
theorem KI.semi {x:SS} (h:KI x):KI (Sc.semi x):=by
 unfold Sc.semi;split
 ·intro t ht;simp only[List.mem_append,List.mem_singleton]at ht;rcases ht with q | rfl
  ·exact h t q
  ·exact⟨by simp,by simp,by simp⟩
 ·exact h
theorem KI.step {s:ByteArray} {x y:SS} (h1:x.at_ < s.size) (h:KI x) (q:Sc.step s x=some y):KI y:=by
 cases step_adds h1 q with
 | blank h'=>subst h';exact h
 | line h'=>subst h';exact h.semi
 | note h'=>subst h';exact h.semi
 | tok k e h' c hc hn hk h5 h4 hl hno=>
  subst h';intro t ht;simp only[Sc.add,List.mem_append,List.mem_singleton]at ht;rcases ht with q | rfl
  ·exact h t q
  ·exact⟨hk,h5,h4⟩
theorem last_ki (s:ByteArray):KI (lastS s):=loop_inv (I:=KI) (fun x y h1 h2 h3=>KI.step h1 h2 h3) _ _ (fun t ht=>by cases ht)
theorem ended_get {y:SS} {i:Nat} (h:i <(semi y).l.length):(ended y)[i]? =(semi y).l[i]? :=by
 unfold ended;rw[List.getElem?_append_left h]
theorem scan_kinds {s:ByteArray} (hf:(scanP s).2.2 < 0):KTs (scanP s).1∧∀i,(tokAt (scanP s).1 i).kind=7→(scanP s).1.length≤i + 1:=by
 obtain⟨e1,_,_⟩:=scan_last hf;have hk:=(last_ki s).semi;rw[e1];constructor
 ·intro i h5;unfold tokAt at h5⊢;cases hg:(ended (lastS s))[i]? with
  | none=>
   rw[hg]at h5;simp only[Option.getD_none]at h5;exact absurd h5 (by decide)
  | some t=>
   rw[hg]at h5;simp only[Option.getD_some]at h5⊢;have hm:=List.mem_of_getElem? hg;simp only[ended,List.mem_append,List.mem_singleton]at hm;rcases hm with q | rfl
   ·exact(hk t q).2.1 h5
   ·simp at h5
 ·intro i h7;rcases Nat.lt_or_ge i (semi (lastS s)).l.length with q | q
  ·exfalso
   unfold tokAt at h7;rw[ended_get q,List.getElem?_eq_getElem q]at h7;exact(hk _ (List.getElem_mem q)).1 h7
  ·simp only[ended,List.length_append,List.length_singleton];omega
theorem text_bal {s:ByteArray} (hs:s.size < 10000000) (h:(textP s).2.2 < 0):(scanP s).2.2 < 0∧(textP s).2.1=(scanP s).1∧∀i,0≤ob (scanP s).1 i∧ob (scanP s).1 i≤40:=by
 have hf:(scanP s).2.2 < 0:=by
  rcases Int.lt_or_le (scanP s).2.2 0 with q | q
  ·exact q
  ·have hd:decide (0≤(scanP s).2.2)=true:=by simpa using q
   unfold textP at h;rw[if_pos hd]at h;exact absurd h (by simp only;omega)
 have hd:decide (0≤(scanP s).2.2)=false:=by simp;omega
 obtain⟨hg,_,_⟩:=scan_good hs hf;have hfin:=answer_fin hg;obtain⟨hK,h7⟩:=scan_kinds hf;unfold textP at h⊢;simp only[hd,Bool.false_eq_true,if_false]at h⊢;refine⟨hf,?_⟩;cases ha:answer (scanP s).1 with
 | bad k=>
  rw[ha]at h;simp only at h;have:=(scan_tb (s:=s) (tokAt (scanP s).1 k) (by
   rw[ha]at hfin;have hk':k <(scanP s).1.length:=hfin;unfold tokAt;rw[List.getElem?_eq_getElem hk'];exact List.getElem_mem hk')).1
  omega
 | out=>rw[ha]at hfin;exact absurd hfin (fun h=>h)
 | ok nd a'=>
  refine⟨rfl,fun i=> ?_⟩;have hb:=fileS_br hK (N:=(scanP s).1.length + 2) (n:=3 *(scanP s).1.length + 4) 0 0 nd a' (by omega) True.intro ha;have he:=h7 a' (file_end7 ha);have o0:ob (scanP s).1 0=0:=rfl;have hbey:∀j,a' + j≤a' + j→ob (scanP s).1 (a' + j)=0:=by
   intro j _
   induction j with
   | zero=>rw[Nat.add_zero];have:=hb.2.1;omega
   | succ j ih=>
    rw[←Nat.add_assoc,ob_nbr (nbr_kind ?_),ih (Nat.le_refl _)];rcases Nat.eq_zero_or_pos j with rfl | hj
    ·rw[Nat.add_zero,file_end7 ha];decide
    ·unfold tokAt;rw[List.getElem?_eq_none (by omega)]
     decide
  rcases Nat.le_total i a' with q | q
  ·have:=hb.2.2 i (Nat.zero_le _) q;omega
  ·obtain⟨j,rfl⟩:=Nat.exists_eq_add_of_le q;have:=hbey j (Nat.le_refl _);omega
end Gr
end Go.Proofs.Dm
set_option maxHeartbeats 4000000
namespace Go.Proofs.Dm
open Go Go.Proofs Go.Proofs.Dm.Sc
namespace Gr
def nl (s:ByteArray) (i:Nat):Nat:=(s.data.toList.take i).count 10
theorem nl_le (s:ByteArray) (i:Nat):nl s i≤s.data.toList.count 10:=(List.take_sublist i _).count_le 10
theorem nl_no {s:ByteArray} {a e:Nat} (h:a≤e) (hno:(10:UInt8)∉(s.data.toList.drop a).take (e - a)):nl s e=nl s a:=by
 unfold nl;obtain⟨d,rfl⟩:=Nat.exists_eq_add_of_le h;rw[Nat.add_sub_cancel_left]at hno;rw[List.take_add,List.count_append,List.count_eq_zero.2 hno];rfl
theorem nl_next {s:ByteArray} {a:Nat} {c:UInt8} (h:s[a]? =some c):nl s (a + 1)=nl s a + if c=10 then 1 else 0:=by
 unfold nl;rw[ba_get]at h;rw[List.take_add_one,h,List.count_append];simp only[Option.toList_some,List.count_singleton,beq_iff_eq]
structure LI (s:ByteArray) (x:SS):Prop where
 at_:x.at_≤s.size
 line:x.line=1 +(nl s x.at_:Int)
 toks:∀t∈x.l,1≤t.line∧t.line≤x.line
 pair:x.l.Pairwise (fun t u=>t.line≤u.line)
 coms:∀c∈x.c,1≤c.line∧(c.line < x.line∨(c.line=x.line∧∀b,s[x.at_]? =some b→b=10))
 cpair:x.c.Pairwise (fun b c=>b.line < c.line∧b.next≤c.next)
 next:∀c∈x.c,0≤c.next∧c.next≤x.l.length
 rel:∀c∈x.c,∀(i:Nat) t,x.l[i]? =some t→((i:Int)< c.next→t.line≤c.line)∧(c.next≤i→c.line≤t.line)
theorem LI.push {s:ByteArray} {x:SS} (h:LI s x) {t:Tok} (ht:t.line=x.line):LI s {x with l:=x.l ++ [t]} where
 at_:=h.at_
 line:=h.line
 toks:=by
  intro u hu;simp only[List.mem_append,List.mem_singleton]at hu;rcases hu with q | rfl
  ·exact h.toks u q
  ·rw[ht];exact⟨by have:=h.line;omega,Int.le_refl _⟩
 pair:=by
  rw[List.pairwise_append];refine⟨h.pair,by simp,fun a ha b hb=> ?_⟩;rw[List.mem_singleton]at hb;subst hb;rw[ht];exact(h.toks a ha).2
 coms:=h.coms
 cpair:=h.cpair
 next:=fun c hc=>by have:=h.next c hc;simp only[List.length_append,List.length_singleton];omega
 rel:=by
  intro c hc i u hu;have hn:=h.next c hc;have hl:=(h.coms c hc).2;rcases Nat.lt_trichotomy i x.l.length with q | q | q
  ·rw[List.getElem?_append_left q]at hu;exact h.rel c hc i u hu
  ·subst q;simp only[List.getElem?_concat_length,Option.some.injEq]at hu;subst hu;refine⟨fun g=>by omega,fun g=> ?_⟩;rw[ht];rcases hl with g | g
   ·omega
   ·omega
  ·rw[List.getElem?_eq_none (by simp;omega)]at hu;cases hu
theorem LI.semi {s:ByteArray} {x:SS} (h:LI s x):LI s (Sc.semi x):=by
 unfold Sc.semi;split
 ·exact h.push rfl
 ·exact h
theorem LI.on {s:ByteArray} {x:SS} (h:LI s x) {e:Nat} {c:UInt8} (hc:s[x.at_]? =some c) (hn:c≠10) (h1:x.at_≤e) (h2:e≤s.size) (hno:(10:UInt8)∉(s.data.toList.drop x.at_).take (e - x.at_)):LI s {x with at_:=e} where
 at_:=h2
 line:=by simp only;rw[nl_no h1 hno];exact h.line
 toks:=h.toks
 pair:=h.pair
 coms:=fun d hd=>by
  obtain⟨q1,q2⟩:=h.coms d hd;refine⟨q1,.inl ?_⟩;rcases q2 with q | q
  ·exact q
  ·exact absurd (q.2 c hc) hn
 cpair:=h.cpair
 next:=h.next
 rel:=h.rel
theorem LI.step {s:ByteArray} {x y:SS} (h1:x.at_ < s.size) (h:LI s x) (q:Sc.step s x=some y):LI s y:=by
 have hle:=(step_ok h1 q).2.1;cases step_adds h1 q with
 | blank h' c hc hn=>
  subst h';refine h.on hc hn (by omega) (by omega) ?_;obtain⟨_,hd⟩:=drop_next s hc;rw[hd,Nat.add_sub_cancel_left];simpa using(Ne.symm hn)
 | line h' hc=>
  subst h';have g:=h.semi;have e:=nl_next hc;rw[if_pos rfl]at e;exact{
   at_:=by simp only;omega
   line:=by simp only;rw[e];have:=h.line;omega
   toks:=fun t ht=>by have:=g.toks t ht;rw[semi_line]at this;simp only;omega
   pair:=g.pair
   coms:=fun c hc=>by
    obtain⟨q1,q2⟩:=g.coms c hc;rw[semi_line]at q2;refine⟨q1,.inl ?_⟩;simp only;rcases q2 with q | q <;> omega
   cpair:=g.cpair
   next:=g.next
   rel:=g.rel}
 | note h' c hc hn=>
  subst h';have g:=h.semi;have hE:x.at_≤eol s x.at_∧eol s x.at_≤s.size:=stop_le s _ _ h.at_;have hno:(10:UInt8)∉(s.data.toList.drop x.at_).take (eol s x.at_ - x.at_):=stop_no (by decide);have g2:=g.on (e:=eol s x.at_) (by rw[semi_at];exact hc) hn (by rw[semi_at];exact hE.1) hE.2 (by rw[semi_at];exact hno);have hlt:∀b∈x.c,b.line < x.line:=fun b hb=>by
   rcases(h.coms b hb).2 with q | q
   ·exact q
   ·exact absurd (q.2 c hc) hn
  have ec:(Sc.semi x).c=x.c:=by unfold Sc.semi;split <;> rfl
  exact{
   at_:=hE.2
   line:=g2.line
   toks:=g2.toks
   pair:=g2.pair
   coms:=fun d hd=>by
    simp only[Sc.note,List.mem_append,List.mem_singleton]at hd⊢;rcases hd with hd | rfl
    ·have:=hlt d hd;have:=(h.coms d hd).1;refine⟨this,.inl ?_⟩;simp only[semi_line];omega
    ·refine⟨by have:=h.line;simp only;omega,.inr ⟨by simp only[semi_line],fun b hb=> ?_⟩⟩;unfold eol at hb;rw[stop_tw,ba_get,←List.getElem?_drop]at hb;generalize s.data.toList.drop x.at_=r at hb
     induction r with
     | nil=>simp at hb
     | cons d r ih=>
      rw[List.takeWhile_cons]at hb;split at hb
      ·simp only[List.length_cons,List.getElem?_cons_succ]at hb;exact ih hb
      ·rename_i hd;simp only[List.length_nil,List.getElem?_cons_zero,Option.some.injEq]at hb;subst hb;simpa using hd
   cpair:=by
    simp only[Sc.note];rw[List.pairwise_append];refine⟨h.cpair,by simp,fun a ha b hb=> ?_⟩;rw[List.mem_singleton]at hb;subst hb;exact⟨hlt a ha,(g.next a (by rw[ec];exact ha)).2⟩
   next:=fun d hd=>by
    simp only[Sc.note,List.mem_append,List.mem_singleton]at hd⊢;rcases hd with hd | rfl
    ·exact g.next d (by rw[ec];exact hd)
    ·simp only;omega
   rel:=fun d hd i t ht=>by
    simp only[Sc.note,List.mem_append,List.mem_singleton]at hd ht;rcases hd with hd | rfl
    ·exact g.rel d (by rw[ec];exact hd) i t ht
    ·simp only;have:=(g.toks t (List.mem_of_getElem? ht)).2;rw[semi_line]at this;refine⟨fun _=>this,fun q=> ?_⟩;have:i <(Sc.semi x).l.length:=by
      rcases Nat.lt_or_ge i (Sc.semi x).l.length with q | q
      ·exact q
      ·rw[List.getElem?_eq_none q]at ht;cases ht
     omega}
 | tok k e h' c hc hn hk h5 h4 hl hno=>
  subst h';exact(h.push (t:=⟨k,s.extract x.at_ e,x.at_,x.line,false⟩) rfl).on hc hn (by simp only;omega) hl.2 hno
theorem last_li (s:ByteArray):LI s (lastS s):=loop_inv (I:=LI s) (fun x y h1 h2 h3=>LI.step h1 h2 h3) _ _ ⟨Nat.zero_le _,rfl,(fun t ht=>by cases ht),List.Pairwise.nil,(fun t ht=>by cases ht),List.Pairwise.nil,(fun t ht=>by cases ht),(fun t ht=>by cases ht)⟩
structure Scanned (s:ByteArray) (l:List Tok) (cs:List Com):Prop where
 toks:∀t∈l,1≤t.line∧t.line≤(Fo.linesP s).length
 pair:l.Pairwise (fun t u=>t.line≤u.line)
 coms:∀c∈cs,1≤c.line∧c.line≤(Fo.linesP s).length
 cpair:cs.Pairwise (fun b c=>b.line < c.line∧b.next≤c.next)
 next:∀c∈cs,0≤c.next∧c.next < l.length
 rel:∀c∈cs,∀(i:Nat) t,l[i]? =some t→((i:Int)< c.next→t.line≤c.line)∧(c.next≤i→c.line≤t.line)
 kinds:∀i t,l[i]? =some t→t.kind=7→l.length=i + 1
 last:∃t,l.getLast? =some t∧t.kind=7
theorem scanned {s:ByteArray} (hf:(scanP s).2.2 < 0):Scanned s (scanP s).1 (scanP s).2.1:=by
 obtain⟨e1,e2,_⟩:=scan_last hf;obtain⟨_,hk⟩:=scan_kinds hf;have h:=(last_li s).semi;have hn:=nl_le s (semi (lastS s)).at_;have hl:=lines_len s;have hline:=h.line;have ec:(Sc.semi (lastS s)).c=(lastS s).c:=by unfold Sc.semi;split <;> rfl
 have g:=h.push (t:=⟨7,⟨#[]⟩,(semi (lastS s)).at_,(semi (lastS s)).line,false⟩) rfl;have el:({semi (lastS s)with l:=(semi (lastS s)).l ++ [⟨7,⟨#[]⟩,(semi (lastS s)).at_,(semi (lastS s)).line,false⟩]}:SS).l=ended (lastS s):=rfl;rw[e1]at hk⊢;rw[e2,←ec];refine⟨fun t ht=> ?_,g.pair,fun c hc=> ?_,h.cpair,fun c hc=> ?_,g.rel,fun i t ht h7=> ?_,?_⟩
 ·have:=g.toks t ht;simp only at this;omega
 ·have:=h.coms c hc;omega
 ·have:=h.next c hc;simp only[ended,List.length_append,List.length_singleton];omega
 ·have:=hk i (by unfold tokAt;rw[ht];exact h7);have:i <(ended (lastS s)).length:=by
   rcases Nat.lt_or_ge i (ended (lastS s)).length with q | q
   ·exact q
   ·rw[List.getElem?_eq_none q]at ht;cases ht
  omega
 ·exact⟨⟨7,⟨#[]⟩,(semi (lastS s)).at_,(semi (lastS s)).line,false⟩,by unfold ended;rw[List.getLast?_append,List.getLast?_singleton];rfl,rfl⟩
end Gr
end Go.Proofs.Dm
set_option maxHeartbeats 4000000
namespace Go.Proofs.Dm
open Go Go.Proofs Go.Proofs.Dm.Sc
open Fo (isO zeroT LS nlB spB pad trimR)
namespace Rf
theorem nil_append (a:ByteArray):a ++(⟨#[]⟩:ByteArray)=a:=by
 apply ba_ext;show(a.append _).data.toList=_;simp
theorem nil_left (a:ByteArray):(⟨#[]⟩:ByteArray)++ a=a:=by
 apply ba_ext;simp
theorem app_assoc (a b c:ByteArray):a ++ b ++ c=a ++(b ++ c):=by
 apply ba_ext;simp
theorem outR_app (l:List Tok) (src:List ByteArray):∀(xs ys:List It) (p:Option It) (o:ByteArray),outR l src p (xs ++ ys) o=outR l src (xs.getLast?.or p) ys (outR l src p xs o)
 | [],ys,p,o=>rfl
 | x::xs,ys,p,o=>by
  show outR l src (some x) (xs ++ ys) _=_;rw[outR_app l src xs ys (some x) _];cases xs with
  | nil=>rfl
  | cons y xs=>
   show outR l src ((y::xs).getLast?.or (some x)) ys _=outR l src ((x::y::xs).getLast?.or p) ys _;rw[List.getLast?_cons_cons];cases h:(y::xs).getLast? with
   | none=>simp at h
   | some z=>rfl
theorem gap_empty (src:List ByteArray):∀(n k:Nat),(0 < n→k + n≤src.length)→Fo.emptyN src n k=some (gapN src n k)
 | 0,k,h=>rfl
 | n + 1,k,h=>by
  have hk:k < src.length:=by have:=h (by omega);omega
  unfold Fo.emptyN gapN;rw[List.getElem?_eq_getElem hk];simp only[Option.getD_some];have e:Fo.blank src[k]=((trimR src[k]).toList== []):=by
   generalize src[k]=s;unfold Fo.blank trimR;rw[Lib.toList_data,Lib.toList_data];show s.data.toList.all _=((Lib.trimRightS s.data.toList [32,9])== [])
   rw[Bool.eq_iff_iff,beq_iff_eq];unfold Lib.trimRightS;rw[List.reverse_eq_nil_iff];constructor
   ·intro h;rw[dropWhile_nil];intro x hx;exact List.all_eq_true.1 h x (List.mem_reverse.1 hx)
   ·intro h;rw[dropWhile_nil]at h;exact List.all_eq_true.2 fun x hx=>h x (List.mem_reverse.2 hx)
  rw[e];split
  ·rfl
  ·exact gap_empty src n (k + 1) (fun _=>by omega)
structure Inv (l:List Tok) (i:Nat) (x:LS) (p:Option It) (o:ByteArray):Prop where
 out:x.out=o
 opn:x.opn=Gr.ob l i
 last:x.last= -1∨∃j:Nat,x.last=j∧j < i∧(tk l j).kind≠6
 semis:∀k:Nat,x.last < k→k < i→(tk l k).kind=6
 semi:x.semi=decide (x.last + 1 < i)
 none_:p=none→x.last= -1∧x.aside=false∧x.line=0
 some_:∀b,p=some b→x.line=b.line∧1≤b.line∧x.aside=b.com∧(0≤x.last→(Fo.endT l x).line≤b.line)∧(b.com=false→0≤x.last∧(Fo.endT l x).line=b.line)
theorem last_end {l:List Tok} {x:LS}:∀i:Nat,(x.last= -1∨∃j:Nat,x.last=j∧j < i∧(tk l j).kind≠6)→(∀k:Nat,x.last < k→k < i→(tk l k).kind=6)→lastR l i=Fo.endT l x∧(0≤x.last→atR l i=x.last.toNat)
 | 0,h,g=>by
  rcases h with h | ⟨j,_,h,_⟩
  ·unfold lastR Fo.endT;rw[if_pos (by omega)];exact⟨rfl,fun q=>by omega⟩
  ·omega
 | i + 1,h,g=>by
  unfold lastR atR
  by_cases e:x.last=(i:Int)
  ·have hk:(tk l i).kind≠6:=by
    rcases h with h | ⟨j,h1,h2,h3⟩
    ·omega
    ·have:j=i:=by omega
     subst this;exact h3
   have hk':((tk l i).kind==6)=false:=by simpa using hk
   rw[hk'];simp only[Bool.false_eq_true,if_false];refine⟨?_,fun _=>by omega⟩;unfold Fo.endT tk;rw[if_neg (by omega),e,Int.toNat_natCast]
  ·have hlt:x.last < i:=by
    rcases h with h | ⟨j,h1,h2,h3⟩ <;> omega
   have hk:=g i hlt (by omega);rw[hk];simp only[beq_self_eq_true,if_true];refine last_end i ?_ (fun k h1 h2=>g k h1 (by omega));rcases h with h | ⟨j,h1,h2,h3⟩
   ·exact .inl h
   ·exact .inr ⟨j,h1,by omega,h3⟩
theorem on_goes {l:List Tok} {next:Int} {closes:Bool} (h0:0≤next) (h:next≤l.length):Fo.goesOn l next closes=some (if decide (0 < next)&& !closes then(if onR (tk l (next.toNat - 1))then 1 else 0)else 0):=by
 unfold Fo.goesOn
 by_cases q:0 < next
 ·have e:(next - 1).toNat=next.toNat - 1:=by omega
  have hlt:next.toNat - 1 < l.length:=by omega
  cases closes with
  | true=>simp[q]
  | false=>
   simp only[q,decide_true,Bool.not_false,Bool.and_self,if_true];rw[e,List.getElem?_eq_getElem hlt];unfold tk onR;rw[List.getElem?_eq_getElem hlt];rfl
 ·simp[q]
def gapB (l:List Tok) (src:List ByteArray) (x:LS) (line:Int) (closes:Bool):Option It→ByteArray
 | none=>⟨#[]⟩
 | some b=>if gapN src (line - 1 - b.line).toNat b.line.toNat&& !isO (Fo.endT l x) [123]&& !closes then nlB ++ nlB else nlB
theorem gap_ok {l:List Tok} {src:List ByteArray} {x:LS} {line:Int} {closes:Bool} {p:Option It} (hp0:p=none→x.line=0) (hp:∀b,p=some b→x.line=b.line∧1≤b.line) (hl:line≤src.length):
  Fo.gapS l src x line closes=some (gapB l src x line closes p):=by
 unfold Fo.gapS;cases p with
 | none=>rw[hp0 rfl];rfl
 | some b=>
  obtain⟨h1,h2⟩:=hp b rfl;rw[if_pos (by omega),h1];unfold Fo.emptyS;have e:(line - b.line - 1).toNat=(line - 1 - b.line).toNat:=by omega
  rw[e,gap_empty src _ _ (fun q=>by omega)];rfl
def padB (l:List Tok) (o next:Int) (closes:Bool):ByteArray:=pad (o +(if decide (0 < next)&& !closes then(if onR (tk l (next.toNat - 1))then 1 else 0)else 0)).toNat
theorem begin_ok {l:List Tok} {src:List ByteArray} {x:LS} {next line:Int} {closes:Bool} {p:Option It} (hp0:p=none→x.line=0) (hp:∀b,p=some b→x.line=b.line∧1≤b.line) (hl:line≤src.length)
  (h0:0≤next) (hn:next≤l.length) (ho:0≤x.opn∧x.opn≤40):
  Fo.beginS l src x next line closes=some {x with out:=x.out ++(gapB l src x line closes p)++ padB l x.opn next closes}:=by
 unfold Fo.beginS;rw[gap_ok hp0 hp hl,on_goes h0 hn];simp only;have hk:0≤x.opn +(if(decide (0 < next)&& !closes)=true then(if onR (tk l (next.toNat - 1))=true then 1 else 0)else 0)∧x.opn +(if(decide (0 < next)&& !closes)=true then(if onR (tk l (next.toNat - 1))=true then 1 else 0)else 0)≤64:=by
  cases (decide (0 < next)&& !closes)<;> cases onR (tk l (next.toNat - 1))<;> simp <;> omega
 rw[if_pos hk];rfl
variable {s:ByteArray} {l:List Tok} {cs:List Com} {src:List ByteArray}
theorem tk_get {i:Nat} {t:Tok} (h:l[i]? =some t):tk l i=t:=by unfold tk;rw[h];rfl
theorem ob_step {i:Nat} {t:Tok} (h:l[i]? =some t):Gr.ob l (i + 1)=La.opT (Gr.ob l i) t:=La.opens_take l i t h
theorem sepR_some (l:List Tok) (src:List ByteArray) (b x:It):sepR l src (some b) x=if breaksR l b x then(if gapR l src b x then nlB ++ nlB else nlB)++ pad (tabsR l x).toNat else if x.com then spB else if spaceR l x.tok.toNat then spB else⟨#[]⟩:=rfl
theorem sepR_none (l:List Tok) (src:List ByteArray) (x:It):sepR l src none x=pad (tabsR l x).toNat:=rfl
theorem com_step {i:Nat} {x:LS} {p:Option It} {o:ByteArray} {c:Com} (h:Inv l i x p o) (hi:i≤l.length) (hb:∀j,0≤Gr.ob l j∧Gr.ob l j≤40) (hc:c.next=i) (hl:1≤c.line∧c.line≤src.length)
  (hp:∀b,p=some b→b.com=true→b.line < c.line) (hr:∀t,l[x.last.toNat]? =some t→0≤x.last→t.line≤c.line):
  ∃y,Fo.comS l src x c=some y∧Inv l i y (some (comI c)) (o ++ sepR l src p (comI c)++ textR l (comI c)):=by
 obtain⟨e1,e2⟩:=last_end i h.last h.semis;have ht:(comI c).tok.toNat=i:=by simp only[comI];omega
 have hs:shutR l (comI c)=false:=rfl;have hob:La.opens (l.take i)=Gr.ob l i:=rfl;have htabs:padB l x.opn c.next false=pad (tabsR l (comI c)).toNat:=by
  unfold padB
  congr 2
  symm
  unfold tabsR;rw[ht,hs,hob,h.opn];have h2:c.next.toNat=i:=by omega
  have h3:(comI c).tok=c.next:=rfl;rw[h2,h3];cases decide (0 < c.next)<;> cases onR (tk l (i - 1))<;> simp
 have hB:=begin_ok (l:=l) (src:=src) (x:=x) (next:=c.next) (line:=c.line) (closes:=false) (p:=p) (fun q=>(h.none_ q).2.2) (fun b q=>⟨(h.some_ b q).1,(h.some_ b q).2.1⟩) hl.2 (by omega) (by omega) (by rw[h.opn];exact hb i);have hkeep:∀z:LS,z={x with out:=z.out}→Inv l i {z with out:=z.out ++ trimR c.text,line:=c.line,aside:=true} (some (comI c)) (z.out ++ trimR c.text):=by
  intro z hz;have ee:Fo.endT l {z with out:=z.out ++ trimR c.text,line:=c.line,aside:=true}=Fo.endT l x:=by
   unfold Fo.endT;have:z.last=x.last:=by rw[hz]
   simp only[this]
  refine⟨rfl,by simp only;rw[hz];exact h.opn,by simp only;rw[hz];exact h.last,by simp only;rw[hz];exact h.semis,by simp only;rw[hz];exact h.semi,fun q=>by (cases q),fun b q=> ?_⟩;cases q;refine⟨rfl,hl.1,rfl,fun g=> ?_,fun q=>by (cases q)⟩;rw[ee];have hlx:0≤x.last:=by
   have:z.last=x.last:=by rw[hz]
   simp only[this]at g;exact g
  unfold Fo.endT;rw[if_neg (by omega)];cases hg:l[x.last.toNat]? with
  | none=>simp only[Option.getD_none];show(0:Int)≤_;simp only[comI];omega
  | some t=>simp only[Option.getD_some];exact hr t hg hlx
 have hnl:∀b,p=some b→b.com=true→¬(0≤x.last∧(Fo.endT l x).line=c.line):=by
  rintro b hb1 hb2 ⟨q1,q2⟩;have:=(h.some_ b hb1).2.2.2.1 q1;have:=hp b hb1 hb2;omega
 unfold Fo.comS;have ho:=h.out
 by_cases q:0≤x.last∧(Fo.endT l x).line=c.line
 ·rw[if_pos q];cases hpp:p with
  | none=>have:=(h.none_ hpp).1;omega
  | some b=>
   cases hbc:b.com with
   | true=>exact absurd q (hnl b hpp hbc)
   | false=>
    have h5:=((h.some_ b hpp).2.2.2.2 hbc).2;have hbr:breaksR l b (comI c)=false:=by
     unfold breaksR;rw[hbc];simp only[comI,if_true,Bool.false_or];rw[bne_eq_false_iff_eq];omega
    refine⟨_,rfl,?_⟩;have:=hkeep {x with out:=x.out ++ spB} rfl;have hsep:sepR l src (some b) (comI c)=spB:=by
     rw[sepR_some,hbr];rfl
    have htx:textR l (comI c)=trimR c.text:=rfl;rw[hsep,htx,←ho];exact this
 ·rw[if_neg q,hB];refine⟨_,rfl,?_⟩;have:=hkeep {x with out:=x.out ++(gapB l src x c.line false p)++ padB l x.opn c.next false} rfl;have hsep:sepR l src p (comI c)=(gapB l src x c.line false p)++ padB l x.opn c.next false:=by
   rw[htabs];cases hpp:p with
   | none=>
    rw[sepR_none];show _=(⟨#[]⟩:ByteArray)++ _;rw[nil_left]
   | some b=>
    have hbr:breaksR l b (comI c)=true:=by
     unfold breaksR;simp only[comI,if_true];cases hbc:b.com with
     | true=>rfl
     | false=>
      rw[Bool.false_or,bne_iff_ne];have h5:=(h.some_ b hpp).2.2.2.2 hbc;intro e;exact q ⟨h5.1,h5.2.trans e⟩
    rw[sepR_some,hbr,if_pos rfl]
    congr 1
    unfold gapR;rw[ht,e1,hs];unfold gapB;simp only[comI,Bool.or_false,Bool.not_false,Bool.and_true];cases isO (Fo.endT l x) [123] <;> simp
  have e:o ++ sepR l src p (comI c)++ textR l (comI c)=x.out ++(gapB l src x c.line false p)++ padB l x.opn c.next false ++ trimR c.text:=by
   rw[hsep,ho,←app_assoc o];rfl
  rw[e];exact this
theorem tok_step {i:Nat} {x:LS} {p:Option It} {o:ByteArray} {t:Tok} (h:Inv l i x p o) (hb:∀j,0≤Gr.ob l j∧Gr.ob l j≤40) (hg:l[i]? =some t) (hk:t.kind≠6) (hl:1≤t.line∧t.line≤src.length):
  ∃y,Fo.tokS l src x i t=some y∧Inv l (i + 1) y (some (tokI i t)) (o ++ sepR l src p (tokI i t)++ textR l (tokI i t)):=by
 obtain⟨e1,e2⟩:=last_end i h.last h.semis;have hi:i < l.length:=by
  rcases Nat.lt_or_ge i l.length with q | q
  ·exact q
  ·rw[List.getElem?_eq_none q]at hg;cases hg
 have ett:=tk_get hg;have ht:(tokI i t).tok.toNat=i:=by simp only[tokI];omega
 have hs:shutR l (tokI i t)=isO t [125]:=by
  unfold shutR;rw[ht,ett];rfl
 have hob:La.opens (l.take i)=Gr.ob l i:=rfl;have hn1:isO t [125]=true→isO t [123]=false:=by
  intro q;unfold Fo.isO at q⊢;rw[Bool.and_eq_true,beq_iff_eq,beq_iff_eq]at q;rw[q.2,Bool.and_eq_false_iff];right;decide
 have hstep:=ob_step hg;unfold La.opT at hstep;obtain⟨x',hx'⟩:∃x':LS,x'={x with opn:=if isO t [125]then x.opn - 1 else x.opn}:=⟨_,rfl⟩
 have e':Fo.endT l x'=Fo.endT l x:=by rw[hx'];rfl
 have ea':Fo.aheadT l x'=Fo.aheadT l x:=by rw[hx'];rfl
 have hopn:0≤x'.opn∧x'.opn≤40:=by
  rw[hx'];simp only;have h1:=hb i;have h2:=hb (i + 1);rw[h.opn];split
  ·rename_i q;rw[hn1 q,if_neg (by decide),if_pos q]at hstep;omega
  ·exact h1
 have hB:=begin_ok (l:=l) (src:=src) (x:=x') (next:=i) (line:=t.line) (closes:=isO t [125]) (p:=p) (fun q=>by rw[hx'];exact(h.none_ q).2.2) (fun b q=>by rw[hx'];exact⟨(h.some_ b q).1,(h.some_ b q).2.1⟩) hl.2 (by omega) (by omega) hopn;have htabs:padB l x'.opn i (isO t [125])=pad (tabsR l (tokI i t)).toNat:=by
  unfold padB
  congr 2
  symm
  unfold tabsR;rw[ht,hs,hob,hx',Int.toNat_natCast];simp only[tokI,h.opn];cases isO t [125] <;> simp
  repeat' split
  all_goals omega
 have hsep:Fo.sepS l src x' i t=some {x' with out:=x'.out ++ sepR l src p (tokI i t)}:=by
  unfold Fo.sepS;simp only;rw[e',ea'];cases hpp:p with
  | none=>
   obtain⟨h1,h2,h3⟩:=h.none_ hpp;have hlt:decide (x'.last < 0)=true:=by rw[hx'];simp only[decide_eq_true_eq];omega
   rw[hlt,Bool.true_or,Bool.true_or,if_pos rfl,hB,hpp];rw[sepR_none];rw[htabs,app_assoc];have hg0:gapB l src x' t.line (isO t [125]) none=⟨#[]⟩:=rfl;rw[hg0,nil_left]
  | some b=>
   obtain⟨h1,h2,h3,h4,h5⟩:=h.some_ b hpp;have hbegin:breaksR l b (tokI i t)=true→Fo.beginS l src x' i t.line (isO t [125])=some {x' with out:=x'.out ++ sepR l src (some b) (tokI i t)}:=by
    intro hbr;rw[hB,hpp];rw[sepR_some,hbr,if_pos rfl];rw[htabs,app_assoc]
    congr 3
    unfold gapB;rw[e'];unfold gapR;rw[ht,e1,hs];simp only[tokI];cases isO (Fo.endT l x) [123] <;> cases isO t [125] <;> simp
   cases hbc:b.com with
   | true=>
    have ha:x'.aside=true:=by rw[hx'];simp only;rw[h3,hbc]
    rw[if_pos (by rw[ha];simp)];exact hbegin (by unfold breaksR;simp only[tokI,hbc,if_true,Bool.false_eq_true,if_false])
   | false=>
    have ha:x'.aside=false:=by rw[hx'];simp only;rw[h3,hbc]
    obtain⟨h6,h7⟩:=h5 hbc;have hlt:decide (x'.last < 0)=false:=by rw[hx'];simp only[decide_eq_false_iff_not];omega
    have hsm:x'.semi=((tk l (i - 1)).kind==6):=by
     have e0:x'.semi=x.semi:=by rw[hx']
     rw[e0,h.semi];obtain⟨j,q1,q2,q3⟩:∃j:Nat,x.last=j∧j < i∧(tk l j).kind≠6:=by
      rcases h.last with q | q
      ·omega
      ·exact q
     by_cases q:x.last + 1 <(i:Int)
     ·have:=h.semis (i - 1) (by omega) (by omega);rw[decide_eq_true q,this];rfl
     ·have:i - 1=j:=by omega
      rw[decide_eq_false q,this]
      symm;simpa using q3
    have hbr:breaksR l b (tokI i t)=(!(isO t [125]&&isO (Fo.endT l x) [123]&& !false)&&(x'.semi || isO t [125] || isO (Fo.endT l x) [123])):=by
     unfold breaksR;rw[ht,e1,hbc,hsm,ett];simp only[tokI,Bool.false_eq_true,if_false];cases isO (Fo.endT l x) [123] <;> cases isO t [125] <;> cases ((tk l (i - 1)).kind==6)<;> rfl
    have hcond:(decide (x'.last < 0)|| x'.aside ||(!(isO t [125]&&isO (Fo.endT l x) [123]&& !x'.aside)&&(x'.semi || isO t [125] || isO (Fo.endT l x) [123])))=breaksR l b (tokI i t):=by
     rw[hbr,ha,hlt,Bool.false_or,Bool.false_or]
    rw[hcond];cases hq:breaksR l b (tokI i t)with
    | true=>
     rw[if_pos rfl];exact hbegin hq
    | false=>
     rw[if_neg (by decide)];have hsp:spaceR l i=Fo.spaceT (Fo.aheadT l x) (Fo.endT l x) t:=by
      unfold spaceR;simp only;rw[e2 h6,ett];have g1:tk l x.last.toNat=Fo.endT l x:=by unfold tk Fo.endT;rw[if_neg (by omega)]
      have g2:(if 1≤x.last.toNat then tk l (x.last.toNat - 1)else zeroT)=Fo.aheadT l x:=by
       unfold Fo.aheadT
       by_cases q:x.last < 1
       ·rw[if_pos q,if_neg (by omega)]
       ·rw[if_neg q,if_pos (by omega)];unfold tk;have:x.last.toNat - 1=(x.last - 1).toNat:=by omega
        rw[this]
      rw[g1,g2]
     have hsep2:sepR l src (some b) (tokI i t)=if Fo.spaceT (Fo.aheadT l x) (Fo.endT l x) t then spB else⟨#[]⟩:=by
      have hc:(tokI i t).com=false:=rfl;rw[sepR_some,hq,hc,ht,hsp];simp only[Bool.false_eq_true,if_false]
     rw[hsep2];cases Fo.spaceT (Fo.aheadT l x) (Fo.endT l x) t with
     | true=>rfl
     | false=>
      simp only[Bool.false_eq_true,if_false];rw[nil_append]
 unfold Fo.tokS;rw[←hx',hsep];refine⟨_,rfl,?_⟩;have etx:textR l (tokI i t)=t.text:=by unfold textR;rw[ht,ett];rfl
 refine⟨?_,?_,.inr ⟨i,rfl,by omega,by rw[ett];exact hk⟩,fun k g1 g2=>by simp only at g1;omega,?_,fun q=>by (cases q),fun b q=> ?_⟩
 ·simp only;rw[etx,hx',←h.out]
 ·simp only;rw[hstep,hx'];simp only[h.opn];cases q:isO t [125]with
  | true=>rw[hn1 q];simp
  | false=>cases isO t [123] <;> simp
 ·simp only
  symm;simp
 ·cases q;have ee:(Fo.endT l {x' with out:=x'.out ++ sepR l src p (tokI i t)++ t.text,opn:=if isO t [123]then x'.opn + 1 else x'.opn,last:=i,line:=t.line,semi:=false,aside:=false}).line=t.line:=by
   unfold Fo.endT;simp only;rw[if_neg (by omega),Int.toNat_natCast,hg];rfl
  exact⟨rfl,hl.1,rfl,fun _=>by simp only;rw[ee];exact Int.le_refl _,fun _=>⟨by simp only;omega,ee⟩⟩
end Rf
end Go.Proofs.Dm
set_option maxHeartbeats 4000000
namespace Go.Proofs.Dm
open Go Go.Proofs Go.Proofs.Dm.Sc
open Fo (isO zeroT LS nlB spB pad trimR)
namespace Rf
variable {l:List Tok} {src:List ByteArray}
theorem ahead_take (i:Nat):∀cs:List Com,(∀c∈cs,(i:Int)≤c.next)→Fo.aheadC i cs=takeI i cs
 | [],h=>rfl
 | c::cs,h=>by
  have h1:=h c (by simp);unfold Fo.aheadC takeI;rw[ahead_take i cs (fun d hd=>h d (by simp[hd]))]
  by_cases q:c.next=(i:Int)
  ·rw[if_pos q,if_pos (by omega)]
  ·rw[if_neg q,if_neg (by omega)]
theorem take_split (i:Nat):∀cs:List Com,cs=(takeI i cs).1 ++(takeI i cs).2
 | []=>rfl
 | c::cs=>by
  unfold takeI;split
  ·show c::cs=c::((takeI i cs).1 ++(takeI i cs).2);rw[←take_split i cs]
  ·rfl
theorem take_fst (i:Nat):∀cs:List Com,∀c∈(takeI i cs).1,c.next≤(i:Int)
 | [],c,h=>by cases h
 | d::cs,c,h=>by
  unfold takeI at h;split at h
  ·rename_i q;simp only[List.mem_cons]at h;rcases h with rfl | h
   ·exact q
   ·exact take_fst i cs c h
  ·cases h
theorem take_snd (i:Nat):∀cs:List Com,cs.Pairwise (fun b c=>b.line < c.line∧b.next≤c.next)→∀c∈(takeI i cs).2,(i:Int)< c.next
 | [],_,c,h=>by cases h
 | d::cs,hp,c,h=>by
  rw[List.pairwise_cons]at hp;unfold takeI at h;split at h
  ·exact take_snd i cs hp.2 c h
  ·rename_i q;simp only[List.mem_cons]at h;rcases h with rfl | h
   ·omega
   ·have:=(hp.1 c h).2;omega
structure Todo (l:List Tok) (src:List ByteArray) (p:Option It) (cs:List Com):Prop where
 pair:cs.Pairwise (fun b c=>b.line < c.line∧b.next≤c.next)
 line:∀c∈cs,1≤c.line∧c.line≤src.length
 next:∀c∈cs,0≤c.next∧c.next < l.length
 rel:∀c∈cs,∀(i:Nat) t,l[i]? =some t→(i:Int)< c.next→t.line≤c.line
 last:∀b,p=some b→b.com=true→∀c∈cs,b.line < c.line
theorem coms_ok {i:Nat} (hi:i≤l.length) (hb:∀j,0≤Gr.ob l j∧Gr.ob l j≤40):∀(cs rest:List Com) (x:LS) (p:Option It) (o:ByteArray),Inv l i x p o→(∀c∈cs,c.next=i)→Todo l src p (cs ++ rest)→
  ∃y p',Fo.comsS l src x cs=some y∧Inv l i y p' (outR l src p (cs.map comI) o)∧Todo l src p' rest∧p'=(cs.map comI).getLast?.or p
 | [],rest,x,p,o,h,hn,ht=>⟨x,p,rfl,h,ht,rfl⟩
 | c::cs,rest,x,p,o,h,hn,ht=>by
  have hc:=hn c (by simp);have hlast:x.last < i:=by
   rcases h.last with q | ⟨j,q1,q2,_⟩ <;> omega
  obtain⟨y,h1,h2⟩:=com_step (src:=src) (c:=c) h hi hb hc (ht.line c (by simp)) (fun b q1 q2=>ht.last b q1 q2 c (by simp)) (fun t g1 g2=>ht.rel c (by simp) x.last.toNat t g1 (by omega));have hp:=ht.pair;rw[List.cons_append,List.pairwise_cons]at hp;have ht2:Todo l src (some (comI c)) (cs ++ rest):=⟨hp.2,fun d hd=>ht.line d (by simp only[List.cons_append,List.mem_cons];exact .inr hd),fun d hd=>ht.next d (by simp only[List.cons_append,List.mem_cons];exact .inr hd),fun d hd=>ht.rel d (by simp only[List.cons_append,List.mem_cons];exact .inr hd),
   fun b q1 q2 d hd=>by cases q1;exact(hp.1 d hd).1⟩
  obtain⟨z,p',g1,g2,g3,g4⟩:=coms_ok hi hb cs rest y (some (comI c)) _ h2 (fun d hd=>hn d (by simp[hd])) ht2;refine⟨z,p',?_,g2,g3,?_⟩
  ·unfold Fo.comsS;rw[h1];exact g1
  ·rw[g4];cases cs with
   | nil=>rfl
   | cons d cs=>
    rw[List.map_cons (a:=c),List.map_cons (a:=d),List.getLast?_cons_cons];cases hq:(comI d::cs.map comI).getLast? with
    | none=>simp at hq
    | some z=>rfl
theorem go_ok (hb:∀j,0≤Gr.ob l j∧Gr.ob l j≤40) (hl:∀t∈l,1≤t.line∧t.line≤(src.length:Int)) (hk:∀i t,l[i]? =some t→t.kind=7→l.length=i + 1):
  ∀(ts:List Tok) (i:Nat) (x:LS) (p:Option It) (o:ByteArray) (cs:List Com),l.drop i=ts→i≤l.length→Inv l i x p o→(∀c∈cs,(i:Int)≤c.next)→Todo l src p cs→
   ∃y,Fo.goS l src ts i x cs=some (y,[])∧y.out=outR l src p (itemsG ts i cs) o
 | [],i,x,p,o,cs,hd,hi,h,hn,ht=>by
  have hl:l.length≤i:=by
   have:=congrArg List.length hd;simp only[List.length_drop,List.length_nil]at this;omega
  have:cs= []:=by
   cases cs with
   | nil=>rfl
   | cons c cs=>
    have:=(ht.next c (by simp)).2;have:=hn c (by simp);omega
  subst this;exact⟨x,rfl,h.out⟩
 | t::ts,i,x,p,o,cs,hd,hi,h,hn,ht=>by
  have hg:l[i]? =some t:=by
   have:=congrArg List.head? hd;rw[List.head?_drop]at this;exact this
  have hlt:i < l.length:=by
   rcases Nat.lt_or_ge i l.length with q | q
   ·exact q
   ·rw[List.getElem?_eq_none q]at hg;cases hg
  have hd2:l.drop (i + 1)=ts:=by
   rw[←List.tail_drop,hd,List.tail_cons]
  have hsp:=take_split i cs;have hnx:∀c∈(takeI i cs).1,c.next=(i:Int):=fun c hc=>by
   have h1:=take_fst i cs c hc;have h2:=hn c (by rw[hsp];simp[hc]);omega
  have ht':Todo l src p ((takeI i cs).1 ++(takeI i cs).2):=by rw[←hsp];exact ht
  obtain⟨y,p',g1,g2,g3,g4⟩:=coms_ok (by omega) hb (takeI i cs).1 (takeI i cs).2 x p o h hnx ht';have hrest:∀c∈(takeI i cs).2,((i + 1:Nat):Int)≤c.next:=fun c hc=>by
   have:=take_snd i cs ht.pair c hc;omega
  unfold Fo.goS itemsG;rw[ahead_take i cs hn,g1];simp only;rw[outR_app,←g4];unfold Fo.oneS
  by_cases h6:t.kind=6
  ·rw[if_pos h6];simp only;have e1:(t.kind !=6&&t.kind !=7)=false:=by rw[h6];rfl
   rw[e1];simp only[Bool.false_eq_true,if_false,List.nil_append];have hob:Gr.ob l (i + 1)=Gr.ob l i:=by
    rw[ob_step hg];unfold La.opT Fo.isO;rw[h6];rfl
   have hi2:Inv l (i + 1) {y with semi:=true} p' (outR l src p ((takeI i cs).1.map comI) o):=by
    refine⟨g2.out,g2.opn.trans hob.symm,?_,fun k q1 q2=> ?_,?_,g2.none_,g2.some_⟩
    ·rcases g2.last with q | ⟨j,q1,q2,q3⟩
     ·exact .inl q
     ·exact .inr ⟨j,q1,by omega,q3⟩
    ·rcases Nat.lt_or_ge k i with q | q
     ·exact g2.semis k q1 q
     ·have:k=i:=by omega
      subst this;rw[tk_get hg];exact h6
    ·simp only
     symm
     rw[decide_eq_true_eq];rcases g2.last with q | ⟨j,q1,q2,q3⟩ <;> omega
   exact go_ok hb hl hk ts (i + 1) _ p' _ (takeI i cs).2 hd2 (by omega) hi2 hrest g3
  ·rw[if_neg h6]
   by_cases h7:t.kind=7
   ·rw[if_pos h7];simp only;have e1:(t.kind !=6&&t.kind !=7)=false:=by rw[h7];rfl
    rw[e1];simp only[Bool.false_eq_true,if_false,List.nil_append];have hlen:=hk i t hg h7;have hts:ts= []:=by
     rw[←hd2];exact List.drop_eq_nil_of_le (by omega)
    have hcs:(takeI i cs).2= []:=by
     cases hq:(takeI i cs).2 with
     | nil=>rfl
     | cons c r=>
      have q1:=hrest c (by rw[hq];simp);have q2:=(g3.next c (by rw[hq];simp)).2;omega
    rw[hts,hcs];exact⟨y,rfl,g2.out⟩
   ·rw[if_neg h7];have e1:(t.kind !=6&&t.kind !=7)=true:=by
     rw[Bool.and_eq_true,bne_iff_ne,bne_iff_ne];exact⟨h6,h7⟩
    rw[e1];simp only[if_true,List.cons_append,List.nil_append];obtain⟨z,k1,k2⟩:=tok_step (src:=src) g2 hb hg h6 (hl t (List.mem_of_getElem? hg));rw[k1];simp only;refine go_ok hb hl hk ts (i + 1) z (some (tokI i t)) _ (takeI i cs).2 hd2 (by omega) k2 hrest ⟨g3.pair,g3.line,g3.next,g3.rel,fun b q1 q2=>by (cases q1;cases q2)⟩
theorem lay_ok {s:ByteArray} {l:List Tok} {cs:List Com} (h:Gr.Scanned s l cs) (hb:∀j,0≤Gr.ob l j∧Gr.ob l j≤40):Fo.layS l cs (Fo.linesP s)=some (layR l cs (Fo.linesP s)):=by
 have h0:Inv l 0 Fo.ls0 none ⟨#[]⟩:=⟨rfl,rfl,.inl rfl,fun k q1 q2=>by omega,rfl,fun _=>⟨rfl,rfl,rfl⟩,fun b q=>by cases q⟩
 obtain⟨y,h1,h2⟩:=go_ok (src:=Fo.linesP s) hb h.toks h.kinds l 0 Fo.ls0 none ⟨#[]⟩ cs rfl (Nat.zero_le _) h0 (fun c hc=>(h.next c hc).1) ⟨h.cpair,h.coms,h.next,fun c hc i t q1 q2=>(h.rel c hc i t q1).1 q2,fun b q=>by cases q⟩;unfold Fo.layS;rw[h1];simp only[Fo.comsS];rw[h2];rfl
structure SI (s:ByteArray) (x:SS):Prop where
 at_:x.at_≤s.size
 len:x.c.length≤x.at_
 txt:∀c∈x.c,c.text.size≤s.size
theorem SI.step {s:ByteArray} {x y:SS} (h1:x.at_ < s.size) (h:SI s x) (q:Sc.step s x=some y):SI s y:=by
 have hle:=step_ok h1 q;have ec:(Sc.semi x).c=x.c:=by unfold Sc.semi;split <;> rfl
 refine⟨hle.2.1,by have:=h.len;omega,?_⟩;cases Gr.step_adds h1 q with
 | blank h'=>subst h';exact h.txt
 | line h'=>subst h';intro c hc;simp only at hc;rw[ec]at hc;exact h.txt c hc
 | note h'=>
  subst h';intro c hc;simp only[Sc.note,List.mem_append,List.mem_singleton]at hc;rcases hc with hc | rfl
  ·exact h.txt c hc
  ·simp only[ByteArray.size_extract];omega
 | tok k e h'=>subst h';exact h.txt
theorem last_si (s:ByteArray):SI s (Gr.lastS s):=Gr.loop_inv (I:=SI s) (fun x y h1 h2 h3=>SI.step h1 h2 h3) _ _ ⟨Nat.zero_le _,Nat.zero_le _,fun t ht=>by cases ht⟩
end Rf
end Go.Proofs.Dm
set_option maxHeartbeats 4000000
namespace Go.Proofs.Dm
open Go Go.Proofs Go.Proofs.Dm.Sc
open Fo (isO zeroT LS nlB spB pad trimR)
namespace Rf
theorem sized_ok {s:ByteArray} (hs:s.size < 100000) (hf:(scanP s).2.2 < 0):Fo.sizedB (scanP s).1 (scanP s).2.1 (Fo.linesP s)=true:=by
 have h:=Gr.scanned hf;obtain⟨_,_,hl⟩:=Gr.scan_good (s:=s) (by omega) hf;obtain⟨_,e2,_⟩:=Gr.scan_last hf;have hc:=last_si s;have hlen:=Gr.lines_len s;have hcount:s.data.toList.count 10≤s.size:=by rw[ba_size];exact List.count_le_length
 have hc1:=hc.len;have hc2:=hc.at_;simp only[Fo.sizedB,Bool.and_eq_true,List.all_eq_true,decide_eq_true_eq];refine⟨⟨⟨⟨by omega,by rw[e2];omega⟩,fun t ht=> ?_⟩,fun c q=> ?_⟩,fun x hx=> ?_⟩
 ·have h1:=h.toks t ht;have h2:=(Gr.scan_tb t ht).2.2;omega
 ·have h1:=h.coms c q;have h2:=h.next c q;rw[e2]at q;have h3:=hc.txt c q;omega
 ·have:=lines_short s x hx;omega
def fmtP (s:ByteArray):List UInt8×Int:=
 if 0≤(Gr.textP s).2.2 then([],(Gr.textP s).2.2)else
  if 2000 <(layR (scanP s).1 (scanP s).2.1 (Fo.linesP s)).size then([],2000)else((layR (scanP s).1 (scanP s).2.1 (Fo.linesP s)).data.toList,-1)
theorem fmtE_ok {s:ByteArray} (hs:s.size < 100000):Fo.fmtE s=some (fmtP s):=by
 unfold Fo.fmtE fmtP
 by_cases h:0≤(Gr.textP s).2.2
 ·rw[if_pos h,decide_eq_true h,if_pos rfl]
 ·rw[if_neg h,decide_eq_false h,if_neg (by decide)];obtain⟨h1,h2,h3⟩:=Gr.text_bal (s:=s) (by omega) (by omega);rw[h2];unfold Fo.layE;rw[if_pos (sized_ok hs h1),lay_ok (Gr.scanned h1) h3]
end Rf
end Go.Proofs.Dm
