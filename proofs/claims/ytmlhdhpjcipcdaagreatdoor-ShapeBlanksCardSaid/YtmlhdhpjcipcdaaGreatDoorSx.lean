/- Part of the proof: what the walked functions compute. No condition. -/
import Derived.Test.YtmlhdhpjcipcdaaGreatDoorYz
import Derived.Test.YtmlhdhpjcipcdaaGreatDoorSb
import Derived.Lib.IndexLaws
import Derived.Lib.IndexBytes
import Derived.Test.YtmlhdhpjcipcdaaGreatDoorHd
import Derived.Lib.DecodeN
import Derived.Test.YtmlhdhpjcipcdaaGreatDoorHb
import Derived.Test.YtmlhdhpjcipcdaaGreatDoorVc
import Derived.Test.YtmlhdhpjcipcdaaGreatDoorHe
import Derived.Test.YtmlhdhpjcipcdaaGreatDoorHa
import Derived.Test.YtmlhdhpjcipcdaaGreatDoorRi
import Derived.Test.YtmlhdhpjcipcdaaGreatDoorPa
import Derived.Test.YtmlhdhpjcipcdaaGreatDoorPf
import Derived.Test.YtmlhdhpjcipcdaaGreatDoorPh
import Derived.Test.YtmlhdhpjcipcdaaGreatDoorRd
import Derived.Test.YtmlhdhpjcipcdaaGreatDoorPb
import Derived.Test.YtmlhdhpjcipcdaaGreatDoorPd
import Derived.Test.YtmlhdhpjcipcdaaGreatDoorTe
import Derived.Test.YtmlhdhpjcipcdaaGreatDoorPc
import Derived.Test.YtmlhdhpjcipcdaaGreatDoorLSh
import Derived.Test.YtmlhdhpjcipcdaaGreatDoorPe
import Derived.Test.YtmlhdhpjcipcdaaGreatDoorDk
import Derived.Test.YtmlhdhpjcipcdaaGreatDoorRb
import Derived.Test.YtmlhdhpjcipcdaaGreatDoorGc
import Derived.Test.YtmlhdhpjcipcdaaGreatDoorSc
import Derived.Test.YtmlhdhpjcipcdaaGreatDoorSa
import Derived.Test.YtmlhdhpjcipcdaaGreatDoorRc
import Derived.Test.YtmlhdhpjcipcdaaGreatDoorHc
import Derived.Test.YtmlhdhpjcipcdaaGreatDoorGb
import Derived.Test.YtmlhdhpjcipcdaaGreatDoorDa
import Derived.Test.YtmlhdhpjcipcdaaGreatDoorRa
import Derived.Test.YtmlhdhpjcipcdaaGreatDoorFa
import Derived.Test.YtmlhdhpjcipcdaaGreatDoorTa
import Derived.Test.YtmlhdhpjcipcdaaGreatDoorLS1
import Derived.Test.YtmlhdhpjcipcdaaGreatDoorSd
import Derived.Test.YtmlhdhpjcipcdaaGreatDoorLF
import Derived.Test.YtmlhdhpjcipcdaaGreatDoorDn
import Derived.Test.YtmlhdhpjcipcdaaGreatDoorGa
import Derived.Test.YtmlhdhpjcipcdaaGreatDoorDe
set_option linter.unusedSimpArgs false
set_option linter.unusedVariables false
set_option maxHeartbeats 4000000
namespace Go.Proofs.Dm
open Go Go.Proofs Go.Proofs.Dm.Sc
namespace Gr
def spl:List UInt8→List (List UInt8)
 | []=> [[]]
 | c::r=>if c=10 then []::spl r else match spl r with
  | h::t=>(c::h)::t
  | []=> [[c]]
theorem spl_ne:∀r:List UInt8,spl r≠ []
 | []=>by simp[spl]
 | c::r=>by
  unfold spl;split
  ·simp
  ·split <;> simp
theorem spl_last:∀p:List UInt8,(10:UInt8)∉p→spl p= [p]
 | [],h=>rfl
 | c::r,h=>by
  simp only[List.mem_cons,not_or]at h;unfold spl;rw[if_neg (fun e=>h.1 e.symm),spl_last r h.2]
theorem spl_app:∀(p r:List UInt8),(10:UInt8)∉p→spl (p ++ 10::r)=p::spl r
 | [],r,h=>by
  show spl (10::r)=_;rw[spl,if_pos rfl]
 | c::p,r,h=>by
  simp only[List.mem_cons,not_or]at h;show spl (c::(p ++ 10::r))=_;rw[spl,if_neg (fun e=>h.1 e.symm),spl_app p r h.2]
theorem split_spl:∀(k:Nat) (s:List UInt8),Lib.count s [10]≤k→Lib.splitK [10] 0 k s=spl s
 | k,s,h=>by
  have e:=Lib.index_one s 10;have hge:=Lib.indexByte_ge s 10;rcases Int.lt_or_le (Lib.indexByte s 10) 0 with q | q
  ·have q1:Lib.indexByte s 10= -1:=by omega
   have hno:(10:UInt8)∉s:=by
    intro hm;obtain⟨i,hi⟩:=List.mem_iff_getElem?.1 hm;exact Lib.indexByte_none q1 i hi
   rw[spl_last s hno];cases k with
   | zero=>rfl
   | succ k=>
    unfold Lib.splitK;rw[e,q1];rfl
  ·obtain⟨i,hi⟩:=Int.eq_ofNat_of_zero_le q;obtain⟨h1,h2⟩:=Lib.indexByte_some hi;have hc:=Lib.count_hit (s:=s) (sub:= [10]) (i:=i) (by simp) (by rw[e,hi]);cases k with
   | zero=>omega
   | succ k=>
    unfold Lib.splitK;have hil:i < s.length:=by
     rcases Nat.lt_or_ge i s.length with q | q
     ·exact q
     ·rw[List.getElem?_eq_none q]at h1;cases h1
    have hne:((i:Int)== -1)=false:=by rw[beq_eq_false_iff_ne];omega
    rw[e,hi,hne];simp only[Bool.false_eq_true,if_false,Int.toNat_natCast,Nat.add_zero,List.length_singleton];rw[split_spl k _ (by simp only[List.length_singleton]at hc;omega)];have hs:s=s.take i ++ 10::s.drop (i + 1):=by
     have hd:=List.drop_eq_getElem_cons hil;have hg:s[i]=10:=by
      rw[List.getElem?_eq_getElem hil]at h1;injection h1
     rw[hg]at hd;rw[←hd,List.take_append_drop]
    conv=>rhs;rw[hs]
    rw[spl_app];intro hm;obtain⟨j,hj⟩:=List.mem_iff_getElem?.1 hm;rw[List.getElem?_take]at hj;split at hj
    ·rename_i hji;exact h2 j hji hj
    ·cases hj
termination_by k s _=>k
theorem lines_spl (s:ByteArray):(Fo.linesP s).map (·.data.toList)=spl s.data.toList:=by
 unfold Fo.linesP;rw[Lib.splitB_data];exact split_spl _ _ (Nat.le_refl _)
theorem map_data_inj:∀(a b:List ByteArray),a.map (·.data.toList)=b.map (·.data.toList)→a=b
 | [],[],h=>rfl
 | [],_::_,h=>by simp at h
 | _::_,[],h=>by simp at h
 | x::a,y::b,h=>by
  simp only[List.map_cons,List.cons.injEq]at h;rw[ba_ext h.1,map_data_inj a b h.2]
end Gr
open Fo (isO zeroT LS nlB spB pad trimR)
namespace Rf
structure It where
 tok:Int
 line:Int
 note:ByteArray
 com:Bool
def tk (l:List Tok) (i:Nat):Tok:=(l[i]?).getD zeroT
theorem dropWhile_nil {α:Type} {p:α→Bool}:∀{r:List α},r.dropWhile p= []↔∀x∈r,p x=true
 | []=>by simp
 | c::r=>by
  rw[List.dropWhile_cons];split
  ·rename_i h;rw[dropWhile_nil];simp[h]
  ·rename_i h;constructor
   ·intro q;cases q
   ·intro q;exact absurd (q c (by simp)) h
def comI (c:Com):It:=⟨c.next,c.line,trimR c.text,true⟩
def tokI (i:Nat) (t:Tok):It:=⟨i,t.line,⟨#[]⟩,false⟩
def lastR (l:List Tok):Nat→Tok
 | 0=>zeroT
 | n + 1=>if(tk l n).kind==6 then lastR l n else tk l n
def atR (l:List Tok):Nat→Nat
 | 0=>0
 | n + 1=>if(tk l n).kind==6 then atR l n else n
def onR (a:Tok):Bool:=a.kind !=6&& !isO a [123]&& !isO a [125]
def shutR (l:List Tok) (x:It):Bool:= !x.com&&isO (tk l x.tok.toNat) [125]
def tabsR (l:List Tok) (x:It):Int:=
 let n:=La.opens (l.take x.tok.toNat)
 let m:=if shutR l x then n - 1 else n
 if decide (0 < x.tok)&& !shutR l x then(if onR (tk l (x.tok.toNat - 1))then m + 1 else m)else m
def breaksR (l:List Tok) (b x:It):Bool:=
 if x.com then b.com || b.line !=x.line
 else if b.com then true
 else if isO (lastR l x.tok.toNat) [123]then !isO (tk l x.tok.toNat) [125]
 else if(tk l (x.tok.toNat - 1)).kind==6 then true else isO (tk l x.tok.toNat) [125]
def gapN (src:List ByteArray):Nat→Nat→Bool
 | 0,_=>false
 | n + 1,k=>if(trimR ((src[k]?).getD ⟨#[]⟩)).toList== []then true else gapN src n (k + 1)
def gapR (l:List Tok) (src:List ByteArray) (b x:It):Bool:=
 if isO (lastR l x.tok.toNat) [123] || shutR l x then false else gapN src (x.line - 1 - b.line).toNat b.line.toNat
def spaceR (l:List Tok) (tok:Nat):Bool:=
 let at_:=atR l tok
 Fo.spaceT (if 1≤at_ then tk l (at_ - 1)else zeroT) (tk l at_) (tk l tok)
def textR (l:List Tok) (x:It):ByteArray:=if x.com then x.note else(tk l x.tok.toNat).text
def sepR (l:List Tok) (src:List ByteArray):Option It→It→ByteArray
 | none,x=>pad (tabsR l x).toNat
 | some b,x=>if breaksR l b x then(if gapR l src b x then nlB ++ nlB else nlB)++ pad (tabsR l x).toNat
  else if x.com then spB else if spaceR l x.tok.toNat then spB else⟨#[]⟩
def outR (l:List Tok) (src:List ByteArray):Option It→List It→ByteArray→ByteArray
 | _,[],o=>o
 | p,x::xs,o=>outR l src (some x) xs (o ++ sepR l src p x ++ textR l x)
theorem spl_short:∀(r:List UInt8),∀p∈Gr.spl r,p.length≤r.length
 | [],p,h=>by
  simp only[Gr.spl,List.mem_singleton]at h;subst h;exact Nat.le_refl _
 | c::r,p,h=>by
  have ih:=spl_short r;unfold Gr.spl at h;split at h
  ·simp only[List.mem_cons]at h;rcases h with rfl | h
   ·exact Nat.zero_le _
   ·have:=ih p h;simp only[List.length_cons];omega
  ·split at h
   ·rename_i hd tl hr;simp only[List.mem_cons]at h;rcases h with rfl | h
    ·have:=ih hd (by rw[hr];simp);simp only[List.length_cons];omega
    ·have:=ih p (by rw[hr];simp[h]);simp only[List.length_cons];omega
   ·simp only[List.mem_singleton]at h;subst h;simp
end Rf
end Go.Proofs.Dm
set_option maxHeartbeats 4000000
namespace Go.Proofs.Dm
open Go Go.Proofs Go.Proofs.Dm.Sc
namespace Gr
variable {α β:Type} {l:List Tok} {P:Nat→Prop}
def ob (l:List Tok) (i:Nat):Int:=La.opens (l.take i)
theorem ob_next (l:List Tok) (i:Nat):ob l (i + 1)=La.opT (ob l i) (tokAt l i):=by
 unfold ob;cases h:l[i]? with
 | some t=>
  rw[La.opens_take l i t h];simp only[tokAt,h,Option.getD_some]
 | none=>
  have e:l.take (i + 1)=l.take i:=by rw[List.take_add_one,h];simp
  rw[e];simp only[tokAt,h,Option.getD_none];rfl
def nbr (l:List Tok) (i:Nat):Prop:=Fo.isO (tokAt l i) [123]=false∧Fo.isO (tokAt l i) [125]=false
theorem ob_nbr {i:Nat} (h:nbr l i):ob l (i + 1)=ob l i:=by
 rw[ob_next];unfold La.opT;rw[h.1,h.2];rfl
def Bal (l:List Tok) (m:Nat) (a a':Nat):Prop:=a≤a'∧ob l a'=ob l a∧∀i,a≤i→i≤a'→ob l a≤ob l i∧ob l i≤ob l a + m
theorem Bal.refl {m a:Nat}:Bal l m a a:=⟨Nat.le_refl _,rfl,fun i h g=>by
 have:i=a:=by omega
 subst this;omega⟩
theorem Bal.trans {m a b c:Nat} (h:Bal l m a b) (g:Bal l m b c):Bal l m a c:=by
 refine⟨Nat.le_trans h.1 g.1,g.2.1.trans h.2.1,fun i h1 h2=> ?_⟩;rcases Nat.le_total i b with q | q
 ·exact h.2.2 i h1 q
 ·have:=g.2.2 i q h2;have:=h.2.1;omega
theorem Bal.mono {m n a b:Nat} (h:Bal l m a b) (hm:m≤n):Bal l n a b:=⟨h.1,h.2.1,fun i h1 h2=>by have:=h.2.2 i h1 h2;omega⟩
theorem Bal.one {m a:Nat} (h:nbr l a):Bal l m a (a + 1):=by
 have e:=ob_nbr h;refine⟨by omega,e,fun i h1 h2=> ?_⟩;have:i=a∨i=a + 1:=by omega
 rcases this with rfl | rfl <;> omega
def Br (l:List Tok) (P:Nat→Prop) (s:G α):Prop:=∀d a x a',d≤40→P a→s d a= .ok x a'→Bal l (40 - d) a a'
theorem bind_ok {s:G α} {t:α→G β} {d a:Nat} {x:β} {a':Nat} (h:Gr.bind s t d a= .ok x a'):∃y b,s d a= .ok y b∧t y d b= .ok x a':=by
 unfold Gr.bind at h;cases hs:s d a with
 | ok y b=>rw[hs]at h;exact⟨y,b,rfl,h⟩
 | bad k=>rw[hs]at h;cases h
 | out=>rw[hs]at h;cases h
theorem Br.use {s:G α} (h:Br l Any s):Br l P s:=fun d a x a' hd _ q=>h d a x a' hd True.intro q
theorem Br.bind {s:G α} {t:α→G β} (h:Br l P s) (ht:∀x,Br l Any (t x)):Br l P (Gr.bind s t):=by
 intro d a x a' hd hp q;obtain⟨y,b,h1,h2⟩:=bind_ok q;exact(h d a y b hd hp h1).trans (ht y d b x a' hd True.intro h2)
theorem adv_ok {d a:Nat} {x:Int} {a':Nat} (h:adv l d a= .ok x a'):a'=a + 1∧(tokAt l a).kind≠7:=by
 unfold adv at h;split at h
 ·cases h
 ·rename_i q;cases h;exact⟨rfl,by simpa using q⟩
theorem Br.adv {t:Int→G β} (hp:∀a,P a→nbr l a) (ht:∀x,Br l Any (t x)):Br l P (Gr.bind (adv l) t):=Br.bind (fun d a x a' hd h q=>by
 obtain⟨rfl,_⟩:=adv_ok q;exact Bal.one (hp a h)) ht
theorem nbr_kind {i:Nat} (h:(tokAt l i).kind≠4):nbr l i:=by
 have:((tokAt l i).kind==4)=false:=by simpa using h
 exact⟨by unfold Fo.isO;rw[this];rfl,by unfold Fo.isO;rw[this];rfl⟩
theorem nbr_text {i:Nat} (h1:(tokAt l i).text.toList≠ [123]) (h2:(tokAt l i).text.toList≠ [125]):nbr l i:=by
 have e1:((tokAt l i).text.toList== [123])=false:=by simpa using h1
 have e2:((tokAt l i).text.toList== [125])=false:=by simpa using h2
 exact⟨by unfold Fo.isO;rw[e1,Bool.and_false],by unfold Fo.isO;rw[e2,Bool.and_false]⟩
theorem nbr_word {i:Nat} {s:ByteArray} (h:Pp.word (tokAt l i) s=true) (h1:s.data.toList≠ [123]) (h2:s.data.toList≠ [125]):nbr l i:=by
 unfold Pp.word at h;rw[←Lib.toList_data]at h1 h2;rw[Bool.and_eq_true,beq_iff_eq]at h;exact nbr_text (by rw[h.2];exact h1) (by rw[h.2];exact h2)
theorem kind_ok {k:Int} {d a:Nat} {x:Int} {a':Nat} (h:kindG l k d a= .ok x a'):a'=a + 1∧(tokAt l a).kind=k:=by
 unfold kindG at h;split at h
 ·rename_i q;split at h
  ·cases h
  ·cases h;exact⟨rfl,by simpa using q⟩
 ·cases h
theorem want_ok {s:ByteArray} {d a:Nat} {x:Int} {a':Nat} (h:wantG l s d a= .ok x a'):a'=a + 1∧Pp.word (tokAt l a) s=true:=by
 unfold wantG at h;split at h
 ·rename_i q;cases h;exact⟨rfl,q⟩
 ·cases h
theorem Br.kind {k:Int} {t:Int→G β} (hk:k≠4) (ht:∀x,Br l Any (t x)):Br l P (Gr.bind (kindG l k) t):=Br.bind (fun d a x a' hd h q=>by
 obtain⟨rfl,hk'⟩:=kind_ok q;exact Bal.one (nbr_kind (by rw[hk'];exact hk))) ht
theorem Br.want {s:ByteArray} {t:Int→G β} (h1:s.data.toList≠ [123]) (h2:s.data.toList≠ [125]) (ht:∀x,Br l Any (t x)):Br l P (Gr.bind (wantG l s) t):=Br.bind (fun d a x a' hd h q=>by
 obtain⟨rfl,hk'⟩:=want_ok q;exact Bal.one (nbr_word hk' h1 h2)) ht
def PW (l:List Tok) (s:ByteArray) (a:Nat):Prop:=Pp.word (tokAt l a) s=true
theorem Br.isI {s:ByteArray} {A B:G β} (h1:Br l (PW l s) A) (h2:Br l P B):Br l P (Gr.bind (isG l s) fun b=>Gr.ite b A B):=by
 intro d a x a' hd hp q;unfold Gr.bind isG at q;dsimp only[Res.andThen]at q;unfold Gr.ite at q;split at q
 ·rename_i hw;exact h1 d a x a' hd hw q
 ·exact h2 d a x a' hd hp q
def PL (l:List Tok) (P:Nat→Prop) (k:Nat) (t:Tok) (a:Nat):Prop:=P a∧tokAt l (a + k)=t
theorem Br.look {k:Nat} {t:Tok→G β} (ht:∀x,Br l (PL l P k x) (t x)):Br l P (Gr.bind (Gr.look l k) t):=fun d a x a' hd hp q=>ht _ d a x a' hd ⟨hp,rfl⟩ q
theorem Br.here {t:Int→G β} (ht:∀x,Br l P (t x)):Br l P (Gr.bind Gr.here t):=fun d a x a' hd hp q=>ht _ d a x a' hd hp q
theorem semis_bal:∀(n d a:Nat) (x:Unit) (a' m:Nat),semisG l n d a= .ok x a'→Bal l m a a'
 | 0,d,a,x,a',m,h=>by cases h
 | n + 1,d,a,x,a',m,h=>by
  unfold semisG at h;split at h
  ·rename_i hk;exact(Bal.one (nbr_kind (by rw[beq_iff_eq]at hk;omega))).trans (semis_bal n d (a + 1) x a' m h)
  ·cases h;exact Bal.refl
theorem Br.semis {n:Nat} {t:Unit→G β} (ht:∀x,Br l Any (t x)):Br l P (Gr.bind (semisG l n) t):=Br.bind (fun d a x a' hd h q=>semis_bal n d a x a' _ q) ht
theorem Br.iteP {c:Bool} {s t:G α} (h1:c=true→Br l P s) (h2:c=false→Br l P t):Br l P (Gr.ite c s t):=by
 cases c
 ·exact h2 rfl
 ·exact h1 rfl
theorem Br.pure {x:α}:Br l P (Gr.pure x):=fun d a y a' hd hp q=>by
 unfold Gr.pure at q;cases q;exact Bal.refl
theorem Br.fail:Br l P (Gr.fail:G α):=fun d a y a' hd hp q=>by cases q
theorem Br.stop:Br l P (Gr.stop:G α):=fun d a y a' hd hp q=>by cases q
theorem Br.nest {s:G α} (h:Br l P s):Br l P (Gr.nest s):=fun d a y a' hd hp q=>by
 unfold Gr.nest at q;split at q
 ·cases q
 ·exact(h (d + 1) a y a' (by omega) hp q).mono (by omega)
theorem Br.adv2 {Q R:Nat→Prop} {t:Int→Int→G β} (hp:∀a,P a→nbr l a∧nbr l (a + 1)) (ht:∀x y,Br l Any (t x y)):Br l P (Gr.bind (Gr.adv l) fun x=>Gr.bind (Gr.adv l) fun y=>t x y):=by
 intro d a x a' hd h q;obtain⟨y,b,h1,h2⟩:=bind_ok q;obtain⟨z,c,h3,h4⟩:=bind_ok h2;obtain⟨rfl,_⟩:=adv_ok h1;obtain⟨rfl,_⟩:=adv_ok h3;exact((Bal.one (hp a h).1).trans (Bal.one (hp a h).2)).trans (ht _ _ d _ x a' hd True.intro h4)
theorem brace_word {t:Tok} {b:UInt8} (hk:t.kind=5→isIn keys t.text=true) (hb:b=123∨b=125) (h:Pp.word t ⟨#[b]⟩=true):Fo.isO t [b]=true:=by
 unfold Pp.word at h;rw[Bool.and_eq_true,Bool.or_eq_true,beq_iff_eq,beq_iff_eq,beq_iff_eq]at h;have e:t.text.toList= [b]:=by rw[h.2,Lib.toList_data]
 rcases h.1 with q | q
 ·unfold Fo.isO;rw[q,e];simp
 ·exfalso
  have h1:=hk q;simp only[isIn,List.any_eq_true,eqB,beq_iff_eq]at h1;obtain⟨x,hx,he⟩:=h1;rw[e]at he;have h2:keys.all (fun x=> !(x.toList== [123])&& !(x.toList== [125]))=true:=by kernel_rfl
  have h3:=List.all_eq_true.1 h2 x hx;rw[←he]at h3;rcases hb with rfl | rfl <;> simp at h3
def KTs (l:List Tok):Prop:=∀i,(tokAt l i).kind=5→isIn keys (tokAt l i).text=true
theorem br_curlyL {S:GN} (hS:Br l Any S) {N:Nat}:∀(n:Nat) (ks:List Nd),Br l Any (curlyLG l S N n ks)
 | 0,ks=>Br.stop
 | n + 1,ks=>Br.isI Br.pure (Br.bind hS fun x=>Br.isI (Br.use (br_curlyL hS n _)) (Br.kind (by decide) fun _=>Br.semis fun _=>br_curlyL hS n _))
theorem br_curly (hK:KTs l) {S:GN} (hS:Br l Any S) {N:Nat}:Br l Any (curlyG l S N):=by
 intro d a x a' hd _ q;unfold curlyG at q;obtain⟨b0,c0,h0,q⟩:=bind_ok q;unfold isG at h0;cases h0;unfold Gr.ite at q;split at q
 rotate_left
 ·cases q
 rename_i hw;unfold Gr.nest at q;split at q
 ·cases q
 rename_i hd2;obtain⟨y,b,h1,h2⟩:=bind_ok q;obtain⟨rfl,_⟩:=adv_ok h1;obtain⟨z,c,h3,h4⟩:=bind_ok h2;obtain⟨ks,e,h5,h6⟩:=bind_ok h4;obtain⟨w,f,h7,h8⟩:=bind_ok h6;obtain⟨rfl,hw2⟩:=want_ok h7;unfold Gr.pure at h8;cases h8;have B:=(semis_bal N (d + 1) (a + 1) z c (40 -(d + 1)) h3).trans (br_curlyL hS N [] (d + 1) c ks e (by omega) True.intro h5);have o1:=brace_word (hK a) (.inl rfl) hw;have o2:=brace_word (hK e) (.inr rfl) hw2;have e1:ob l (a + 1)=ob l a + 1:=by rw[ob_next];unfold La.opT;rw[if_pos o1]
 have n2:Fo.isO (tokAt l e) [123]=false:=by
  unfold Fo.isO at o2⊢;rw[Bool.and_eq_true,beq_iff_eq,beq_iff_eq]at o2;rw[o2.2,Bool.and_eq_false_iff];right;decide
 have e2:ob l (e + 1)=ob l e - 1:=by rw[ob_next];unfold La.opT;rw[if_neg (by rw[n2];decide),if_pos o2]
 refine⟨by have:=B.1;omega,by have:=B.2.1;omega,fun i g1 g2=> ?_⟩;rcases Nat.lt_or_ge i (a + 1)with q1 | q1
 ·have:i=a:=by omega
  subst this;omega
 ·rcases Nat.lt_or_ge e i with q2 | q2
  ·have:i=e + 1:=by omega
   subst this;have:=B.2.1;omega
  ·have:=B.2.2 i q1 q2;omega
theorem br_typ:Br l P (typG l):=Br.kind (by decide) fun _=>Br.isI (Br.adv (fun a h=>nbr_word h (by decide) (by decide)) fun _=>Br.kind (by decide) fun _=>Br.pure) Br.pure
theorem br_variable {E:GN} (hE:Br l Any E):Br l (PW l ⟨#[118,97,114]⟩) (variableG l E):=Br.adv (fun a h=>nbr_word h (by decide) (by decide)) fun _=>Br.kind (by decide) fun _=>Br.bind br_typ fun _=>Br.isI (Br.adv (fun a h=>nbr_word h (by decide) (by decide)) fun _=>Br.bind hE fun _=>Br.pure) Br.pure
theorem br_constant {E:GN} (hE:Br l Any E):Br l (PW l ⟨#[99,111,110,115,116]⟩) (constantG l E):=Br.adv (fun a h=>nbr_word h (by decide) (by decide)) fun _=>Br.kind (by decide) fun _=>Br.want (by decide) (by decide) fun _=>Br.bind hE fun _=>Br.pure
theorem br_block (hK:KTs l) {S:GN} (hS:Br l Any S) {N:Nat}:Br l Any (blockG l S N):=Br.bind (br_curly hK hS) fun _=>Br.pure
theorem br_structure (hK:KTs l) {N:Nat}:Br l (PW l ⟨#[116,121,112,101]⟩) (structureG l N):=Br.adv (fun a h=>nbr_word h (by decide) (by decide)) fun _=>Br.kind (by decide) fun _=>Br.want (by decide) (by decide) fun _=>Br.bind (br_curly hK (Br.kind (by decide) fun _=>Br.bind br_typ fun _=>Br.pure)) fun _=>Br.pure
theorem br_funcL:∀(n:Nat) (ks:List Nd),Br l Any (funcLG l n ks)
 | 0,ks=>Br.stop
 | n + 1,ks=>Br.isI Br.pure (Br.kind (by decide) fun _=>Br.bind br_typ fun _=>Br.isI (Br.use (br_funcL n _)) (Br.want (by decide) (by decide) fun _=>Br.isI Br.fail (br_funcL n _)))
theorem br_function {C:GN} (hC:Br l Any C) {N:Nat}:Br l (PW l ⟨#[102,117,110,99]⟩) (functionG l C N):=Br.adv (fun a h=>nbr_word h (by decide) (by decide)) fun _=>Br.kind (by decide) fun _=>Br.want (by decide) (by decide) fun _=>Br.bind (br_funcL N []) fun _=>Br.want (by decide) (by decide) fun _=>
 Br.look fun _=>Br.iteP (fun _=>Br.bind br_typ fun _=>Br.bind hC fun _=>Br.pure) (fun _=>Br.bind (Br.use hC) fun _=>Br.pure)
theorem PL.nbr1 {k:Int} {t:Tok} {a:Nat} (hk:k≠4) (hc:(t.kind==k)=true) (h:PL l P 0 t a):nbr l a:=by
 have e:tokAt l a=t:=h.2;rw[beq_iff_eq]at hc;exact nbr_kind (by rw[e,hc];exact hk)
theorem br_leave {w:ByteArray} (h1:w.data.toList≠ [123]) (h2:w.data.toList≠ [125]) (k:Int):Br l (PW l w) (leaveG l k):=Br.adv (fun a h=>nbr_word h h1 h2) fun _=>Br.look fun _=>Br.iteP (fun hc=>Br.adv (fun a h=>PL.nbr1 (by decide) hc h) fun _=>Br.pure) (fun _=>Br.pure)
theorem br_branch {E C R:GN} (hE:Br l Any E) (hC:Br l Any C) (hR:Br l (PW l ⟨#[105,102]⟩) R):Br l (PW l ⟨#[105,102]⟩) (branchG l E C R):=Br.adv (fun a h=>nbr_word h (by decide) (by decide)) fun _=>Br.bind hE fun _=>Br.bind hC fun _=>
 Br.isI (Br.adv (fun a h=>nbr_word h (by decide) (by decide)) fun _=>Br.isI (Br.bind (Br.nest hR) fun _=>Br.pure) (Br.bind hC fun _=>Br.pure)) Br.pure
theorem br_loop {E C:GN} (hE:Br l Any E) (hC:Br l Any C):Br l (PW l ⟨#[102,111,114]⟩) (loopG l E C):=Br.adv (fun a h=>nbr_word h (by decide) (by decide)) fun _=>Br.bind hE fun _=>Br.bind hC fun _=>Br.pure
theorem br_back {E:GN} (hE:Br l Any E):Br l (PW l ⟨#[114,101,116,117,114,110]⟩) (backG l E):=Br.adv (fun a h=>nbr_word h (by decide) (by decide)) fun _=>Br.look fun _=>Br.iteP (fun _=>Br.pure) (fun _=>Br.isI Br.pure (Br.bind (Br.use hE) fun _=>Br.pure))
theorem br_rest {E:GN} (hE:Br l Any E):Br l P (restG l E):=Br.here fun _=>Br.bind (Br.use hE) fun _=>Br.isI (Br.adv (fun a h=>nbr_word h (by decide) (by decide)) fun _=>Br.bind hE fun _=>Br.pure) Br.pure
theorem br_simple {E L:GN} (hE:Br l Any E) (hL:Br l (PW l ⟨#[102,111,114]⟩) L):Br l P (simpleG l E L):=Br.look fun t=>Br.iteP (fun hc=>Br.look fun n=>Br.iteP
  (fun hw=>Br.adv2 (Q:=Any) (R:=Any) (fun a h=>⟨PL.nbr1 (by decide) hc h.1,nbr_word (by rw[h.2];exact hw) (by decide) (by decide)⟩) fun _ _=>Br.bind hE fun _=>Br.pure)
  (fun _=>Br.iteP (fun hw=>Br.adv2 (Q:=Any) (R:=Any) (fun a h=>⟨PL.nbr1 (by decide) hc h.1,nbr_word (by rw[h.2];exact hw) (by decide) (by decide)⟩) fun _ _=>Br.isI (Br.bind hL fun _=>Br.pure) Br.fail) (fun _=>br_rest hE)))
 (fun _=>br_rest hE)
theorem br_stmt {V C K I L R M:GN} (hV:Br l (PW l ⟨#[118,97,114]⟩) V) (hC:Br l (PW l ⟨#[99,111,110,115,116]⟩) C) (hK:Br l Any K) (hI:Br l (PW l ⟨#[105,102]⟩) I) (hL:Br l (PW l ⟨#[102,111,114]⟩) L) (hR:Br l (PW l ⟨#[114,101,116,117,114,110]⟩) R) (hM:Br l Any M):Br l Any (stmtG l V C K I L R M):=
 Br.isI hV (Br.isI hC (Br.isI (Br.use hK) (Br.isI hI (Br.isI hL (Br.isI hR (Br.isI (br_leave (by decide) (by decide) 17) (Br.isI (br_leave (by decide) (by decide) 18) hM)))))))
theorem br_decl {V C S F:GN} (hV:Br l (PW l ⟨#[118,97,114]⟩) V) (hC:Br l (PW l ⟨#[99,111,110,115,116]⟩) C) (hS:Br l (PW l ⟨#[116,121,112,101]⟩) S) (hF:Br l (PW l ⟨#[102,117,110,99]⟩) F):Br l Any (declG l V C S F):=
 Br.isI hV (Br.isI hC (Br.isI hS (Br.isI hF Br.fail)))
theorem rank_brace {s:ByteArray} (h:s.toList= [123]∨s.toList= [125]):Pp.rank s=0:=by
 unfold Pp.rank;rcases h with h | h <;> rw[h] <;> rfl
theorem br_binaryL {Y:Int→GN} (hY:∀r,Br l Any (Y r)):∀(n:Nat) (rk:Int) (x:Nd),Br l Any (binaryLG l Y n rk x)
 | 0,rk,x=>Br.stop
 | n + 1,rk,x=>Br.look fun t=>Br.iteP (fun _=>Br.pure) fun _=>Br.iteP (fun _=>Br.pure) fun _=>Br.iteP (fun _=>Br.pure) fun hr=>Br.adv (fun a h=>by
   have e:tokAt l a=t:=h.2;have hr':Pp.rank t.text≠0:=by simpa using hr
   exact nbr_text (fun q=>hr' (rank_brace (.inl (by rw[←e];exact q)))) (fun q=>hr' (rank_brace (.inr (by rw[←e];exact q)))))
  fun _=>Br.bind (hY _) fun _=>br_binaryL hY n rk _
theorem br_binary {U:GN} {Y:Int→GN} (hU:Br l Any U) (hY:∀r,Br l Any (Y r)) {N:Nat} (rk:Int):Br l Any (binaryG l U Y N rk):=Br.bind hU fun x=>br_binaryL hY N rk x
theorem br_unary {U F:GN} (hU:Br l Any U) (hF:Br l Any F):Br l Any (unaryG l U F):=Br.look fun t=>Br.iteP (fun _=>Br.use hF) fun _=>Br.iteP (fun hu=>Br.nest (Br.adv (fun a h=>by
  have e:tokAt l a=t:=h.2;unfold Pp.unaryS at hu;rw[Bool.or_eq_true,beq_iff_eq,beq_iff_eq]at hu;exact nbr_text (by rw[e];rcases hu with q | q <;> rw[q] <;> decide) (by rw[e];rcases hu with q | q <;> rw[q] <;> decide)) fun _=>Br.bind hU fun _=>Br.pure)) fun _=>Br.use hF
theorem br_first {E:GN} (hE:Br l Any E):Br l Any (firstG l E):=Br.look fun t=>Br.iteP (fun hc=>Br.adv (fun a h=>PL.nbr1 (by decide) hc h) fun _=>Br.pure) fun _=>Br.iteP (fun hc=>Br.adv (fun a h=>PL.nbr1 (by decide) hc h) fun _=>Br.pure) fun _=>
 Br.iteP (fun hc=>Br.adv (fun a h=>PL.nbr1 (by decide) hc h) fun _=>Br.pure) fun _=>Br.isI (Br.nest (Br.adv (fun a h=>nbr_word h (by decide) (by decide)) fun _=>Br.bind hE fun _=>Br.want (by decide) (by decide) fun _=>Br.pure)) Br.fail
theorem br_primL {K:Nd→GN} (hK:∀x,Br l (PW l ⟨#[40]⟩) (K x)):∀(n:Nat) (x:Nd),Br l Any (primLG l K n x)
 | 0,x=>Br.stop
 | n + 1,x=>Br.isI (Br.bind (hK x) fun y=>br_primL hK n y) (Br.isI (Br.adv (fun a h=>nbr_word h (by decide) (by decide)) fun _=>Br.kind (by decide) fun _=>br_primL hK n _) Br.pure)
theorem br_callL {E:GN} (hE:Br l Any E):∀(n:Nat) (ks:List Nd),Br l Any (callLG l E n ks)
 | 0,ks=>Br.stop
 | n + 1,ks=>Br.isI Br.pure (Br.bind hE fun _=>Br.isI (Br.use (br_callL hE n _)) (Br.want (by decide) (by decide) fun _=>Br.isI Br.fail (br_callL hE n _)))
theorem br_call {E:GN} (hE:Br l Any E) {N:Nat} (x:Nd):Br l (PW l ⟨#[40]⟩) (callG l E N x):=Br.nest (Br.adv (fun a h=>nbr_word h (by decide) (by decide)) fun _=>Br.bind (br_callL hE N [x]) fun _=>Br.want (by decide) (by decide) fun _=>Br.pure)
theorem br_prim {E:GN} (hE:Br l Any E) {N:Nat}:Br l Any (primG l (firstG l E) (callG l E N) N):=Br.bind (br_first hE) fun x=>br_primL (fun y=>br_call hE y) N x
theorem br_fileI {N:Nat}:∀(n:Nat) (ks:List Nd),Br l Any (fileIG l N n ks)
 | 0,ks=>Br.stop
 | n + 1,ks=>Br.isI (Br.adv (fun a h=>nbr_word h (by decide) (by decide)) fun _=>Br.kind (by decide) fun _=>Br.kind (by decide) fun _=>Br.semis fun _=>br_fileI n _) Br.pure
theorem br_fileD {D:GN} (hD:Br l Any D) {N:Nat}:∀(n:Nat) (ks:List Nd),Br l Any (fileDG l D N n ks)
 | 0,ks=>Br.stop
 | n + 1,ks=>Br.look fun t=>Br.iteP (fun _=>Br.bind (Br.use hD) fun _=>Br.kind (by decide) fun _=>Br.semis fun _=>br_fileD hD n _) fun _=>Br.pure
theorem br_file {D:GN} (hD:Br l Any D) {N:Nat}:Br l Any (fileG l D N):=Br.want (by decide) (by decide) fun _=>Br.kind (by decide) fun _=>Br.kind (by decide) fun _=>Br.semis fun _=>Br.bind (br_fileI N _) fun _=>Br.bind (br_fileD hD N _) fun _=>Br.pure
structure BrF (l:List Tok) (F:SF):Prop where
 binary:∀r,Br l Any (F.binary r)
 unary:Br l Any F.unary
 block:Br l Any F.block
 branch:Br l (PW l ⟨#[105,102]⟩) F.branch
 stmt:Br l Any F.stmt
theorem sf_br (hK:KTs l) {N:Nat}:∀n,BrF l (sf l N n)
 | 0=>⟨fun _=>Br.stop,Br.stop,Br.stop,Br.stop,Br.stop⟩
 | n + 1=>by
  have h:=sf_br hK (N:=N) n;exact⟨fun r=>br_binary h.unary h.binary r,br_unary h.unary (br_prim (h.binary 1)),br_block hK h.stmt,br_branch (h.binary 1) h.block h.branch,
   br_stmt (br_variable (h.binary 1)) (br_constant (h.binary 1)) h.block h.branch (br_loop (h.binary 1) h.block) (br_back (h.binary 1)) (br_simple (h.binary 1) (br_loop (h.binary 1) h.block))⟩
theorem fileS_br (hK:KTs l) {N n:Nat}:Br l Any (fileS l N (sf l N n)):=by
 have h:=sf_br hK (N:=N) n;exact br_file (br_decl (br_variable (h.binary 1)) (br_constant (h.binary 1)) (br_structure hK) (br_function h.block))
theorem fileD_end7 {D:GN} {N:Nat}:∀(n:Nat) (ks:List Nd) (d a:Nat) (x:List Nd) (a':Nat),fileDG l D N n ks d a= .ok x a'→(tokAt l a').kind=7
 | 0,ks,d,a,x,a',h=>by cases h
 | n + 1,ks,d,a,x,a',h=>by
  unfold fileDG at h;obtain⟨t,b,h1,h2⟩:=bind_ok h;unfold Gr.look at h1;cases h1;unfold Gr.ite at h2;split at h2
  ·obtain⟨_,_,_,h3⟩:=bind_ok h2;obtain⟨_,_,_,h4⟩:=bind_ok h3;obtain⟨_,_,_,h5⟩:=bind_ok h4;exact fileD_end7 n _ _ _ _ _ h5
  ·rename_i hk;unfold Gr.pure at h2;cases h2;simpa using hk
theorem file_end7 {D:GN} {N d a:Nat} {x:Nd} {a':Nat} (h:fileG l D N d a= .ok x a'):(tokAt l a').kind=7:=by
 unfold fileG at h;obtain⟨_,_,_,h⟩:=bind_ok h;obtain⟨_,_,_,h⟩:=bind_ok h;obtain⟨_,_,_,h⟩:=bind_ok h;obtain⟨_,_,_,h⟩:=bind_ok h;obtain⟨_,_,_,h⟩:=bind_ok h;obtain⟨ks,b,h1,h⟩:=bind_ok h;have:=fileD_end7 N _ _ _ _ _ h1;unfold Gr.pure at h;cases h;exact this
end Gr
end Go.Proofs.Dm
set_option maxHeartbeats 4000000
namespace Go.Proofs.Dm
open Go Go.Proofs Go.Proofs.Dm.Sc
namespace Gr
theorem loop_inv {s:ByteArray} {I:SS→Prop} (hs:∀x y,x.at_ < s.size→I x→Sc.step s x=some y→I y):∀(n:Nat) (x:SS),I x→I (loopS s n x).1
 | 0,x,h=>h
 | n + 1,x,h=>by
  unfold loopS;split
  ·rename_i hlt;cases q:Sc.step s x with
   | none=>exact h
   | some y=>exact loop_inv hs n y (hs x y hlt h q)
  ·exact h
def ss0:SS:=⟨0,1,[],[]⟩
def lastS (s:ByteArray):SS:=(loopS s (s.size + 1) ss0).1
theorem scan_last {s:ByteArray} (hf:(scanP s).2.2 < 0):(scanP s).1=ended (lastS s)∧(scanP s).2.1=(lastS s).c∧(loopS s (s.size + 1) ss0).2 < 0:=by
 unfold lastS ss0;unfold scanP at hf⊢;dsimp only at hf⊢;split at hf
 ·rename_i q;exact absurd hf (by simp only;omega)
 ·rename_i q;rw[if_neg q];refine⟨rfl,rfl,?_⟩;generalize (loopS s (s.size + 1) ⟨0,1,[],[]⟩).2=f at *;rcases Int.lt_or_le f 0 with h | h
  ·exact h
  ·exfalso;apply q
   unfold scanF least
   repeat' split
   all_goals omega
inductive Adds (s:ByteArray) (x y:SS):Prop
 | blank (h:y={x with at_:=x.at_ + 1}) (c:UInt8) (hc:s[x.at_]? =some c) (hn:c≠10)
 | line (h:y={semi x with at_:=x.at_ + 1,line:=x.line + 1}) (hc:s[x.at_]? =some 10)
 | note (h:y=Sc.note s x) (c:UInt8) (hc:s[x.at_]? =some c) (hn:c≠10)
 | tok (k:Int) (e:Nat) (h:y=Sc.add s k e x) (c:UInt8) (hc:s[x.at_]? =some c) (hn:c≠10) (hk:k≠7) (h5:k=5→isIn keys (s.extract x.at_ e)=true) (h4:k=4→isIn ops (s.extract x.at_ e)=true) (hl:x.at_ < e∧e≤s.size) (hno:(10:UInt8)∉(s.data.toList.drop x.at_).take (e - x.at_))
theorem op_adds {s:ByteArray} {x y:SS} {c:UInt8} (hc:s[x.at_]? =some c) (hn:c≠10):∀n,opR s x n=some y→Adds s x y
 | 0,q=>by cases q
 | n + 1,q=>by
  simp only[opR]at q;split at q
  ·rename_i hi;cases q;rw[Bool.and_eq_true,decide_eq_true_eq]at hi;refine .tok 4 _ rfl c hc hn (by decide) (fun q=>absurd q (by decide)) (fun _=>hi.2) ⟨by omega,hi.1⟩ ?_;rw[←ext_list];have h2:=hi.2;simp only[isIn,List.any_eq_true,eqB,beq_iff_eq]at h2;obtain⟨o,ho,he⟩:=h2;have h3:ops.all (fun x=> !(x.toList.contains 10))=true:=by kernel_rfl
   have h4:=List.all_eq_true.1 h3 o ho;rw[←he,Lib.toList_data]at h4;simpa using h4
  ·exact op_adds hc hn n q
theorem stop_no {s:ByteArray} {p:UInt8→Bool} {i:Nat} (hp:p 10=false):(10:UInt8)∉(s.data.toList.drop i).take (Sc.stop s p i - i):=by
 rw[stop_tw,Nat.add_sub_cancel_left];generalize s.data.toList.drop i=r;intro h
 induction r with
 | nil=>simp at h
 | cons c r ih=>
  rw[List.takeWhile_cons]at h;split at h
  ·rename_i hc;simp only[List.length_cons,List.take_succ_cons,List.mem_cons]at h;rcases h with h | h
   ·rw[←h,hp]at hc;cases hc
   ·exact ih h
  ·simp at h
theorem step_adds {s:ByteArray} {x y:SS} (h1:x.at_ < s.size) (q:Sc.step s x=some y):Adds s x y:=by
 have hle:=(step_ok h1 q).2.1;have hlt:=(step_ok h1 q).1;unfold Sc.step at q;split at q
 ·cases q
 ·rename_i c hc;split at q
  ·rename_i hn;cases q;have e:c=10:=by
    rw[beq_iff_eq]at hn;apply UInt8.toNat_inj.1;show c.toNat=10;omega
   subst e;exact .line rfl hc
  rename_i hn;have hn':c≠10:=by rintro rfl;exact hn rfl
  split at q
  ·cases q;exact .blank rfl c hc hn'
  split at q
  ·cases q;exact .note rfl c hc hn'
  split at q
  ·rename_i hl;unfold nameS at q;split at q
   ·cases q
   ·cases q;refine .tok _ _ rfl c hc hn' (by split <;> decide) (fun h=> ?_) (fun h=>by split at h <;> omega) ⟨hlt,hle⟩ (stop_no (p:=wordB) (by decide));split at h
    ·assumption
    ·cases h
  split at q
  ·unfold numS at q;split at q
   ·cases q
   ·cases q;exact .tok _ _ rfl c hc hn' (by decide) (fun q=>absurd q (by decide)) (fun q=>absurd q (by decide)) ⟨hlt,hle⟩ (stop_no (p:=digit) (by decide))
  split at q
  ·rename_i hq;unfold textS at q;split at q
   ·rename_i ht;cases q;refine .tok _ _ rfl c hc hn' (by decide) (fun q=>absurd q (by decide)) (fun q=>absurd q (by decide)) ⟨hlt,hle⟩ ?_;have e0:c=34:=by
     rw[beq_iff_eq]at hq;apply UInt8.toNat_inj.1;show c.toNat=34;omega
    subst e0;obtain⟨_,hd⟩:=drop_next s hc;have hs:=stop_no (s:=s) (p:=fun b=>b !=34&&b !=10) (i:=x.at_ + 1) (by decide);have hle2:x.at_ + 1≤textE s x.at_:=(Sc.stop_le s _ _ (by omega)).1;unfold textE at ht hle2⊢;generalize Sc.stop s (fun b=>b !=34&&b !=10) (x.at_ + 1)=e at *;obtain⟨he,hd2⟩:=drop_next s ht;intro hm;rw[hd,show e + 1 - x.at_=(e -(x.at_ + 1)+ 1)+ 1 by omega,List.take_succ_cons,List.mem_cons,List.take_add_one,List.mem_append]at hm;rcases hm with hm | hm | hm
    ·cases hm
    ·exact hs hm
    ·rw[List.getElem?_drop,show x.at_ + 1 +(e -(x.at_ + 1))=e by omega,←ba_get,ht]at hm;simp at hm
   ·cases q
  split at q
  ·cases q;refine .tok _ _ rfl c hc hn' (by decide) (fun q=>absurd q (by decide)) (fun q=>absurd q (by decide)) ⟨hlt,hle⟩ ?_;obtain⟨_,hd⟩:=drop_next s hc;rw[hd,Nat.add_sub_cancel_left];simpa using(Ne.symm hn')
  ·exact op_adds hc hn' 2 q
def KI (x:SS):Prop:=∀t∈x.l,t.kind≠7∧(t.kind=5→isIn keys t.text=true)∧(t.kind=4→isIn ops t.text=true)
theorem KI.semi {x:SS} (h:KI x):KI (Sc.semi x):=by
 unfold Sc.semi;split
 ·intro t ht;simp only[List.mem_append,List.mem_singleton]at ht;rcases ht with q | rfl
  ·exact h t q
  ·exact⟨by simp,by simp,by simp⟩
 ·exact h
theorem KI.step {s:ByteArray} {x y:SS} (h1:x.at_ < s.size) (h:KI x) (q:Sc.step s x=some y):KI y:=by
 cases step_adds h1 q with
 | blank h'=>subst h';exact h
 | line h'=>subst h';exact h.semi
 | note h'=>subst h';exact h.semi
 | tok k e h' c hc hn hk h5 h4 hl hno=>
  subst h';intro t ht;simp only[Sc.add,List.mem_append,List.mem_singleton]at ht;rcases ht with q | rfl
  ·exact h t q
  ·exact⟨hk,h5,h4⟩
theorem last_ki (s:ByteArray):KI (lastS s):=loop_inv (I:=KI) (fun x y h1 h2 h3=>KI.step h1 h2 h3) _ _ (fun t ht=>by cases ht)
theorem ended_get {y:SS} {i:Nat} (h:i <(semi y).l.length):(ended y)[i]? =(semi y).l[i]? :=by
 unfold ended;rw[List.getElem?_append_left h]
theorem scan_kinds {s:ByteArray} (hf:(scanP s).2.2 < 0):KTs (scanP s).1∧∀i,(tokAt (scanP s).1 i).kind=7→(scanP s).1.length≤i + 1:=by
 obtain⟨e1,_,_⟩:=scan_last hf;have hk:=(last_ki s).semi;rw[e1];constructor
 ·intro i h5;unfold tokAt at h5⊢;cases hg:(ended (lastS s))[i]? with
  | none=>
   rw[hg]at h5;simp only[Option.getD_none]at h5;exact absurd h5 (by decide)
  | some t=>
   rw[hg]at h5;simp only[Option.getD_some]at h5⊢;have hm:=List.mem_of_getElem? hg;simp only[ended,List.mem_append,List.mem_singleton]at hm;rcases hm with q | rfl
   ·exact(hk t q).2.1 h5
   ·simp at h5
 ·intro i h7;rcases Nat.lt_or_ge i (semi (lastS s)).l.length with q | q
  ·exfalso
   unfold tokAt at h7;rw[ended_get q,List.getElem?_eq_getElem q]at h7;exact(hk _ (List.getElem_mem q)).1 h7
  ·simp only[ended,List.length_append,List.length_singleton];omega
theorem text_bal {s:ByteArray} (hs:s.size < 10000000) (h:(textP s).2.2 < 0):(scanP s).2.2 < 0∧(textP s).2.1=(scanP s).1∧∀i,0≤ob (scanP s).1 i∧ob (scanP s).1 i≤40:=by
 have hf:(scanP s).2.2 < 0:=by
  rcases Int.lt_or_le (scanP s).2.2 0 with q | q
  ·exact q
  ·have hd:decide (0≤(scanP s).2.2)=true:=by simpa using q
   unfold textP at h;rw[if_pos hd]at h;exact absurd h (by simp only;omega)
 have hd:decide (0≤(scanP s).2.2)=false:=by simp;omega
 obtain⟨hg,_,_⟩:=scan_good hs hf;have hfin:=answer_fin hg;obtain⟨hK,h7⟩:=scan_kinds hf;unfold textP at h⊢;simp only[hd,Bool.false_eq_true,if_false]at h⊢;refine⟨hf,?_⟩;cases ha:answer (scanP s).1 with
 | bad k=>
  rw[ha]at h;simp only at h;have:=(scan_tb (s:=s) (tokAt (scanP s).1 k) (by
   rw[ha]at hfin;have hk':k <(scanP s).1.length:=hfin;unfold tokAt;rw[List.getElem?_eq_getElem hk'];exact List.getElem_mem hk')).1
  omega
 | out=>rw[ha]at hfin;exact absurd hfin (fun h=>h)
 | ok nd a'=>
  refine⟨rfl,fun i=> ?_⟩;have hb:=fileS_br hK (N:=(scanP s).1.length + 2) (n:=3 *(scanP s).1.length + 4) 0 0 nd a' (by omega) True.intro ha;have he:=h7 a' (file_end7 ha);have o0:ob (scanP s).1 0=0:=rfl;have hbey:∀j,a' + j≤a' + j→ob (scanP s).1 (a' + j)=0:=by
   intro j _
   induction j with
   | zero=>rw[Nat.add_zero];have:=hb.2.1;omega
   | succ j ih=>
    rw[←Nat.add_assoc,ob_nbr (nbr_kind ?_),ih (Nat.le_refl _)];rcases Nat.eq_zero_or_pos j with rfl | hj
    ·rw[Nat.add_zero,file_end7 ha];decide
    ·unfold tokAt;rw[List.getElem?_eq_none (by omega)]
     decide
  rcases Nat.le_total i a' with q | q
  ·have:=hb.2.2 i (Nat.zero_le _) q;omega
  ·obtain⟨j,rfl⟩:=Nat.exists_eq_add_of_le q;have:=hbey j (Nat.le_refl _);omega
end Gr
end Go.Proofs.Dm
set_option maxHeartbeats 4000000
namespace Go.Proofs.Dm
open Go Go.Proofs Go.Proofs.Dm.Sc
namespace Gr
def nl (s:ByteArray) (i:Nat):Nat:=(s.data.toList.take i).count 10
theorem nl_no {s:ByteArray} {a e:Nat} (h:a≤e) (hno:(10:UInt8)∉(s.data.toList.drop a).take (e - a)):nl s e=nl s a:=by
 unfold nl;obtain⟨d,rfl⟩:=Nat.exists_eq_add_of_le h;rw[Nat.add_sub_cancel_left]at hno;rw[List.take_add,List.count_append,List.count_eq_zero.2 hno];rfl
theorem nl_next {s:ByteArray} {a:Nat} {c:UInt8} (h:s[a]? =some c):nl s (a + 1)=nl s a + if c=10 then 1 else 0:=by
 unfold nl;rw[ba_get]at h;rw[List.take_add_one,h,List.count_append];simp only[Option.toList_some,List.count_singleton,beq_iff_eq]
structure LI (s:ByteArray) (x:SS):Prop where
 at_:x.at_≤s.size
 line:x.line=1 +(nl s x.at_:Int)
 toks:∀t∈x.l,1≤t.line∧t.line≤x.line
 pair:x.l.Pairwise (fun t u=>t.line≤u.line)
 coms:∀c∈x.c,1≤c.line∧(c.line < x.line∨(c.line=x.line∧∀b,s[x.at_]? =some b→b=10))
 cpair:x.c.Pairwise (fun b c=>b.line < c.line∧b.next≤c.next)
 next:∀c∈x.c,0≤c.next∧c.next≤x.l.length
 rel:∀c∈x.c,∀(i:Nat) t,x.l[i]? =some t→((i:Int)< c.next→t.line≤c.line)∧(c.next≤i→c.line≤t.line)
theorem LI.push {s:ByteArray} {x:SS} (h:LI s x) {t:Tok} (ht:t.line=x.line):LI s {x with l:=x.l ++ [t]} where
 at_:=h.at_
 line:=h.line
 toks:=by
  intro u hu;simp only[List.mem_append,List.mem_singleton]at hu;rcases hu with q | rfl
  ·exact h.toks u q
  ·rw[ht];exact⟨by have:=h.line;omega,Int.le_refl _⟩
 pair:=by
  rw[List.pairwise_append];refine⟨h.pair,by simp,fun a ha b hb=> ?_⟩;rw[List.mem_singleton]at hb;subst hb;rw[ht];exact(h.toks a ha).2
 coms:=h.coms
 cpair:=h.cpair
 next:=fun c hc=>by have:=h.next c hc;simp only[List.length_append,List.length_singleton];omega
 rel:=by
  intro c hc i u hu;have hn:=h.next c hc;have hl:=(h.coms c hc).2;rcases Nat.lt_trichotomy i x.l.length with q | q | q
  ·rw[List.getElem?_append_left q]at hu;exact h.rel c hc i u hu
  ·subst q;simp only[List.getElem?_concat_length,Option.some.injEq]at hu;subst hu;refine⟨fun g=>by omega,fun g=> ?_⟩;rw[ht];rcases hl with g | g
   ·omega
   ·omega
  ·rw[List.getElem?_eq_none (by simp;omega)]at hu;cases hu
theorem LI.semi {s:ByteArray} {x:SS} (h:LI s x):LI s (Sc.semi x):=by
 unfold Sc.semi;split
 ·exact h.push rfl
 ·exact h
theorem LI.on {s:ByteArray} {x:SS} (h:LI s x) {e:Nat} {c:UInt8} (hc:s[x.at_]? =some c) (hn:c≠10) (h1:x.at_≤e) (h2:e≤s.size) (hno:(10:UInt8)∉(s.data.toList.drop x.at_).take (e - x.at_)):LI s {x with at_:=e} where
 at_:=h2
 line:=by simp only;rw[nl_no h1 hno];exact h.line
 toks:=h.toks
 pair:=h.pair
 coms:=fun d hd=>by
  obtain⟨q1,q2⟩:=h.coms d hd;refine⟨q1,.inl ?_⟩;rcases q2 with q | q
  ·exact q
  ·exact absurd (q.2 c hc) hn
 cpair:=h.cpair
 next:=h.next
 rel:=h.rel
theorem LI.step {s:ByteArray} {x y:SS} (h1:x.at_ < s.size) (h:LI s x) (q:Sc.step s x=some y):LI s y:=by
 have hle:=(step_ok h1 q).2.1;cases step_adds h1 q with
 | blank h' c hc hn=>
  subst h';refine h.on hc hn (by omega) (by omega) ?_;obtain⟨_,hd⟩:=drop_next s hc;rw[hd,Nat.add_sub_cancel_left];simpa using(Ne.symm hn)
 | line h' hc=>
  subst h';have g:=h.semi;have e:=nl_next hc;rw[if_pos rfl]at e;exact{
   at_:=by simp only;omega
   line:=by simp only;rw[e];have:=h.line;omega
   toks:=fun t ht=>by have:=g.toks t ht;rw[semi_line]at this;simp only;omega
   pair:=g.pair
   coms:=fun c hc=>by
    obtain⟨q1,q2⟩:=g.coms c hc;rw[semi_line]at q2;refine⟨q1,.inl ?_⟩;simp only;rcases q2 with q | q <;> omega
   cpair:=g.cpair
   next:=g.next
   rel:=g.rel}
 | note h' c hc hn=>
  subst h';have g:=h.semi;have hE:x.at_≤eol s x.at_∧eol s x.at_≤s.size:=stop_le s _ _ h.at_;have hno:(10:UInt8)∉(s.data.toList.drop x.at_).take (eol s x.at_ - x.at_):=stop_no (by decide);have g2:=g.on (e:=eol s x.at_) (by rw[semi_at];exact hc) hn (by rw[semi_at];exact hE.1) hE.2 (by rw[semi_at];exact hno);have hlt:∀b∈x.c,b.line < x.line:=fun b hb=>by
   rcases(h.coms b hb).2 with q | q
   ·exact q
   ·exact absurd (q.2 c hc) hn
  have ec:(Sc.semi x).c=x.c:=by unfold Sc.semi;split <;> rfl
  exact{
   at_:=hE.2
   line:=g2.line
   toks:=g2.toks
   pair:=g2.pair
   coms:=fun d hd=>by
    simp only[Sc.note,List.mem_append,List.mem_singleton]at hd⊢;rcases hd with hd | rfl
    ·have:=hlt d hd;have:=(h.coms d hd).1;refine⟨this,.inl ?_⟩;simp only[semi_line];omega
    ·refine⟨by have:=h.line;simp only;omega,.inr ⟨by simp only[semi_line],fun b hb=> ?_⟩⟩;unfold eol at hb;rw[stop_tw,ba_get,←List.getElem?_drop]at hb;generalize s.data.toList.drop x.at_=r at hb
     induction r with
     | nil=>simp at hb
     | cons d r ih=>
      rw[List.takeWhile_cons]at hb;split at hb
      ·simp only[List.length_cons,List.getElem?_cons_succ]at hb;exact ih hb
      ·rename_i hd;simp only[List.length_nil,List.getElem?_cons_zero,Option.some.injEq]at hb;subst hb;simpa using hd
   cpair:=by
    simp only[Sc.note];rw[List.pairwise_append];refine⟨h.cpair,by simp,fun a ha b hb=> ?_⟩;rw[List.mem_singleton]at hb;subst hb;exact⟨hlt a ha,(g.next a (by rw[ec];exact ha)).2⟩
   next:=fun d hd=>by
    simp only[Sc.note,List.mem_append,List.mem_singleton]at hd⊢;rcases hd with hd | rfl
    ·exact g.next d (by rw[ec];exact hd)
    ·simp only;omega
   rel:=fun d hd i t ht=>by
    simp only[Sc.note,List.mem_append,List.mem_singleton]at hd ht;rcases hd with hd | rfl
    ·exact g.rel d (by rw[ec];exact hd) i t ht
    ·simp only;have:=(g.toks t (List.mem_of_getElem? ht)).2;rw[semi_line]at this;refine⟨fun _=>this,fun q=> ?_⟩;have:i <(Sc.semi x).l.length:=by
      rcases Nat.lt_or_ge i (Sc.semi x).l.length with q | q
      ·exact q
      ·rw[List.getElem?_eq_none q]at ht;cases ht
     omega}
 | tok k e h' c hc hn hk h5 h4 hl hno=>
  subst h';exact(h.push (t:=⟨k,s.extract x.at_ e,x.at_,x.line,false⟩) rfl).on hc hn (by simp only;omega) hl.2 hno
end Gr
end Go.Proofs.Dm
set_option maxHeartbeats 4000000
namespace Go.Proofs.Dm
open Go Go.Proofs Go.Proofs.Dm.Sc
open Fo (isO zeroT LS nlB spB pad trimR)
namespace Rf
theorem nil_append (a:ByteArray):a ++(⟨#[]⟩:ByteArray)=a:=by
 apply ba_ext;show(a.append _).data.toList=_;simp
variable {s:ByteArray} {l:List Tok} {cs:List Com} {src:List ByteArray}
end Rf
end Go.Proofs.Dm
set_option maxHeartbeats 4000000
namespace Go.Proofs.Dm
open Go Go.Proofs Go.Proofs.Dm.Sc
open Fo (isO zeroT LS nlB spB pad trimR)
namespace Rf
variable {l:List Tok} {src:List ByteArray}
structure SI (s:ByteArray) (x:SS):Prop where
 at_:x.at_≤s.size
 len:x.c.length≤x.at_
 txt:∀c∈x.c,c.text.size≤s.size
theorem SI.step {s:ByteArray} {x y:SS} (h1:x.at_ < s.size) (h:SI s x) (q:Sc.step s x=some y):SI s y:=by
 have hle:=step_ok h1 q;have ec:(Sc.semi x).c=x.c:=by unfold Sc.semi;split <;> rfl
 refine⟨hle.2.1,by have:=h.len;omega,?_⟩;cases Gr.step_adds h1 q with
 | blank h'=>subst h';exact h.txt
 | line h'=>subst h';intro c hc;simp only at hc;rw[ec]at hc;exact h.txt c hc
 | note h'=>
  subst h';intro c hc;simp only[Sc.note,List.mem_append,List.mem_singleton]at hc;rcases hc with hc | rfl
  ·exact h.txt c hc
  ·simp only[ByteArray.size_extract];omega
 | tok k e h'=>subst h';exact h.txt
end Rf
end Go.Proofs.Dm
set_option maxHeartbeats 4000000
namespace Go.Proofs.Dm
open Go Go.Proofs Go.Proofs.Dm.Sc
open Fo (isO zeroT LS nlB spB pad trimR)
namespace Rf
end Rf
end Go.Proofs.Dm

set_option linter.unusedSimpArgs false
set_option linter.unusedVariables false
set_option maxHeartbeats 4000000
namespace Go.Proofs.Dm
open Go Go.Proofs Go.Proofs.Dm.Sc
open Fo (isO zeroT LS nlB spB pad trimR)
namespace Rf
theorem tw_all {α:Type} {p:α→Bool}:∀{r:List α} {x:α},x∈r.takeWhile p→p x=true
 | [],x,h=>by cases h
 | c::r,x,h=>by
  rw[List.takeWhile_cons]at h;split at h
  ·rename_i hc;rcases List.mem_cons.1 h with rfl | h
   ·exact hc
   ·exact tw_all h
  ·cases h
def endsNl (s:ByteArray):Bool:=match s[s.size - 1]? with
 | some b=>b==10
 | none=>false
end Rf
namespace Gr
theorem loop_end {s:ByteArray}:∀(n:Nat) (x:SS),x.at_≤s.size→s.size < x.at_ + n→(loopS s n x).2 < 0→(loopS s n x).1.at_=s.size
 | 0,x,h,g,f=>by omega
 | n + 1,x,h,g,f=>by
  unfold loopS at f⊢;split
  ·rename_i hlt;rw[if_pos hlt]at f;cases q:Sc.step s x with
   | none=>
    rw[q]at f;simp only at f;omega
   | some y=>
    rw[q]at f;have:=step_ok hlt q;exact loop_end n y this.2.1 (by omega) f
  ·show x.at_=s.size;omega
theorem scan_ops {s:ByteArray} (hf:(scanP s).2.2 < 0) (i:Nat) (h4:(tokAt (scanP s).1 i).kind=4):isIn ops (tokAt (scanP s).1 i).text=true:=by
 obtain⟨e1,_,_⟩:=scan_last hf;have hk:=(last_ki s).semi;rw[e1]at h4⊢;unfold tokAt at h4⊢;cases hg:(ended (lastS s))[i]? with
 | none=>
  rw[hg]at h4;simp only[Option.getD_none]at h4;exact absurd h4 (by decide)
 | some t=>
  rw[hg]at h4;simp only[Option.getD_some]at h4⊢;have hm:=List.mem_of_getElem? hg;simp only[ended,List.mem_append,List.mem_singleton]at hm;rcases hm with q | rfl
  ·exact(hk t q).2.2 h4
  ·simp at h4
end Gr
end Go.Proofs.Dm
set_option maxHeartbeats 4000000
namespace Go.Proofs.Dm
open Go Go.Proofs Go.Proofs.Dm.Sc
inductive Pc where
 | sp (b:UInt8)
 | nl
 | com (w:List UInt8)
 | tok (k:Int) (w:List UInt8)
namespace Pc
def bytes:Pc→List UInt8
 | .sp b=> [b]
 | .nl=> [10]
 | .com w=>w
 | .tok _ w=>w
def ap (x:SS):Pc→SS
 | .sp _=>{x with at_:=x.at_ + 1}
 | .nl=>{semi x with at_:=x.at_ + 1,line:=x.line + 1}
 | .com w=>{semi x with c:=x.c ++ [⟨⟨w.toArray⟩,x.at_,x.line,(semi x).l.length⟩],at_:=x.at_ + w.length}
 | .tok k w=>{x with l:=x.l ++ [⟨k,⟨w.toArray⟩,x.at_,x.line,false⟩],at_:=x.at_ + w.length}
def numF (w:List UInt8) (d:Option UInt8):Bool:=decide (12 < w.length)||(decide (1 < w.length)&&w.head?.any (fun b=>(b.toNat:Int)==48))|| d.any letter
def opQ (c:UInt8) (r:List UInt8):Option (Pc×List UInt8):=
 if r.head?.any (fun d=>isIn ops ⟨#[c,d]⟩)then some (.tok 4 (c::r.take 1),r.drop 1)
 else if isIn ops ⟨#[c]⟩then some (.tok 4 [c],r)else none
def textQ (c:UInt8) (r:List UInt8):Option (Pc×List UInt8):=
 let w:=r.takeWhile (fun b=>b !=34&&b !=10)
 if(r.drop w.length).head? =some 34 then some (.tok 3 (c::(w ++ [34])),r.drop (w.length + 1))else none
def stepQ:List UInt8→Option (Pc×List UInt8)
 | []=>none
 | c::r=>
  if(c.toNat:Int)==10 then some (.nl,r)
  else if(c.toNat:Int)==32 ||(c.toNat:Int)==9 then some (.sp c,r)
  else if c==47&&r.head? ==some 47 then some (.com ((c::r).takeWhile (fun b=>b !=10)),(c::r).dropWhile (fun b=>b !=10))
  else if letter c then(if 24 <((c::r).takeWhile wordB).length then none else some (.tok (if isIn keys ⟨((c::r).takeWhile wordB).toArray⟩then 5 else 1) ((c::r).takeWhile wordB),(c::r).dropWhile wordB))
  else if digit c then(if numF ((c::r).takeWhile digit) ((c::r).dropWhile digit).head? then none else some (.tok 2 ((c::r).takeWhile digit),(c::r).dropWhile digit))
  else if(c.toNat:Int)==34 then textQ c r
  else if(c.toNat:Int)==59 then some (.tok 6 [c],r)
  else opQ c r
theorem tw_split {α:Type} (p:α→Bool) (r:List α):r=r.takeWhile p ++ r.dropWhile p:=List.takeWhile_append_dropWhile.symm
theorem get_L (s:ByteArray) (i:Nat):s[i]? =(s.data.toList.drop i).head? :=by
 rw[List.head?_drop,ba_get]
theorem size_L {s:ByteArray} {i:Nat} {c r} (h:s.data.toList.drop i=c::r):i < s.size∧s.data.toList.drop (i + 1)=r∧i +(r.length + 1)=s.size:=by
 have h1:=congrArg List.length h;simp only[List.length_drop,List.length_cons]at h1;have h2:=ba_size s;refine⟨by omega,?_,by omega⟩;rw[←List.tail_drop,h,List.tail_cons]
theorem ext_L (s:ByteArray) (i k:Nat):s.extract i (i + k)=⟨((s.data.toList.drop i).take k).toArray⟩:=by
 apply ba_ext;rw[ext_list,Nat.add_sub_cancel_left]
theorem take_while {α:Type} (p:α→Bool):∀r:List α,r.take (r.takeWhile p).length=r.takeWhile p
 | []=>rfl
 | c::r=>by
  simp only[List.takeWhile_cons];split
  ·simp only[List.length_cons,List.take_succ_cons,take_while p r]
  ·rfl
theorem drop_while {α:Type} (p:α→Bool):∀r:List α,r.drop (r.takeWhile p).length=r.dropWhile p
 | []=>rfl
 | c::r=>by
  simp only[List.takeWhile_cons,List.dropWhile_cons];split
  ·simp only[List.length_cons,List.drop_succ_cons,drop_while p r]
  ·rfl
theorem add_Q {s:ByteArray} {x:SS} {r:List UInt8} (hr:s.data.toList.drop x.at_=r) (k:Int) (n:Nat) (hn:n≤r.length):add s k (x.at_ + n) x=ap x (.tok k (r.take n)):=by
 subst hr;simp only[add,ap,ext_L,List.length_take,Nat.min_eq_left hn]
theorem slashes_Q {s:ByteArray} {i:Nat} {c r} (h:s.data.toList.drop i=c::r):slashes s i=(c==47&&r.head? ==some 47):=by
 obtain⟨h1,h2,h3⟩:=size_L h;unfold slashes;rw[Lib.toList_data,ext_L,h];cases r with
 | nil=>
  have:¬i + 2≤s.size:=by simp at h3;omega
  rw[decide_eq_false this];simp
 | cons d r=>
  have:i + 2≤s.size:=by simp at h3;omega
  rw[decide_eq_true this];simp only[Bool.true_and,List.take_succ_cons,List.take_zero,List.head?_cons];rw[Bool.eq_iff_iff];simp
theorem op_Q {s:ByteArray} {x:SS} {c r} (hr:s.data.toList.drop x.at_=c::r):opR s x 2=(opQ c r).map (fun q=>ap x q.1):=by
 obtain⟨h1,h2,h3⟩:=size_L hr;have o1:opR s x 1=if isIn ops ⟨#[c]⟩then some (ap x (.tok 4 [c]))else none:=by
  have e1:decide (x.at_ + 1≤s.size)=true:=by simp;omega
  have e2:s.extract x.at_ (x.at_ + 1)=⟨#[c]⟩:=by rw[ext_L,hr];rfl
  simp only[opR,Nat.zero_add,e1,e2,Bool.true_and];rw[add_Q hr 4 1 (by simp)];rfl
 have o2:opR s x 2=if decide (x.at_ + 2≤s.size)&&isIn ops (s.extract x.at_ (x.at_ + 2))then some (add s 4 (x.at_ + 2) x)else opR s x 1:=rfl;rw[o2,o1];cases r with
 | nil=>
  have e1:decide (x.at_ + 2≤s.size)=false:=by simp at h3⊢;omega
  rw[e1];show(if(false&&_)=true then _ else _)=Option.map _ (if isIn ops ⟨#[c]⟩=true then some (Pc.tok 4 [c],([]:List UInt8))else none);rw[Bool.false_and,if_neg (by decide)];split <;> rfl
 | cons d r=>
  have e1:decide (x.at_ + 2≤s.size)=true:=by simp at h3⊢;omega
  have e2:s.extract x.at_ (x.at_ + 2)=⟨#[c,d]⟩:=by rw[ext_L,hr];rfl
  rw[e1,e2];show _=Option.map _ (if isIn ops ⟨#[c,d]⟩=true then some (Pc.tok 4 [c,d],r)else if isIn ops ⟨#[c]⟩=true then some (Pc.tok 4 [c],d::r)else none);rw[Bool.true_and]
  by_cases hq:isIn ops ⟨#[c,d]⟩=true
  ·rw[if_pos hq,if_pos hq,add_Q hr 4 2 (by simp)];rfl
  ·rw[if_neg hq,if_neg hq];split <;> rfl
theorem step_Q {s:ByteArray} {x:SS} {r:List UInt8} (hr:s.data.toList.drop x.at_=r):Sc.step s x=(stepQ r).map (fun q=>ap x q.1):=by
 cases r with
 | nil=>
  have hg:s[x.at_]? =none:=by rw[get_L,hr];rfl
  unfold Sc.step;rw[hg];rfl
 | cons c r=>
 obtain⟨h1,h2,h3⟩:=size_L hr;have hg:s[x.at_]? =some c:=by rw[get_L,hr];rfl
 unfold Sc.step;rw[hg];simp only[stepQ];split
 ·rfl
 split
 ·rfl
 rw[slashes_Q hr];split
 ·unfold Sc.note eol;rw[stop_tw,hr,ext_L,hr,take_while];rfl
 split
 ·rename_i hl;unfold nameS;rw[stop_tw,hr,Nat.add_sub_cancel_left];have hle:((c::r).takeWhile wordB).length≤(c::r).length:=(List.takeWhile_prefix _).length_le;split
  ·rfl
  ·rw[add_Q hr _ _ hle,take_while,ext_L,hr,take_while];rfl
 split
 ·rename_i hd;unfold numS;rw[stop_tw,hr,Nat.add_sub_cancel_left,hg];have hle:((c::r).takeWhile digit).length≤(c::r).length:=(List.takeWhile_prefix _).length_le;have e1:s[x.at_ +((c::r).takeWhile digit).length]? =((c::r).dropWhile digit).head? :=by
   rw[get_L,←List.drop_drop,hr,drop_while]
  have e2:((c::r).takeWhile digit).head? =some c:=by rw[List.takeWhile_cons,if_pos hd];rfl
  rw[e1];have e3:(decide (12 <((c::r).takeWhile digit).length)||(decide (1 <((c::r).takeWhile digit).length)&&(some c).any (fun b=>(b.toNat:Int)==48))||((c::r).dropWhile digit).head?.any letter)=numF ((c::r).takeWhile digit) ((c::r).dropWhile digit).head? :=by
   unfold numF;rw[e2]
  rw[e3];split
  ·rfl
  ·rw[add_Q hr _ _ hle,take_while];rfl
 split
 ·unfold textS textQ textE;rw[stop_tw,h2];simp only;have e1:s[x.at_ + 1 +(r.takeWhile (fun b=>b !=34&&b !=10)).length]? =(r.drop (r.takeWhile (fun b=>b !=34&&b !=10)).length).head? :=by
   rw[get_L,←List.drop_drop,h2]
  rw[e1];split
  ·rename_i hq;have e2:x.at_ + 1 +(r.takeWhile (fun b=>b !=34&&b !=10)).length + 1=x.at_ +((r.takeWhile (fun b=>b !=34&&b !=10)).length + 2):=by omega
   have hlen:(r.takeWhile (fun b=>b !=34&&b !=10)).length < r.length:=by
    rcases Nat.lt_or_ge (r.takeWhile (fun b=>b !=34&&b !=10)).length r.length with q | q
    ·exact q
    ·rw[List.drop_eq_nil_of_le q]at hq;cases hq
   rw[e2,add_Q hr _ _ (by simp only[List.length_cons];omega)];have e3:(c::r).take ((r.takeWhile (fun b=>b !=34&&b !=10)).length + 2)=c::(r.takeWhile (fun b=>b !=34&&b !=10)++ [34]):=by
    rw[List.take_succ_cons,List.take_add_one,take_while];rw[List.head?_drop]at hq;rw[hq];rfl
   rw[e3];rfl
  ·rfl
 split
 ·rw[add_Q hr 6 1 (by simp)];rfl
 ·exact op_Q hr
theorem stepQ_bytes {r:List UInt8} {p:Pc} {r':List UInt8} (h:stepQ r=some (p,r')):r=bytes p ++ r'∧bytes p≠ []:=by
 cases r with
 | nil=>cases h
 | cons c r=>
 simp only[stepQ]at h;have tws:∀(q:UInt8→Bool),q c=true→(c::r)=(c::r).takeWhile q ++(c::r).dropWhile q∧(c::r).takeWhile q≠ []:=fun q hq=>⟨tw_split q _,by rw[List.takeWhile_cons,if_pos hq];simp⟩
 split at h
 ·rename_i hc;cases h;refine⟨?_,by simp[bytes]⟩;have:c=10:=by
   rw[beq_iff_eq]at hc;apply UInt8.toNat_inj.1;show c.toNat=10;omega
  subst this;rfl
 split at h
 ·cases h;exact⟨rfl,by simp[bytes]⟩
 split at h
 ·rename_i hn _ _;cases h;exact tws (fun b:UInt8=>b !=10) (by
   have:c≠10:=by rintro rfl;exact hn rfl
   simpa using this)
 split at h
 ·rename_i hl;split at h
  ·cases h
  ·cases h;exact tws _ (by simp[wordB,hl])
 split at h
 ·rename_i hd;split at h
  ·cases h
  ·cases h;exact tws _ hd
 split at h
 ·unfold textQ at h;simp only at h;split at h
  ·rename_i hq;cases h;refine⟨?_,by simp[bytes]⟩;simp only[bytes,List.cons_append,List.append_assoc,List.cons.injEq,true_and];generalize hw:r.takeWhile (fun b=>b !=34&&b !=10)=w at *;have h1:r=w ++ r.drop w.length:=by
    rw[←hw,drop_while];exact tw_split _ _
   rw[List.head?_drop]at hq;have h2:r.drop w.length=34::r.drop (w.length + 1):=by
    have hlt:w.length < r.length:=by
     rcases Nat.lt_or_ge w.length r.length with q | q
     ·exact q
     ·rw[List.getElem?_eq_none q]at hq;cases hq
    rw[List.drop_eq_getElem_cons hlt];rw[List.getElem?_eq_getElem hlt]at hq;injection hq with hq
    rw[hq]
   conv=>lhs;rw[h1,h2]
   simp
  ·cases h
 split at h
 ·cases h;exact⟨rfl,by simp[bytes]⟩
 ·unfold opQ at h;split at h
  ·cases h;refine⟨?_,by simp[bytes]⟩;simp only[bytes,List.cons_append,List.take_append_drop]
  ·split at h
   ·cases h;exact⟨rfl,by simp[bytes]⟩
   ·cases h
inductive Reads:List UInt8→List Pc→Prop where
 | nil:Reads [] []
 | cons {r p r' ps} (h:stepQ r=some (p,r')) (hr:Reads r' ps):Reads r (p::ps)
theorem Reads.bytes {r ps} (h:Reads r ps):r=(ps.map Pc.bytes).flatten:=by
 induction h with
 | nil=>rfl
 | cons h _ ih=>
  have:=(stepQ_bytes h).1;rw[this,List.map_cons,List.flatten_cons,←ih]
theorem ap_at (x:SS) (p:Pc):(ap x p).at_=x.at_ +(Pc.bytes p).length:=by
 cases p <;> rfl
theorem Reads.loop {s:ByteArray} {r ps} (h:Reads r ps):∀(n:Nat) (x:SS),s.data.toList.drop x.at_=r→x.at_≤s.size→s.size < x.at_ + n→loopS s n x=(ps.foldl ap x,-1):=by
 induction h with
 | nil=>
  intro n x hr hx hn;have h1:=congrArg List.length hr;simp only[List.length_drop,List.length_nil]at h1;have h2:=ba_size s;cases n with
  | zero=>rfl
  | succ n=>unfold loopS;rw[if_neg (by omega)];rfl
 | @cons r p r' ps h _ ih=>
  intro n x hr hx hn;have hb:=stepQ_bytes h;have hst:=step_Q hr;rw[h]at hst;simp only[Option.map_some]at hst;have hlt:x.at_ < s.size:=by
   cases hq:r with
   | nil=>rw[hq]at h;cases h
   | cons c r0=>rw[hq]at hr;exact(size_L hr).1
  cases n with
  | zero=>omega
  | succ n=>
   unfold loopS;rw[if_pos hlt,hst];simp only;have hat:=ap_at x p;have hpos:0 <(Pc.bytes p).length:=List.length_pos_iff.2 hb.2;have h5:=(step_ok hlt hst).2.1;rw[List.foldl_cons];refine ih n (ap x p) ?_ h5 (by omega);rw[hat,←List.drop_drop,hr,hb.1,List.drop_left]
theorem loop_reads {s:ByteArray}:∀(n:Nat) (x:SS) (r:List UInt8),s.data.toList.drop x.at_=r→x.at_≤s.size→s.size < x.at_ + n→(loopS s n x).2 < 0→∃ps,Reads r ps
 | 0,x,r,hr,hx,hn,hf=>by omega
 | n + 1,x,r,hr,hx,hn,hf=>by
  unfold loopS at hf;split at hf
  ·rename_i hlt;have hst:=step_Q hr;cases hq:stepQ r with
   | none=>
    rw[hq]at hst;simp only[Option.map_none]at hst;rw[hst]at hf;simp only at hf;omega
   | some q=>
    obtain⟨p,r'⟩:=q;rw[hq]at hst;simp only[Option.map_some]at hst;rw[hst]at hf;simp only at hf;have hb:=stepQ_bytes hq;have hat:=ap_at x p;have hpos:0 <(Pc.bytes p).length:=List.length_pos_iff.2 hb.2;have h5:=(step_ok hlt hst).2.1;obtain⟨ps,hps⟩:=loop_reads n (ap x p) r' (by rw[hat,←List.drop_drop,hr,hb.1,List.drop_left]) h5 (by omega) hf;exact⟨p::ps,.cons hq hps⟩
  ·have:r= []:=by
    rw[←hr];exact List.drop_eq_nil_of_le (by rw[←ba_size];omega)
   subst this;exact⟨[],.nil⟩
def Good (p:Pc):Prop:=stepQ (bytes p)=some (p,[])
def Sep:Pc→Option UInt8→Prop
 | .sp _,_=>True
 | .nl,_=>True
 | .com _,c=>∀b,c=some b→b=10
 | .tok k w,c=>∀b,c=some b→(k=1∨k=5→wordB b=false)∧(k=2→digit b=false∧letter b=false)∧(k=4→∀a,w= [a]→isIn ops ⟨#[a,b]⟩=false)
theorem takeWhile_stop {α:Type} (p:α→Bool):∀(w r:List α),w.all p=true→(∀b,r.head? =some b→p b=false)→(w ++ r).takeWhile p=w∧(w ++ r).dropWhile p=r
 | [],r,h,g=>by
  cases r with
  | nil=>exact⟨rfl,rfl⟩
  | cons c r=>
   have:=g c rfl;simp[List.takeWhile_cons,List.dropWhile_cons,this]
 | c::w,r,h,g=>by
  rw[List.all_cons,Bool.and_eq_true]at h;obtain⟨h1,h2⟩:=takeWhile_stop p w r h.2 g;simp only[List.cons_append,List.takeWhile_cons,List.dropWhile_cons,h.1,if_true,h1,h2,and_self]
theorem all_takeWhile {α:Type} (p:α→Bool) (r:List α):(r.takeWhile p).all p=true:=by
 rw[List.all_eq_true];intro x hx;exact Rf.tw_all hx
theorem head_dropWhile {α:Type} (p:α→Bool):∀(r:List α) b,(r.dropWhile p).head? =some b→p b=false
 | [],b,h=>by cases h
 | c::r,b,h=>by
  rw[List.dropWhile_cons]at h;split at h
  ·exact head_dropWhile p r b h
  ·rename_i hc;simp only[List.head?_cons,Option.some.injEq]at h;subst h;simpa using hc
theorem unglue {r:List UInt8} {p:Pc} {r':List UInt8} (h:stepQ r=some (p,r')):Good p∧Sep p r'.head? :=by
 cases r with
 | nil=>cases h
 | cons c r=>
 have hb:=stepQ_bytes h;unfold Good;simp only[stepQ]at h;split at h
 ·cases h;exact⟨rfl,True.intro⟩
 rename_i n1;split at h
 ·rename_i n2;cases h;refine⟨?_,True.intro⟩;simp only[bytes,stepQ,n1,n2,if_true,Bool.false_eq_true,if_false]
 rename_i n2;split at h
 ·rename_i n3;cases h;have hc10:(fun b:UInt8=>b !=10) c=true:=by
   have:c≠10:=by rintro rfl;exact n1 rfl
   simpa using this
  refine⟨?_,fun b hb=>by
   have:=head_dropWhile (fun b:UInt8=>b !=10) _ b hb;simpa using this⟩
  have e:(c::r).takeWhile (fun b=>b !=10)=c::r.takeWhile (fun b=>b !=10):=by rw[List.takeWhile_cons,if_pos hc10]
  have hh:(r.takeWhile (fun b=>b !=10)).head? =r.head? :=by
   rw[Bool.and_eq_true,beq_iff_eq,beq_iff_eq]at n3;cases r with
   | nil=>rfl
   | cons d r=>
    have:d=47:=by simpa using n3.2
    subst this;rfl
  have hall:=all_takeWhile (fun b:UInt8=>b !=10) (c::r);have ht:=takeWhile_stop (fun b:UInt8=>b !=10) _ [] hall (fun b h=>by cases h);rw[List.append_nil]at ht;simp only[bytes];rw[e]at ht⊢;simp only[stepQ];rw[if_neg n1,if_neg n2,hh,if_pos n3,ht.1,ht.2]
 rename_i n3;have n3':∀r2:List UInt8,r2.head? =none∨r2.head? =r.head? →¬(c==47&&r2.head? ==some 47)=true:=by
  intro r2 h2;rcases h2 with h2 | h2
  ·rw[h2];simp
  ·rw[h2];exact n3
 split at h
 ·rename_i hl;split at h
  ·cases h
  ·rename_i hlen;cases h;refine⟨?_,fun b hb=>⟨fun _=>head_dropWhile wordB _ b hb,?_,?_⟩⟩
   ·have hw:wordB c=true:=by simp[wordB,hl]
    have e:(c::r).takeWhile wordB=c::r.takeWhile wordB:=by rw[List.takeWhile_cons,if_pos hw]
    have hall:=all_takeWhile wordB (c::r);have ht:=takeWhile_stop wordB _ [] hall (fun b h=>by cases h);rw[List.append_nil]at ht;simp only[bytes];rw[e]at ht hlen⊢;have hx:¬(c==47&&(r.takeWhile wordB).head? ==some 47)=true:=by
     cases hq:(r.takeWhile wordB).head? with
     | none=>simp
     | some d=>
      cases r with
      | nil=>cases hq
      | cons d' r=>
       rw[List.takeWhile_cons]at hq;split at hq
       ·simp only[List.head?_cons,Option.some.injEq]at hq;subst hq;exact n3
       ·cases hq
    simp only[stepQ];rw[if_neg n1,if_neg n2,if_neg hx,if_pos hl,ht.1,ht.2,if_neg hlen]
   ·intro hk;split at hk <;> omega
   ·intro hk;split at hk <;> omega
 rename_i hl;split at h
 ·rename_i hd;split at h
  ·cases h
  ·rename_i hnum;cases h;refine⟨?_,fun b hb=>⟨fun hk=>by omega,fun _=>⟨head_dropWhile digit _ b hb,?_⟩,fun hk=>by omega⟩⟩
   ·have e:(c::r).takeWhile digit=c::r.takeWhile digit:=by rw[List.takeWhile_cons,if_pos hd]
    have hall:=all_takeWhile digit (c::r);have ht:=takeWhile_stop digit _ [] hall (fun b h=>by cases h);rw[List.append_nil]at ht;have hnum':¬numF ((c::r).takeWhile digit) none=true:=by
     intro q;apply hnum;unfold numF at q⊢;rw[Bool.or_eq_true]at q⊢;rcases q with q | q
     ·exact .inl q
     ·cases q
    simp only[bytes];rw[e]at ht hnum'⊢;have hx:¬(c==47&&(r.takeWhile digit).head? ==some 47)=true:=by
     cases hq:(r.takeWhile digit).head? with
     | none=>simp
     | some d=>
      cases r with
      | nil=>cases hq
      | cons d' r=>
       rw[List.takeWhile_cons]at hq;split at hq
       ·simp only[List.head?_cons,Option.some.injEq]at hq;subst hq;exact n3
       ·cases hq
    simp only[stepQ];rw[if_neg n1,if_neg n2,if_neg hx,if_neg hl,if_pos hd,ht.1,ht.2,List.head?_nil,if_neg hnum']
   ·unfold numF at hnum;rw[Bool.or_eq_true,not_or]at hnum;rw[hb]at hnum;simpa using hnum.2
 rename_i hd;split at h
 ·rename_i hq;unfold textQ at h;simp only at h;split at h
  ·rename_i hh;cases h;refine⟨?_,fun b hb=>⟨fun hk=>by omega,fun hk=>by omega,fun hk=>by omega⟩⟩;generalize hw:r.takeWhile (fun b=>b !=34&&b !=10)=w at *;have hall:w.all (fun b=>b !=34&&b !=10)=true:=by rw[←hw];exact all_takeWhile _ _
   have ht:=takeWhile_stop (fun b:UInt8=>b !=34&&b !=10) w [34] hall (fun b h=>by
    simp only[List.head?_cons,Option.some.injEq]at h;subst h;rfl)
   have hx:¬(c==47&&(w ++ [34]).head? ==some 47)=true:=by
    have:c≠47:=by
     rintro rfl;exact absurd hq (by decide)
    simp[this]
   simp only[bytes,stepQ];rw[if_neg n1,if_neg n2,if_neg hx,if_neg hl,if_neg hd,if_pos hq];unfold textQ;simp only;rw[ht.1];simp
  ·cases h
 rename_i hq;split at h
 ·rename_i hs;cases h;refine⟨?_,fun b hb=>⟨fun hk=>by omega,fun hk=>by omega,fun hk=>by omega⟩⟩;have hx:¬(c==47&&([]:List UInt8).head? ==some 47)=true:=by simp
  simp only[bytes,stepQ];rw[if_neg n1,if_neg n2,if_neg hx,if_neg hl,if_neg hd,if_neg hq,if_pos hs]
 ·rename_i hs;unfold opQ at h;split at h
  ·rename_i ho;cases h;cases r with
   | nil=>cases ho
   | cons d r=>
    refine⟨?_,fun b hb=>⟨fun hk=>by omega,fun hk=>by omega,fun _ a ha=>by simp at ha⟩⟩;simp only[List.head?_cons,Option.any_some]at ho;simp only[bytes,List.take_succ_cons,List.take_zero,stepQ];have hx:¬(c==47&&([d]:List UInt8).head? ==some 47)=true:=n3;rw[if_neg n1,if_neg n2,if_neg hx,if_neg hl,if_neg hd,if_neg hq,if_neg hs];unfold opQ;simp[ho]
  ·rename_i ho;split at h
   ·rename_i hi;cases h;refine⟨?_,fun b hb=>⟨fun hk=>by omega,fun hk=>by omega,fun _ a ha=> ?_⟩⟩
    ·have hx:¬(c==47&&([]:List UInt8).head? ==some 47)=true:=by simp
     simp only[bytes,stepQ];rw[if_neg n1,if_neg n2,if_neg hx,if_neg hl,if_neg hd,if_neg hq,if_neg hs];unfold opQ;simp[hi]
    ·simp only[List.cons.injEq,and_true]at ha;subst ha;rw[hb]at ho;simpa using ho
   ·cases h
theorem ops_no47 (w:List UInt8) (h:w.head? =some 47):isIn ops ⟨w.toArray⟩=false:=by
 rw[Bool.eq_false_iff];intro hi;simp only[isIn,List.any_eq_true,eqB,beq_iff_eq]at hi;obtain⟨o,ho,he⟩:=hi;have h3:ops.all (fun x=> !(x.toList.head? ==some 47))=true:=by kernel_rfl
 have h4:=List.all_eq_true.1 h3 o ho;rw[←he,Lib.toList_data]at h4;simp only at h4;rw[h]at h4;simp at h4
theorem slash_com {r:List UInt8} {p:Pc} {r':List UInt8} (n3:¬((47:UInt8)==47&&r.head? ==some 47)=true) (h:stepQ (47::r)=some (p,r')):False:=by
 simp only[stepQ]at h;rw[if_neg (by decide),if_neg (by decide),if_neg n3,if_neg (by decide),if_neg (by decide),if_neg (by decide),if_neg (by decide)]at h;unfold opQ at h;have h1:isIn ops ⟨#[47]⟩=false:=ops_no47 [47] rfl;cases r with
 | nil=>simp[h1]at h
 | cons d r=>
  have h2:isIn ops ⟨#[47,d]⟩=false:=ops_no47 [47,d] rfl;simp[h1,h2]at h
theorem nil_tw {α:Type} {q:α→Bool} {r:List α} (h:r.dropWhile q= []):r.all q=true:=by
 rw[List.all_eq_true];exact Rf.dropWhile_nil.1 h
theorem glue {p:Pc} {r:List UInt8} (g:Good p) (s:Sep p r.head?):stepQ (bytes p ++ r)=some (p,r):=by
 unfold Good at g;generalize hb:bytes p=b at g⊢;cases b with
 | nil=>cases g
 | cons c w=>
 have h:=g;show stepQ (c::(w ++ r))=_;simp only[stepQ]at h⊢;split at h
 ·rename_i n1;cases h;rw[if_pos n1];rfl
 rename_i n1;rw[if_neg n1];split at h
 ·rename_i n2;cases h;rw[if_pos n2];rfl
 rename_i n2;rw[if_neg n2];split at h
 ·rename_i n3;simp only[Option.some.injEq,Prod.mk.injEq]at h;obtain⟨rfl,h2⟩:=h;have ha:=nil_tw h2;have hh:¬w= []:=by rintro rfl;simp at n3
  have hw:(w ++ r).head? =w.head? :=by
   cases w with
   | nil=>exact absurd rfl hh
   | cons d w=>rfl
  rw[hw,if_pos n3];have ht:=takeWhile_stop (fun b:UInt8=>b !=10) (c::w) r ha (fun b q=>by
   have:=s b q;subst this;rfl)
  rw[List.cons_append]at ht;have h0:=takeWhile_stop (fun b:UInt8=>b !=10) (c::w) [] ha (fun b q=>by cases q);rw[List.append_nil]at h0;rw[ht.1,ht.2,h0.1]
 rename_i n3;have n3':¬(c==47&&(w ++ r).head? ==some 47)=true:=by
  intro q;rw[Bool.and_eq_true,beq_iff_eq]at q;obtain⟨rfl,_⟩:=q;exact slash_com n3 g
 rw[if_neg n3'];split at h
 ·rename_i hl;rw[if_pos hl];split at h
  ·cases h
  ·rename_i hlen;simp only[Option.some.injEq,Prod.mk.injEq]at h;obtain⟨rfl,h2⟩:=h;have ha:=nil_tw h2;have ht:=takeWhile_stop wordB (c::w) r ha (fun b q=>(s b q).1 (by split <;> simp));rw[List.cons_append]at ht;have h0:=takeWhile_stop wordB (c::w) [] ha (fun b q=>by cases q);rw[List.append_nil]at h0;rw[h0.1]at hlen;rw[ht.1,ht.2,h0.1,if_neg hlen]
 rename_i hl;rw[if_neg hl];split at h
 ·rename_i hd;rw[if_pos hd];split at h
  ·cases h
  ·rename_i hnum;simp only[Option.some.injEq,Prod.mk.injEq]at h;obtain⟨rfl,h2⟩:=h;have ha:=nil_tw h2;have ht:=takeWhile_stop digit (c::w) r ha (fun b q=>((s b q).2.1 rfl).1);rw[List.cons_append]at ht;have h0:=takeWhile_stop digit (c::w) [] ha (fun b q=>by cases q);rw[List.append_nil]at h0;rw[h0.1,h0.2]at hnum;have hnum':¬numF (c::w) r.head? =true:=by
    intro q;apply hnum;unfold numF at q⊢;rw[Bool.or_eq_true]at q⊢;rcases q with q | q
    ·exact .inl q
    ·exfalso
     cases hr:r.head? with
     | none=>rw[hr]at q;cases q
     | some b=>
      rw[hr]at q;have:=((s b hr).2.1 rfl).2;simp only[Option.any_some]at q;rw[this]at q;cases q
   rw[ht.1,ht.2,h0.1,if_neg hnum']
 rename_i hd;rw[if_neg hd];split at h
 ·rename_i hq;rw[if_pos hq];unfold textQ at h⊢;simp only at h⊢;split at h
  ·rename_i hh;simp only[Option.some.injEq,Prod.mk.injEq]at h;obtain⟨rfl,h2⟩:=h;generalize hw:w.takeWhile (fun b=>b !=34&&b !=10)=v at *;have hall:v.all (fun b=>b !=34&&b !=10)=true:=by rw[←hw];exact all_takeWhile _ _
   have hvw:w=v ++ [34]:=by
    have e1:w=v ++ w.drop v.length:=by
     rw[←hw,drop_while];exact tw_split _ _
    rw[List.head?_drop]at hh;have hlt:v.length < w.length:=by
     rcases Nat.lt_or_ge v.length w.length with q | q
     ·exact q
     ·rw[List.getElem?_eq_none q]at hh;cases hh
    have e2:w.drop v.length= [34]:=by
     rw[List.drop_eq_getElem_cons hlt,h2];rw[List.getElem?_eq_getElem hlt]at hh;injection hh with hh
     rw[hh]
    rw[e2]at e1;exact e1
   have ht:=takeWhile_stop (fun b:UInt8=>b !=34&&b !=10) v (34::r) hall (fun b h=>by
    simp only[List.head?_cons,Option.some.injEq]at h;subst h;rfl)
   have e:w ++ r=v ++ 34::r:=by rw[hvw];simp
   rw[e,ht.1];simp
  ·cases h
 rename_i hq;rw[if_neg hq];split at h
 ·rename_i hs;rw[if_pos hs];simp only[Option.some.injEq,Prod.mk.injEq]at h;obtain⟨rfl,rfl⟩:=h;rfl
 ·rename_i hs;rw[if_neg hs];unfold opQ at h⊢;split at h
  ·rename_i ho;simp only[Option.some.injEq,Prod.mk.injEq]at h;obtain⟨rfl,h2⟩:=h;cases w with
   | nil=>cases ho
   | cons d w=>
    simp only[List.drop_succ_cons,List.drop_zero]at h2;subst h2;have ho':(([d] ++ r).head?.any fun d=>isIn ops ⟨#[c,d]⟩)=true:=ho;rw[if_pos ho'];rfl
  ·split at h
   ·rename_i hi;simp only[Option.some.injEq,Prod.mk.injEq]at h;obtain⟨rfl,rfl⟩:=h;have:¬(([] ++ r).head?.any fun d=>isIn ops ⟨#[c,d]⟩)=true:=by
     intro q;rw[List.nil_append]at q;cases hr:r.head? with
     | none=>rw[hr]at q;cases q
     | some b=>
      rw[hr]at q;have:=(s b hr).2.2 rfl c rfl;simp only[Option.any_some]at q;rw[this]at q;cases q
    rw[if_neg this,if_pos hi];rfl
   ·cases h
end Pc
end Go.Proofs.Dm
set_option maxHeartbeats 8000000
namespace Go.Proofs.Dm
open Go Go.Proofs Go.Proofs.Dm.Sc
namespace Pc
def dec (r:List UInt8):Nat×Nat:=Lib.decodeN r.length (r.getD 0 0).toNat (r.getD 1 0).toNat (r.getD 2 0).toNat (r.getD 3 0).toNat
def badR (r:List UInt8):Bool:=badN (dec r).1 (dec r).2
theorem get_drop (s:ByteArray) (i k:Nat):s.get! (i + k)=(s.data.toList.drop i).getD k 0:=by
 rw[List.getD_eq_getElem?_getD,List.getElem?_drop];show s.data[i + k]! =_;rw[Array.getElem!_eq_getD,Array.getD_eq_getD_getElem?];simp;rfl
theorem decode_list (s:ByteArray) (i:Nat):Utf8.decode s i=dec (s.data.toList.drop i):=by
 rw[Lib.decode_at];unfold dec;have h:=get_drop s i;have h0:=h 0;rw[Nat.add_zero]at h0;rw[h0,h 1,h 2,h 3,List.length_drop,←ba_size]
theorem badAt_list (s:ByteArray) {i:Nat} (h:i < s.size):badAt s i=badR (s.data.toList.drop i):=by
 unfold badAt badR;have e:Lib.decodeGo (s.extract i s.size)=dec (s.data.toList.drop i):=by
  unfold Lib.decodeGo;have hz:¬(s.extract i s.size).size=0:=by simp;omega
  rw[if_neg hz,decode_list,List.drop_zero,ext_list]
  congr 1
  rw[List.take_of_length_le];rw[List.length_drop,←ba_size];omega
 rw[e,decode_list]
inductive V:List UInt8→Prop where
 | nil:V []
 | cons {r} (h:r≠ []) (hb:badR r=false) (hr:V (r.drop (dec r).2)):V r
theorem V.inv {r:List UInt8} (h:V r) (hne:r≠ []):badR r=false∧V (r.drop (dec r).2):=by
 cases h with
 | nil=>exact absurd rfl hne
 | cons _ a b=>exact⟨a,b⟩
theorem fault_V {s:ByteArray}:∀(n i:Nat),s.size≤i + n→i≤s.size→(faultF s n i= -1↔V (s.data.toList.drop i))
 | 0,i,h,hi=>by
  have:s.data.toList.drop i= []:=List.drop_eq_nil_of_le (by rw[←ba_size];omega);rw[this];exact⟨fun _=> .nil,fun _=>rfl⟩
 | n + 1,i,h,hi=>by
  unfold faultF
  by_cases hlt:i < s.size
  ·rw[if_pos hlt,badAt_list s hlt,decode_list];have hne:s.data.toList.drop i≠ []:=by
    intro q;have:=congrArg List.length q;rw[List.length_drop,←ba_size]at this;simp at this;omega
   cases hb:badR (s.data.toList.drop i)with
   | true=>
    simp only[if_true];refine⟨fun q=>by omega,fun q=> ?_⟩;have:=(q.inv hne).1;rw[hb]at this;cases this
   | false=>
    simp only[Bool.false_eq_true,if_false];have hw:1≤(dec (s.data.toList.drop i)).2:=by rw[←decode_list];exact decW s i
    rcases Nat.lt_or_ge s.size (i +(dec (s.data.toList.drop i)).2)with q | q
    ·have e:(s.data.toList.drop i).drop (dec (s.data.toList.drop i)).2= []:=by
      rw[List.drop_drop];exact List.drop_eq_nil_of_le (by rw[←ba_size];omega)
     have e2:faultF s n (i +(dec (s.data.toList.drop i)).2)= -1:=by
      cases n with
      | zero=>rfl
      | succ n=>unfold faultF;rw[if_neg (by omega)]
     rw[e2];exact⟨fun _=> .cons hne hb (by rw[e];exact .nil),fun _=>rfl⟩
    ·rw[fault_V n _ (by omega) q,←List.drop_drop];exact⟨fun q=> .cons hne hb q,fun q=>(q.inv hne).2⟩
  ·rw[if_neg hlt];have:s.data.toList.drop i= []:=List.drop_eq_nil_of_le (by rw[←ba_size];omega);rw[this];exact⟨fun _=> .nil,fun _=>rfl⟩
theorem dec_key {r:List UInt8} (hr:r≠ []) (hb:badR r=false):1≤(dec r).2∧(dec r).2≤r.length∧(∀k,1≤k→k <(dec r).2→128≤(r.getD k 0).toNat)∧
  ∀r':List UInt8,(dec r).2≤r'.length→(∀k,k <(dec r).2→r'.getD k 0=r.getD k 0)→dec r'=dec r:=by
 have hlen:0 < r.length:=List.length_pos_iff.2 hr;have hnb:¬((dec r).1=65533∧(dec r).2=1):=by
  rintro⟨q1,q2⟩;unfold badR badN at hb;rw[q1,q2]at hb;simp at hb
 obtain⟨b0,e0⟩:∃b0,b0=(r.getD 0 0).toNat:=⟨_,rfl⟩
 obtain⟨b1,e1⟩:∃b1,b1=(r.getD 1 0).toNat:=⟨_,rfl⟩
 obtain⟨b2,e2⟩:∃b2,b2=(r.getD 2 0).toNat:=⟨_,rfl⟩
 obtain⟨b3,e3⟩:∃b3,b3=(r.getD 3 0).toNat:=⟨_,rfl⟩
 have hd:dec r=Lib.decodeN r.length b0 b1 b2 b3:=by rw[e0,e1,e2,e3];rfl
 have key : ∀ (w v : Nat), Lib.decodeN r.length b0 b1 b2 b3 = (v, w) → ¬ (v = 65533 ∧ w = 1) → 1 ≤ w ∧ w ≤ r.length ∧ (1 < w → 128 ≤ b1) ∧ (2 < w → 128 ≤ b2) ∧ (3 < w → 128 ≤ b3) ∧ w ≤ 4 ∧
     ∀n' c1 c2 c3,w≤n'→(1 < w→c1=b1)→(2 < w→c2=b2)→(3 < w→c3=b3)→Lib.decodeN n' b0 c1 c2 c3=(v,w):=by
   intro w v h hn
   unfold Lib.decodeN at h
   split at h
   · rename_i q1
     simp only[Prod.mk.injEq]at h
     obtain⟨rfl,rfl⟩:=h
     refine⟨by omega,by omega,by omega,by omega,by omega,by omega,fun n' c1 c2 c3 g0 g1 g2 g3=> ?_⟩
     unfold Lib.decodeN
     rw[if_pos q1]
   rename_i n1
   split at h
   · rename_i q1
     split at h
     · rename_i q2
       simp only[Prod.mk.injEq]at h
       obtain⟨rfl,rfl⟩:=h
       refine⟨by omega,by omega,by omega,by omega,by omega,by omega,fun n' c1 c2 c3 g0 g1 g2 g3=> ?_⟩
       obtain rfl:=g1 (by omega)
       unfold Lib.decodeN
       rw[if_neg n1,if_pos ⟨q1.1,by omega,q1.2.2⟩,if_pos q2]
     · simp only[Prod.mk.injEq]at h
       exact absurd ⟨h.1.symm,h.2.symm⟩ hn
   rename_i n2
   split at h
   · rename_i q1
     split at h
     · rename_i q2
       simp only[Prod.mk.injEq]at h
       obtain⟨rfl,rfl⟩:=h
       refine⟨by omega,by omega,by omega,by omega,by omega,by omega,fun n' c1 c2 c3 g0 g1 g2 g3=> ?_⟩
       obtain rfl:=g1 (by omega)
       obtain rfl:=g2 (by omega)
       unfold Lib.decodeN
       rw[if_neg n1,if_neg (by omega),if_pos ⟨q1.1,⟨by omega,q1.2.1.2⟩,by omega,q1.2.2.2⟩,if_pos q2]
     · simp only[Prod.mk.injEq]at h
       exact absurd ⟨h.1.symm,h.2.symm⟩ hn
   rename_i n3
   split at h
   · rename_i q1
     split at h
     · rename_i q2
       simp only[Prod.mk.injEq]at h
       obtain⟨rfl,rfl⟩:=h
       refine⟨by omega,by omega,by omega,by omega,by omega,by omega,fun n' c1 c2 c3 g0 g1 g2 g3=> ?_⟩
       obtain rfl:=g1 (by omega)
       obtain rfl:=g2 (by omega)
       obtain rfl:=g3 (by omega)
       unfold Lib.decodeN
       rw[if_neg n1,if_neg (by omega),if_neg (by omega),if_pos ⟨q1.1,⟨by omega,q1.2.1.2⟩,⟨by omega,q1.2.2.1.2⟩,by omega,q1.2.2.2.2⟩,if_pos q2]
     · simp only[Prod.mk.injEq]at h
       exact absurd ⟨h.1.symm,h.2.symm⟩ hn
   · simp only[Prod.mk.injEq]at h
     exact absurd ⟨h.1.symm,h.2.symm⟩ hn
 obtain⟨g1,g2,g3,g4,g5,g6,g7⟩:=key (dec r).2 (dec r).1 hd.symm hnb;refine⟨g1,g2,fun k h1 h2=> ?_,fun r' h1 h2=> ?_⟩
 ·have:k=1∨k=2∨k=3:=by omega
  rcases this with rfl | rfl | rfl
  ·rw[←e1];exact g3 h2
  ·rw[←e2];exact g4 h2
  ·rw[←e3];exact g5 h2
 ·have e:dec r'=Lib.decodeN r'.length b0 (r'.getD 1 0).toNat (r'.getD 2 0).toNat (r'.getD 3 0).toNat:=by
   unfold dec;rw[h2 0 (by omega),←e0]
  rw[e,g7 r'.length _ _ _ h1 (fun q=>by rw[h2 1 q,e1]) (fun q=>by rw[h2 2 q,e2]) (fun q=>by rw[h2 3 q,e3])]
theorem V.app {a b:List UInt8} (ha:V a) (hb:V b):V (a ++ b):=by
 induction ha with
 | nil=>exact hb
 | @cons r h hbad hr ih=>
  obtain⟨k1,k2,k3,k4⟩:=dec_key h hbad;have e:=k4 (r ++ b) (by rw[List.length_append];omega) (fun k hk=>by
   rw[List.getD_eq_getElem?_getD,List.getD_eq_getElem?_getD,List.getElem?_append_left (by omega)])
  refine .cons (by simp[h]) (by unfold badR;rw[e];exact hbad) ?_;rw[e,List.drop_append_of_le_length k2];exact ih
theorem V.cut:∀(n:Nat) (a b:List UInt8),a.length≤n→(∀c,b.head? =some c→c.toNat < 128)→V (a ++ b)→V a∧V b
 | n,[],b,hn,hh,h=>⟨.nil,h⟩
 | 0,c::a,b,hn,hh,h=>by simp at hn
 | n + 1,c::a,b,hn,hh,h=>by
  cases h with
  | cons h hb hr=>
   obtain⟨k1,k2,k3,k4⟩:=dec_key h hb;generalize hw:dec (c::a ++ b)=d at *;have hwa:d.2≤(c::a).length:=by
    rcases Nat.lt_or_ge (c::a).length d.2 with q | q
    ·exfalso
     have h3:=k3 (c::a).length (by simp) q;rw[List.getD_eq_getElem?_getD,List.getElem?_append_right (Nat.le_refl _),Nat.sub_self]at h3;cases b with
     | nil=>
      simp only[List.append_nil]at k2;omega
     | cons e b=>
      have:=hh e rfl;simp only[List.getElem?_cons_zero,Option.getD_some]at h3;omega
    ·exact q
   have e:=k4 (c::a) hwa (fun k hk=>by
    rw[List.getD_eq_getElem?_getD,List.getD_eq_getElem?_getD,List.getElem?_append_left (by omega)])
   rw[List.drop_append_of_le_length hwa]at hr;obtain⟨g1,g2⟩:=V.cut n ((c::a).drop d.2) b (by rw[List.length_drop];simp only[List.length_cons]at hn⊢;omega) hh hr;refine⟨.cons (by simp) ?_ (by rw[e];exact g1),g2⟩;unfold badR at hb⊢;rw[e];rw[hw]at hb;exact hb
theorem V.one {b:UInt8} (h:b=32∨b=9∨b=10):V [b]:=by
 have e:dec [b]=(b.toNat,1)∧badR [b]=false:=by
  rcases h with rfl | rfl | rfl <;> exact⟨rfl,rfl⟩
 refine .cons (by simp) e.2 ?_;rw[e.1];exact .nil
end Pc
end Go.Proofs.Dm
set_option maxHeartbeats 4000000
namespace Go.Proofs.Dm
open Go Go.Proofs Go.Proofs.Dm.Sc
namespace Gr
variable {α β:Type} {l:List Tok} {P:Nat→Prop}
def isBang (t:Tok):Bool:=t.kind==4&&t.text.toList== [33]
def noEq (t:Tok):Bool:= !(t.kind==4&&t.text.toList.head? ==some 61)
def endW (l:List Tok) (j:Nat):Prop:=(tokAt l j).kind≠6∧(ends (tokAt l j)=true∨Fo.isO (tokAt l j) [123]=true)
def SemAt (l:List Tok) (a i:Nat):Prop:=(tokAt l i).kind=6→∃j,a≤j∧j < i∧(∀k,j < k→k < i→(tokAt l k).kind=6)∧endW l j
structure Rd (l:List Tok) (a a':Nat):Prop where
 le:a≤a'
 sem:∀i,a≤i→i < a'→SemAt l a i
 bang:∀i,a≤i→i < a'→isBang (tokAt l i)=true→i + 1 < a'∧noEq (tokAt l (i + 1))=true
def En (l:List Tok) (a a':Nat):Prop:=a < a'→(tokAt l (a' - 1)).kind≠6∧ends (tokAt l (a' - 1))=true
def Fs (l:List Tok) (a a':Nat):Prop:=a < a'∧noEq (tokAt l a)=true
theorem SemAt.mono {a b i:Nat} (h:SemAt l b i) (hab:a≤b):SemAt l a i:=fun q=>by
 obtain⟨j,h1,h2⟩:=h q;exact⟨j,by omega,h2⟩
theorem Rd.refl {a:Nat}:Rd l a a:=⟨Nat.le_refl _,fun i h g=>by omega,fun i h g=>by omega⟩
theorem Rd.trans {a b c:Nat} (h:Rd l a b) (g:Rd l b c):Rd l a c:=⟨Nat.le_trans h.le g.le,fun i q1 q2=>by
  rcases Nat.lt_or_ge i b with q | q
  ·exact h.sem i q1 q
  ·exact(g.sem i q q2).mono h.le,
 fun i q1 q2 q3=>by
  rcases Nat.lt_or_ge i b with q | q
  ·have:=h.bang i q1 q q3;exact⟨by have:=g.le;omega,this.2⟩
  ·exact g.bang i q q2 q3⟩
def ntk (l:List Tok) (i:Nat):Prop:=(tokAt l i).kind≠6∧isBang (tokAt l i)=false
theorem Rd.one {a:Nat} (h:ntk l a):Rd l a (a + 1):=⟨by omega,fun i q1 q2 q=>by
  have:i=a:=by omega
  subst this;exact absurd q h.1,fun i q1 q2 q=>by
  have:i=a:=by omega
  subst this;rw[h.2]at q;cases q⟩
def Rg (l:List Tok) (P:Nat→Prop) (en fs:Bool) (s:G α):Prop:=∀d a x a',P a→s d a= .ok x a'→Rd l a a'∧(en=true→En l a a')∧(fs=true→Fs l a a')
def Rn (l:List Tok) (P:Nat→Prop) (en:Bool) (s:G α):Prop:=∀d a x a',P a→s d a= .ok x a'→Rd l a a'∧a < a'∧(en=true→En l a a')
theorem Rn.g {en:Bool} {s:G α} (h:Rn l P en s):Rg l P en false s:=fun d a x a' hp q=>⟨(h d a x a' hp q).1,(h d a x a' hp q).2.2,(fun q=>by cases q)⟩
theorem Rg.n {en:Bool} {s:G α} (h:Rg l P en true s):Rn l P en s:=fun d a x a' hp q=>⟨(h d a x a' hp q).1,((h d a x a' hp q).2.2 rfl).1,(h d a x a' hp q).2.1⟩
theorem Rn.use {en:Bool} {s:G α} (h:Rn l Any en s):Rn l P en s:=fun d a x a' _ q=>h d a x a' True.intro q
theorem Rg.use {en fs:Bool} {s:G α} (h:Rg l Any en fs s):Rg l P en fs s:=fun d a x a' _ q=>h d a x a' True.intro q
theorem Rg.weak {en fs:Bool} {s:G α} (h:Rg l P en fs s):Rg l P false false s:=fun d a x a' hp q=>⟨(h d a x a' hp q).1,(fun q=>by cases q),(fun q=>by cases q)⟩
theorem Rn.weak {en:Bool} {s:G α} (h:Rn l P en s):Rn l P false s:=fun d a x a' hp q=>⟨(h d a x a' hp q).1,(h d a x a' hp q).2.1,(fun q=>by cases q)⟩
theorem En.left {a b c:Nat} (hab:a < b) (h:En l a b) (g:En l b c) (hbc:b≤c):En l a c:=by
 intro _;rcases Nat.eq_or_lt_of_le hbc with q | q
 ·subst q;exact h hab
 ·exact g q
theorem Rn.left {en:Bool} {s:G α} {t:α→G β} (h:Rn l P en s) (ht:∀x,Rg l Any en false (t x)):Rn l P en (Gr.bind s t):=by
 intro d a x a' hp q;obtain⟨y,b,h1,h2⟩:=bind_ok q;obtain⟨r1,r2,r3⟩:=h d a y b hp h1;obtain⟨g1,g2,_⟩:=ht y d b x a' True.intro h2;exact⟨r1.trans g1,by have:=g1.le;omega,fun e=>En.left r2 (r3 e) (g2 e) g1.le⟩
theorem Rn.right {en e1 f1:Bool} {s:G α} {t:α→G β} (h:Rg l P e1 f1 s) (ht:∀x,Rn l Any en (t x)):Rn l P en (Gr.bind s t):=by
 intro d a x a' hp q;obtain⟨y,b,h1,h2⟩:=bind_ok q;obtain⟨r1,_⟩:=h d a y b hp h1;obtain⟨g1,g2,g3⟩:=ht y d b x a' True.intro h2;refine⟨r1.trans g1,by have:=r1.le;omega,fun e _=>g3 e g2⟩
theorem Rg.first {e1:Bool} {s:G α} {t:α→G β} (h:Rg l P e1 true s) (ht:∀x,Rg l Any false false (t x)):Rg l P false true (Gr.bind s t):=by
 intro d a x a' hp q;obtain⟨y,b,h1,h2⟩:=bind_ok q;obtain⟨r1,r2,r3⟩:=h d a y b hp h1;obtain⟨g1,g2,_⟩:=ht y d b x a' True.intro h2;have k:=r3 rfl;exact⟨r1.trans g1,(fun e=>by cases e),fun _=>⟨by have:=g1.le;have:=k.1;omega,k.2⟩⟩
theorem Rg.join {en fs e1 f1 e2 f2:Bool} {s:G α} (h:Rg l P en f1 s) (g:Rg l P e2 fs s):Rg l P en fs s:=fun d a x a' hp q=>⟨(h d a x a' hp q).1,(h d a x a' hp q).2.1,(g d a x a' hp q).2.2⟩
theorem Rg.mk {en:Bool} {s:G α} (h:Rn l P en s) (g:Rg l P false true s):Rg l P en true s:=fun d a x a' hp q=>⟨(h d a x a' hp q).1,(h d a x a' hp q).2.2,(g d a x a' hp q).2.2⟩
theorem Rg.adv {en fs:Bool} {s:Int→G β} (hp:∀a,P a→ntk l a) (ht:∀x,Rg l Any false fs (s x)):Rg l P false false (Gr.bind (Gr.adv l) s):=by
 intro d a x a' h q;obtain⟨y,b,h1,h2⟩:=bind_ok q;obtain⟨rfl,_⟩:=adv_ok h1;exact⟨(Rd.one (hp a h)).trans (ht _ d _ x a' True.intro h2).1,(fun e=>by cases e),(fun e=>by cases e)⟩
theorem Rn.adv {en:Bool} {s:Int→G β} (hp:∀a,P a→ntk l a) (ht:∀x,Rn l Any en (s x)):Rn l P en (Gr.bind (Gr.adv l) s):=by
 intro d a x a' h q;obtain⟨y,b,h1,h2⟩:=bind_ok q;obtain⟨rfl,_⟩:=adv_ok h1;obtain⟨g1,g2,g3⟩:=ht _ d _ x a' True.intro h2;exact⟨(Rd.one (hp a h)).trans g1,by omega,fun e _=>g3 e g2⟩
theorem Rn.advE {en:Bool} {s:Int→G β} (hp:∀a,P a→ntk l a∧(en=true→ends (tokAt l a)=true)) (ht:∀x,Rg l Any en false (s x)):Rn l P en (Gr.bind (Gr.adv l) s):=by
 intro d a x a' h q;obtain⟨y,b,h1,h2⟩:=bind_ok q;obtain⟨rfl,_⟩:=adv_ok h1;obtain⟨k1,k2⟩:=hp a h;obtain⟨g1,g2,_⟩:=ht _ d _ x a' True.intro h2;exact⟨(Rd.one k1).trans g1,by have:=g1.le;omega,fun e=>En.left (by omega) (fun _=>by rw[Nat.add_sub_cancel];exact⟨k1.1,k2 e⟩) (g2 e) g1.le⟩
theorem ntk_word {i:Nat} {s:ByteArray} (h:Pp.word (tokAt l i) s=true) (h1:s.data.toList≠ [33]):ntk l i:=by
 unfold Pp.word at h;rw[Bool.and_eq_true,Bool.or_eq_true,beq_iff_eq,beq_iff_eq,beq_iff_eq]at h;refine⟨by rcases h.1 with q | q <;> rw[q] <;> decide,?_⟩;unfold isBang;rw[h.2,Lib.toList_data,Bool.and_eq_false_iff];right;simpa using h1
theorem ntk_kind {i:Nat} {k:Int} (h:(tokAt l i).kind=k) (h4:k≠4) (h6:k≠6):ntk l i:=by
 refine⟨by rw[h];exact h6,?_⟩;unfold isBang;rw[h,Bool.and_eq_false_iff];left;simpa using h4
theorem ends_name {t:Tok} (h:t.kind=1):ends t=true:=by unfold ends;rw[h];rfl
theorem ends_op {t:Tok} {s:ByteArray} (h:Pp.word t s=true) (hk:t.kind=5→isIn keys t.text=true) (h1:s.data.toList= [41]∨s.data.toList= [125]):ends t=true:=by
 unfold Pp.word at h;rw[Bool.and_eq_true,Bool.or_eq_true,beq_iff_eq,beq_iff_eq,beq_iff_eq]at h;have e:t.text.toList= [41]∨t.text.toList= [125]:=by rw[h.2,Lib.toList_data];exact h1
 rcases h.1 with q | q
 ·unfold ends;have:isIn endO t.text=true:=by
   simp only[isIn,endO,eqB,List.any_cons,List.any_nil,Bool.or_false];rw[Lib.toList_data ⟨#[41]⟩,Lib.toList_data ⟨#[125]⟩];rcases e with e | e <;> rw[e] <;> decide
  rw[q,this];rfl
 ·exfalso
  have h1:=hk q;simp only[isIn,List.any_eq_true,eqB,beq_iff_eq]at h1;obtain⟨x,hx,he⟩:=h1;have h2:keys.all (fun x=> !(x.toList== [41])&& !(x.toList== [125]))=true:=by kernel_rfl
  have h3:=List.all_eq_true.1 h2 x hx;rw[←he]at h3;rcases e with e | e <;> rw[e]at h3 <;> simp at h3
theorem Rn.kind {k:Int} {en:Bool} {t:Int→G β} (h4:k≠4) (h6:k≠6) (ht:∀x,Rn l Any en (t x)):Rn l P en (Gr.bind (kindG l k) t):=by
 intro d a x a' h q;obtain⟨y,b,h1,h2⟩:=bind_ok q;obtain⟨rfl,hk⟩:=kind_ok h1;obtain⟨g1,g2,g3⟩:=ht _ d _ x a' True.intro h2;exact⟨(Rd.one (ntk_kind hk h4 h6)).trans g1,by omega,fun e _=>g3 e g2⟩
theorem Rn.name {t:Int→G β} (ht:∀x,Rg l Any true false (t x)):Rn l P true (Gr.bind (kindG l 1) t):=by
 intro d a x a' h q;obtain⟨y,b,h1,h2⟩:=bind_ok q;obtain⟨rfl,hk⟩:=kind_ok h1;obtain⟨g1,g2,_⟩:=ht _ d _ x a' True.intro h2;exact⟨(Rd.one (ntk_kind hk (by decide) (by decide))).trans g1,by have:=g1.le;omega,fun e=>En.left (by omega) (fun _=>by rw[Nat.add_sub_cancel,hk];exact⟨by decide,ends_name hk⟩) (g2 e) g1.le⟩
theorem Rn.want {s:ByteArray} {en:Bool} {t:Int→G β} (h1:s.data.toList≠ [33]) (ht:∀x,Rn l Any en (t x)):Rn l P en (Gr.bind (wantG l s) t):=by
 intro d a x a' h q;obtain⟨y,b,h3,h2⟩:=bind_ok q;obtain⟨rfl,hk⟩:=want_ok h3;obtain⟨g1,g2,g3⟩:=ht _ d _ x a' True.intro h2;exact⟨(Rd.one (ntk_word hk h1)).trans g1,by omega,fun e _=>g3 e g2⟩
theorem Rn.wantE {s:ByteArray} {t:Int→G β} (hK:KTs l) (h1:s.data.toList= [41]∨s.data.toList= [125]) (ht:∀x,Rg l Any true false (t x)):Rn l P true (Gr.bind (wantG l s) t):=by
 intro d a x a' h q;obtain⟨y,b,h3,h2⟩:=bind_ok q;obtain⟨rfl,hk⟩:=want_ok h3;obtain⟨g1,g2,_⟩:=ht _ d _ x a' True.intro h2;have n:=ntk_word hk (by rcases h1 with q | q <;> rw[q] <;> decide);exact⟨(Rd.one n).trans g1,by have:=g1.le;omega,fun e=>En.left (by omega) (fun _=>by rw[Nat.add_sub_cancel];exact⟨n.1,ends_op hk (hK a) h1⟩) (g2 e) g1.le⟩
theorem Rn.wantW {s:ByteArray} {t:Int→G β} (h1:s.data.toList≠ [33]) (ht:∀x,Rg l Any false false (t x)):Rn l P false (Gr.bind (wantG l s) t):=by
 intro d a x a' h q;obtain⟨y,b,h3,h2⟩:=bind_ok q;obtain⟨rfl,hk⟩:=want_ok h3;obtain⟨g1,g2,_⟩:=ht _ d _ x a' True.intro h2;exact⟨(Rd.one (ntk_word hk h1)).trans g1,by have:=g1.le;omega,(fun e=>by cases e)⟩
theorem Rg.isI {s:ByteArray} {en fs:Bool} {A B:G β} (h1:Rg l (PW l s) en fs A) (h2:Rg l P en fs B):Rg l P en fs (Gr.bind (isG l s) fun b=>Gr.ite b A B):=by
 intro d a x a' hp q;unfold Gr.bind isG at q;dsimp only[Res.andThen]at q;unfold Gr.ite at q;split at q
 ·rename_i hw;exact h1 d a x a' hw q
 ·exact h2 d a x a' hp q
theorem Rn.isI {s:ByteArray} {en:Bool} {A B:G β} (h1:Rn l (PW l s) en A) (h2:Rn l P en B):Rn l P en (Gr.bind (isG l s) fun b=>Gr.ite b A B):=by
 intro d a x a' hp q;unfold Gr.bind isG at q;dsimp only[Res.andThen]at q;unfold Gr.ite at q;split at q
 ·rename_i hw;exact h1 d a x a' hw q
 ·exact h2 d a x a' hp q
theorem Rg.look {k:Nat} {en fs:Bool} {t:Tok→G β} (ht:∀x,Rg l (PL l P k x) en fs (t x)):Rg l P en fs (Gr.bind (Gr.look l k) t):=fun d a x a' hp q=>ht _ d a x a' ⟨hp,rfl⟩ q
theorem Rn.look {k:Nat} {en:Bool} {t:Tok→G β} (ht:∀x,Rn l (PL l P k x) en (t x)):Rn l P en (Gr.bind (Gr.look l k) t):=fun d a x a' hp q=>ht _ d a x a' ⟨hp,rfl⟩ q
theorem Rn.here {en:Bool} {t:Int→G β} (ht:∀x,Rn l P en (t x)):Rn l P en (Gr.bind Gr.here t):=fun d a x a' hp q=>ht _ d a x a' hp q
theorem Rg.iteP {en fs c:Bool} {s t:G α} (h1:c=true→Rg l P en fs s) (h2:c=false→Rg l P en fs t):Rg l P en fs (Gr.ite c s t):=by
 cases c
 ·exact h2 rfl
 ·exact h1 rfl
theorem Rn.iteP {en c:Bool} {s t:G α} (h1:c=true→Rn l P en s) (h2:c=false→Rn l P en t):Rn l P en (Gr.ite c s t):=by
 cases c
 ·exact h2 rfl
 ·exact h1 rfl
theorem Rg.pure {en:Bool} {x:α}:Rg l P en false (Gr.pure x):=fun d a y a' hp q=>by
 unfold Gr.pure at q;cases q;exact⟨Rd.refl,fun e h=>by omega,(fun e=>by cases e)⟩
theorem Rg.fail {en fs:Bool}:Rg l P en fs (Gr.fail:G α):=fun d a y a' hp q=>by cases q
theorem Rg.stop {en fs:Bool}:Rg l P en fs (Gr.stop:G α):=fun d a y a' hp q=>by cases q
theorem Rn.fail {en:Bool}:Rn l P en (Gr.fail:G α):=fun d a y a' hp q=>by cases q
theorem Rn.stop {en:Bool}:Rn l P en (Gr.stop:G α):=fun d a y a' hp q=>by cases q
theorem Rn.nest {en:Bool} {s:G α} (h:Rn l P en s):Rn l P en (Gr.nest s):=fun d a y a' hp q=>by
 unfold Gr.nest at q;split at q
 ·cases q
 ·exact h (d + 1) a y a' hp q
theorem Rg.nest {en fs:Bool} {s:G α} (h:Rg l P en fs s):Rg l P en fs (Gr.nest s):=fun d a y a' hp q=>by
 unfold Gr.nest at q;split at q
 ·cases q
 ·exact h (d + 1) a y a' hp q
theorem semis_rd {w a0:Nat} (hw0:a0≤w) (he:endW l w):∀(n d a:Nat) (x:Unit) (a':Nat),semisG l n d a= .ok x a'→w < a→(∀k,w < k→k < a→(tokAt l k).kind=6)→Rd l a0 a→Rd l a0 a'
 | 0,d,a,x,a',h,_,_,_=>by cases h
 | n + 1,d,a,x,a',h,hw,hs,hr=>by
  unfold semisG at h;split at h
  ·rename_i hk;have hk':(tokAt l a).kind=6:=by simpa using hk
   have hs2:∀k,w < k→k < a + 1→(tokAt l k).kind=6:=fun k q1 q2=>by
    rcases Nat.lt_or_ge k a with q | q
    ·exact hs k q1 q
    ·have:k=a:=by omega
     subst this;exact hk'
   refine semis_rd hw0 he n d (a + 1) x a' h (by omega) hs2 ⟨by omega,fun i q1 q2=> ?_,fun i q1 q2 q3=> ?_⟩
   ·rcases Nat.lt_or_ge i a with q | q
    ·exact hr.sem i q1 q
    ·have:i=a:=by omega
     subst this;exact fun _=>⟨w,hw0,hw,hs,he⟩
   ·rcases Nat.lt_or_ge i a with q | q
    ·have:=hr.bang i q1 q q3;exact⟨by omega,this.2⟩
    ·have:i=a:=by omega
     subst this;unfold isBang at q3;rw[hk']at q3;simp at q3
  ·cases h;exact hr
theorem semi_rd {N:Nat} {a0 b d:Nat} {u:Int} {c:Nat} {z:Unit} {e:Nat} (hr:Rd l a0 b) (hlt:a0 < b) (he:(tokAt l (b - 1)).kind≠6∧ends (tokAt l (b - 1))=true) (h1:kindG l 6 d b= .ok u c) (h2:semisG l N d c= .ok z e):Rd l a0 e:=by
 obtain⟨rfl,hk⟩:=kind_ok h1;have hw:endW l (b - 1):=⟨he.1,.inl he.2⟩
 have hs:∀k,b - 1 < k→k < b + 1→(tokAt l k).kind=6:=fun k q1 q2=>by
  have:k=b:=by omega
  subst this;exact hk
 refine semis_rd (w:=b - 1) (by omega) hw N d (b + 1) z e h2 (by omega) hs ⟨by omega,fun i q1 q2=> ?_,fun i q1 q2 q3=> ?_⟩
 ·rcases Nat.lt_or_ge i b with q | q
  ·exact hr.sem i q1 q
  ·have:i=b:=by omega
   subst this;exact fun _=>⟨i - 1,by omega,by omega,fun k r1 r2=>by omega,hw⟩
 ·rcases Nat.lt_or_ge i b with q | q
  ·have:=hr.bang i q1 q q3;exact⟨by omega,this.2⟩
  ·have:i=b:=by omega
   subst this;unfold isBang at q3;rw[hk]at q3;simp at q3
end Gr
end Go.Proofs.Dm
set_option maxHeartbeats 4000000
namespace Go.Proofs.Dm
open Go Go.Proofs Go.Proofs.Dm.Sc
namespace Gr
variable {α β:Type} {l:List Tok} {P:Nat→Prop}
def KOs (l:List Tok):Prop:=∀i,(tokAt l i).kind=4→isIn ops (tokAt l i).text=true
theorem ends_key {t:Tok} {s:ByteArray} (h:Pp.word t s=true) (ho:t.kind=4→isIn ops t.text=true) (h1:s.data.toList= [114,101,116,117,114,110]∨s.data.toList= [98,114,101,97,107]∨s.data.toList= [99,111,110,116,105,110,117,101]):ends t=true:=by
 unfold Pp.word at h;rw[Bool.and_eq_true,Bool.or_eq_true,beq_iff_eq,beq_iff_eq,beq_iff_eq]at h;have e:t.text.toList= [114,101,116,117,114,110]∨t.text.toList= [98,114,101,97,107]∨t.text.toList= [99,111,110,116,105,110,117,101]:=by rw[h.2,Lib.toList_data];exact h1
 rcases h.1 with q | q
 ·exfalso
  have h1:=ho q;simp only[isIn,List.any_eq_true,eqB,beq_iff_eq]at h1;obtain⟨x,hx,he⟩:=h1;have h2:ops.all (fun x=>decide (x.toList.length≤2))=true:=by kernel_rfl
  have h3:=List.all_eq_true.1 h2 x hx;rw[←he]at h3;rcases e with e | e | e <;> rw[e]at h3 <;> simp at h3
 ·unfold ends;have:isIn endK t.text=true:=by
   simp only[isIn,endK,eqB,List.any_cons,List.any_nil,Bool.or_false];rw[Lib.toList_data ⟨#[114,101,116,117,114,110]⟩,Lib.toList_data ⟨#[98,114,101,97,107]⟩,Lib.toList_data ⟨#[99,111,110,116,105,110,117,101]⟩];rcases e with e | e | e <;> rw[e] <;> decide
  rw[q,this];rfl
theorem Rn.adv2 {en:Bool} {t:Int→Int→G β} (hp:∀a,P a→ntk l a∧ntk l (a + 1)) (ht:∀x y,Rn l Any en (t x y)):Rn l P en (Gr.bind (Gr.adv l) fun x=>Gr.bind (Gr.adv l) fun y=>t x y):=by
 intro d a x a' h q;obtain⟨y,b,h1,h2⟩:=bind_ok q;obtain⟨z,c,h3,h4⟩:=bind_ok h2;obtain⟨rfl,_⟩:=adv_ok h1;obtain⟨rfl,_⟩:=adv_ok h3;obtain⟨g1,g2,g3⟩:=ht _ _ d _ x a' True.intro h4;exact⟨((Rd.one (hp a h).1).trans (Rd.one (hp a h).2)).trans g1,by omega,fun e _=>g3 e g2⟩
theorem rg_typ:Rn l P true (typG l):=Rn.name fun _=>Rg.isI ((Rn.adv (fun a h=>ntk_word h (by decide)) fun _=>Rn.name fun _=>Rg.pure).g) Rg.pure
abbrev RX (l:List Tok) (s:G α):Prop:=Rg l Any true true s
theorem rg_variable {E:GN} (hE:RX l E):Rn l (PW l ⟨#[118,97,114]⟩) true (variableG l E):=Rn.adv (fun a h=>ntk_word h (by decide)) fun _=>Rn.kind (by decide) (by decide) fun _=>Rn.left rg_typ fun _=>Rg.isI ((Rn.adv (fun a h=>ntk_word h (by decide)) fun _=>Rn.left hE.n fun _=>Rg.pure).g) Rg.pure
theorem rg_constant {E:GN} (hE:RX l E):Rn l (PW l ⟨#[99,111,110,115,116]⟩) true (constantG l E):=Rn.adv (fun a h=>ntk_word h (by decide)) fun _=>Rn.kind (by decide) (by decide) fun _=>Rn.want (by decide) fun _=>Rn.left hE.n fun _=>Rg.pure
theorem curlyL_rd {S:GN} (hS:Rn l Any true S) {N:Nat}:∀(n:Nat) (ks:List Nd) (d a0 a:Nat) (x:List Nd) (a':Nat),curlyLG l S N n ks d a= .ok x a'→Rd l a0 a→Rd l a0 a'
 | 0,ks,d,a0,a,x,a',h,hr=>by cases h
 | n + 1,ks,d,a0,a,x,a',h,hr=>by
  unfold curlyLG at h;obtain⟨b0,c0,h0,h⟩:=bind_ok h;unfold isG at h0;cases h0;unfold Gr.ite at h;split at h
  ·unfold Gr.pure at h;cases h;exact hr
  ·obtain⟨y,b,h1,h⟩:=bind_ok h;obtain⟨r1,r2,r3⟩:=hS d a y b True.intro h1;have hb:=hr.trans r1;obtain⟨b0,c0,h0,h⟩:=bind_ok h;unfold isG at h0;cases h0;split at h
   ·exact curlyL_rd hS n _ d a0 b x a' h hb
   ·obtain⟨u,c,h2,h⟩:=bind_ok h;obtain⟨z,e,h3,h⟩:=bind_ok h;exact curlyL_rd hS n _ d a0 e x a' h (semi_rd hb (by have:=hr.le;omega) (r3 rfl r2) h2 h3)
theorem rg_curly (hK:KTs l) {S:GN} (hS:Rn l Any true S) {N:Nat}:Rn l Any true (curlyG l S N):=by
 intro d a x a' _ q;unfold curlyG at q;obtain⟨b0,c0,h0,q⟩:=bind_ok q;unfold isG at h0;cases h0;unfold Gr.ite at q;split at q
 rotate_left
 ·cases q
 rename_i hw;unfold Gr.nest at q;split at q
 ·cases q
 obtain⟨y,b,h1,h2⟩:=bind_ok q;obtain⟨rfl,_⟩:=adv_ok h1;obtain⟨z,c,h3,h4⟩:=bind_ok h2;obtain⟨ks,e,h5,h6⟩:=bind_ok h4;obtain⟨w,f,h7,h8⟩:=bind_ok h6;obtain⟨rfl,hw2⟩:=want_ok h7;unfold Gr.pure at h8;cases h8;have o1:=brace_word (hK a) (.inl rfl) hw;have n1:=ntk_word hw (by decide);have r1:=semis_rd (w:=a) (a0:=a) (Nat.le_refl _) ⟨n1.1,.inr o1⟩ N (d + 1) (a + 1) z c h3 (by omega) (fun k q1 q2=>by omega) (Rd.one n1);have r2:=curlyL_rd hS N [] (d + 1) a c ks e h5 r1;have n2:=ntk_word hw2 (by decide);exact⟨r2.trans (Rd.one n2),by have:=r2.le;omega,fun _ _=>by rw[Nat.add_sub_cancel];exact⟨n2.1,ends_op hw2 (hK e) (.inr rfl)⟩⟩
theorem rg_block (hK:KTs l) {S:GN} (hS:Rn l Any true S) {N:Nat}:Rn l Any true (blockG l S N):=Rn.left (rg_curly hK hS) fun _=>Rg.pure
theorem rg_field:Rn l Any true (fieldG l):=Rn.kind (by decide) (by decide) fun _=>Rn.left rg_typ fun _=>Rg.pure
theorem rg_structure (hK:KTs l) {N:Nat}:Rn l (PW l ⟨#[116,121,112,101]⟩) true (structureG l N):=Rn.adv (fun a h=>ntk_word h (by decide)) fun _=>Rn.kind (by decide) (by decide) fun _=>Rn.want (by decide) fun _=>Rn.left (rg_curly hK rg_field) fun _=>Rg.pure
theorem rg_funcL:∀(n:Nat) (ks:List Nd),Rg l Any false false (funcLG l n ks)
 | 0,ks=>Rg.stop
 | n + 1,ks=>Rg.isI Rg.pure ((Rn.kind (by decide) (by decide) fun _=>Rn.left rg_typ.weak fun _=>Rg.isI (Rg.use (rg_funcL n _)) ((Rn.wantW (by decide) fun _=>Rg.isI Rg.fail (rg_funcL n _)).g)).g)
theorem rg_function {C:GN} (hC:Rn l Any true C) {N:Nat}:Rn l (PW l ⟨#[102,117,110,99]⟩) true (functionG l C N):=Rn.adv (fun a h=>ntk_word h (by decide)) fun _=>Rn.kind (by decide) (by decide) fun _=>Rn.want (by decide) fun _=>Rn.right (rg_funcL N []) fun _=>Rn.want (by decide) fun _=>
 Rn.look fun _=>Rn.iteP (fun _=>Rn.right rg_typ.g fun _=>Rn.left hC fun _=>Rg.pure) (fun _=>Rn.left (Rn.use hC) fun _=>Rg.pure)
theorem PL.name {k:Int} {t:Tok} {a:Nat} (h4:k≠4) (h6:k≠6) (hc:(t.kind==k)=true) (h:PL l P 0 t a):ntk l a:=by
 have e:tokAt l a=t:=h.2;rw[beq_iff_eq]at hc;exact ntk_kind (by rw[e,hc]) h4 h6
theorem PL.ends {k:Int} {t:Tok} {a:Nat} (hk:k=1∨k=2∨k=3) (hc:(t.kind==k)=true) (h:PL l P 0 t a):Sc.ends (tokAt l a)=true:=by
 have e:tokAt l a=t:=h.2;rw[beq_iff_eq]at hc;unfold Sc.ends;rw[e,hc];rcases hk with rfl | rfl | rfl <;> rfl
theorem rg_leave (hO:KOs l) {w:ByteArray} (h1:w.data.toList= [98,114,101,97,107]∨w.data.toList= [99,111,110,116,105,110,117,101]) (k:Int):Rn l (PW l w) true (leaveG l k):=
 Rn.advE (fun a h=>⟨ntk_word h (by rcases h1 with q | q <;> rw[q] <;> decide),fun _=>ends_key h (hO a) (.inr h1)⟩) fun _=>Rg.look fun _=>Rg.iteP
  (fun hc=>(Rn.advE (fun a h=>⟨PL.name (by decide) (by decide) hc h,fun _=>PL.ends (.inl rfl) hc h⟩) fun _=>Rg.pure).g) (fun _=>Rg.pure)
theorem rg_branch {E C R:GN} (hE:RX l E) (hC:Rn l Any true C) (hR:Rn l (PW l ⟨#[105,102]⟩) true R):Rn l (PW l ⟨#[105,102]⟩) true (branchG l E C R):=Rn.adv (fun a h=>ntk_word h (by decide)) fun _=>Rn.right hE fun _=>Rn.left hC fun _=>
 Rg.isI ((Rn.adv (fun a h=>ntk_word h (by decide)) fun _=>Rn.isI (Rn.left (Rn.nest hR) fun _=>Rg.pure) (Rn.left hC fun _=>Rg.pure)).g) Rg.pure
theorem rg_loop {E C:GN} (hE:RX l E) (hC:Rn l Any true C):Rn l (PW l ⟨#[102,111,114]⟩) true (loopG l E C):=Rn.adv (fun a h=>ntk_word h (by decide)) fun _=>Rn.right hE fun _=>Rn.left hC fun _=>Rg.pure
theorem rg_back (hO:KOs l) {E:GN} (hE:RX l E):Rn l (PW l ⟨#[114,101,116,117,114,110]⟩) true (backG l E):=Rn.advE (fun a h=>⟨ntk_word h (by decide),fun _=>ends_key h (hO a) (.inl rfl)⟩) fun _=>Rg.look fun _=>Rg.iteP (fun _=>Rg.pure) (fun _=>Rg.isI Rg.pure ((Rn.left (Rn.use hE.n) fun _=>Rg.pure).g))
theorem rg_rest {E:GN} (hE:RX l E):Rn l P true (restG l E):=Rn.here fun _=>Rn.left (Rn.use hE.n) fun _=>Rg.isI ((Rn.adv (fun a h=>ntk_word h (by decide)) fun _=>Rn.left hE.n fun _=>Rg.pure).g) Rg.pure
theorem rg_simple {E L:GN} (hE:RX l E) (hL:Rn l (PW l ⟨#[102,111,114]⟩) true L):Rn l P true (simpleG l E L):=Rn.look fun t=>Rn.iteP (fun hc=>Rn.look fun n=>Rn.iteP
  (fun hw=>Rn.adv2 (fun a h=>⟨PL.name (by decide) (by decide) hc h.1,ntk_word (by rw[h.2];exact hw) (by decide)⟩) fun _ _=>Rn.left hE.n fun _=>Rg.pure)
  (fun _=>Rn.iteP (fun hw=>Rn.adv2 (fun a h=>⟨PL.name (by decide) (by decide) hc h.1,ntk_word (by rw[h.2];exact hw) (by decide)⟩) fun _ _=>Rn.isI (Rn.left hL fun _=>Rg.pure) Rn.fail) (fun _=>rg_rest hE)))
 (fun _=>rg_rest hE)
theorem rg_stmt (hO:KOs l) {V C K I L R M:GN} (hV:Rn l (PW l ⟨#[118,97,114]⟩) true V) (hC:Rn l (PW l ⟨#[99,111,110,115,116]⟩) true C) (hK:Rn l Any true K) (hI:Rn l (PW l ⟨#[105,102]⟩) true I) (hL:Rn l (PW l ⟨#[102,111,114]⟩) true L) (hR:Rn l (PW l ⟨#[114,101,116,117,114,110]⟩) true R) (hM:Rn l Any true M):Rn l Any true (stmtG l V C K I L R M):=
 Rn.isI hV (Rn.isI hC (Rn.isI (Rn.use hK) (Rn.isI hI (Rn.isI hL (Rn.isI hR (Rn.isI (rg_leave hO (.inl rfl) 17) (Rn.isI (rg_leave hO (.inr rfl) 18) hM)))))))
theorem rg_decl {V C S F:GN} (hV:Rn l (PW l ⟨#[118,97,114]⟩) true V) (hC:Rn l (PW l ⟨#[99,111,110,115,116]⟩) true C) (hS:Rn l (PW l ⟨#[116,121,112,101]⟩) true S) (hF:Rn l (PW l ⟨#[102,117,110,99]⟩) true F):Rn l Any true (declG l V C S F):=
 Rn.isI hV (Rn.isI hC (Rn.isI hS (Rn.isI hF Rn.fail)))
theorem rank_bang {s:ByteArray} (h:s.toList= [33]):Pp.rank s=0:=by
 unfold Pp.rank;rw[h];rfl
theorem rg_binaryL {Y:Int→GN} (hY:∀r,RX l (Y r)):∀(n:Nat) (rk:Int) (x:Nd),Rg l Any true false (binaryLG l Y n rk x)
 | 0,rk,x=>Rg.stop
 | n + 1,rk,x=>Rg.look fun t=>Rg.iteP (fun _=>Rg.pure) fun h4=>Rg.iteP (fun _=>Rg.pure) fun _=>Rg.iteP (fun _=>Rg.pure) fun hr=>(Rn.adv (fun a h=>by
   have e:tokAt l a=t:=h.2;have hr':Pp.rank t.text≠0:=by simpa using hr
   have h4':t.kind=4:=by simpa using h4
   refine⟨by rw[e,h4'];decide,?_⟩;unfold isBang;rw[e,Bool.and_eq_false_iff];right;rw[beq_eq_false_iff_ne];exact fun q=>hr' (rank_bang q))
  fun _=>Rn.left (hY _).n fun _=>rg_binaryL hY n rk _).g
theorem rg_binary {U:GN} {Y:Int→GN} (hU:RX l U) (hY:∀r,RX l (Y r)) {N:Nat} (rk:Int):RX l (binaryG l U Y N rk):=Rg.mk (Rn.left hU.n fun x=>rg_binaryL hY N rk x) (Rg.first hU fun x=>(rg_binaryL hY N rk x).weak)
theorem Rg.bang {U:G α} {t:Int→α→G β} (hp:∀a,P a→(tokAt l a).kind≠6∧noEq (tokAt l a)=true) (hU:RX l U) (ht:∀o x,Rg l Any true false (t o x)):Rg l P true true (Gr.bind (Gr.adv l) fun o=>Gr.bind U fun x=>t o x):=by
 intro d a x a' h q;obtain⟨y,b,h1,h2⟩:=bind_ok q;obtain⟨z,c,h3,h4⟩:=bind_ok h2;obtain⟨rfl,_⟩:=adv_ok h1;obtain⟨k1,k2⟩:=hp a h;obtain⟨r1,r2,r3⟩:=hU d _ z c True.intro h3;obtain⟨g1,g2,_⟩:=ht _ _ d c x a' True.intro h4;obtain⟨f1,f2⟩:=r3 rfl
 have hone : Rd l a c := ⟨by omega, fun i q1 q2 q => by
     rcases Nat.eq_or_lt_of_le q1 with e | e
     · subst e;exact absurd q k1
     · exact(r1.sem i e q2).mono (by omega) q,
   fun i q1 q2 q3=>by
     rcases Nat.eq_or_lt_of_le q1 with e | e
     · subst e;exact⟨by omega,f2⟩
     · exact r1.bang i e q2 q3⟩
 exact⟨hone.trans g1,fun e=>En.left (by omega) (fun _=>r2 rfl f1) (g2 e) g1.le,fun _=>⟨by have:=g1.le;omega,k2⟩⟩
theorem rg_unary {U F:GN} (hU:RX l U) (hF:RX l F):RX l (unaryG l U F):=Rg.look fun t=>Rg.iteP (fun _=>Rg.use hF) fun h4=>Rg.iteP (fun hu=>Rg.nest (Rg.bang (fun a h=>by
  have e:tokAt l a=t:=h.2;have h4':t.kind=4:=by simpa using h4
  unfold Pp.unaryS at hu;rw[Bool.or_eq_true,beq_iff_eq,beq_iff_eq]at hu;refine⟨by rw[e,h4'];decide,?_⟩;unfold noEq;rw[e];rcases hu with q | q <;> rw[q] <;> simp) hU fun _ _=>Rg.pure)) fun _=>Rg.use hF
theorem noEq_kind {t:Tok} {k:Int} (h:(t.kind==k)=true) (h4:k≠4):noEq t=true:=by
 rw[beq_iff_eq]at h;unfold noEq;have:(t.kind==4)=false:=by rw[h];simpa using h4
 rw[this];rfl
theorem rg_tok {k:Int} {t:Tok} {s:Int→G β} (hk:k=1∨k=2∨k=3) (hc:(t.kind==k)=true) (ht:∀x,Rg l Any true false (s x)):Rg l (PL l P 0 t) true true (Gr.bind (Gr.adv l) s):=by
 have h4:k≠4:=by omega
 have h6:k≠6:=by omega
 have h:=Rn.advE (l:=l) (P:=PL l P 0 t) (en:=true) (fun a h=>⟨PL.name h4 h6 hc h,fun _=>PL.ends hk hc h⟩) ht;intro d a x a' hp q;obtain⟨g1,g2,g3⟩:=h d a x a' hp q;exact⟨g1,g3,fun _=>⟨g2,by have e:tokAt l a=t:=hp.2;rw[e];exact noEq_kind hc h4⟩⟩
theorem noEq_word {t:Tok} {s:ByteArray} (h:Pp.word t s=true) (h1:s.data.toList.head? ≠some 61):noEq t=true:=by
 unfold Pp.word at h;rw[Bool.and_eq_true,beq_iff_eq]at h;unfold noEq;rw[h.2,Lib.toList_data];have:(s.data.toList.head? ==some 61)=false:=by simpa using h1
 rw[this,Bool.and_false];rfl
theorem rg_first (hK:KTs l) {E:GN} (hE:RX l E):RX l (firstG l E):=Rg.look fun t=>Rg.iteP (fun hc=>rg_tok (.inl rfl) hc fun _=>Rg.pure) fun _=>Rg.iteP (fun hc=>rg_tok (.inr (.inl rfl)) hc fun _=>Rg.pure) fun _=>
 Rg.iteP (fun hc=>rg_tok (.inr (.inr rfl)) hc fun _=>Rg.pure) fun _=>Rg.isI (Rg.nest (by
  have h:Rn l (PW l ⟨#[40]⟩) true (Gr.bind (Gr.adv l) fun o=>Gr.bind E fun x=>Gr.bind (wantG l ⟨#[41]⟩) fun _=>Gr.pure (.mk 25 o [x]:Nd)):=Rn.adv (fun a h=>ntk_word h (by decide)) fun _=>Rn.right hE fun _=>Rn.wantE hK (.inl rfl) fun _=>Rg.pure
  intro d a x a' hp q;obtain⟨g1,g2,g3⟩:=h d a x a' hp q;exact⟨g1,g3,fun _=>⟨g2,noEq_word hp (by decide)⟩⟩)) Rg.fail
theorem rg_primL {K:Nd→GN} (hK:∀x,Rn l (PW l ⟨#[40]⟩) true (K x)):∀(n:Nat) (x:Nd),Rg l Any true false (primLG l K n x)
 | 0,x=>Rg.stop
 | n + 1,x=>Rg.isI ((Rn.left (hK x) fun y=>rg_primL hK n y).g) (Rg.isI ((Rn.adv (fun a h=>ntk_word h (by decide)) fun _=>Rn.name fun _=>rg_primL hK n _).g) Rg.pure)
theorem rg_callL {E:GN} (hE:RX l E):∀(n:Nat) (ks:List Nd),Rg l Any false false (callLG l E n ks)
 | 0,ks=>Rg.stop
 | n + 1,ks=>Rg.isI Rg.pure ((Rn.left hE.n.weak fun _=>Rg.isI (Rg.use (rg_callL hE n _)) ((Rn.wantW (by decide) fun _=>Rg.isI Rg.fail (rg_callL hE n _)).g)).g)
theorem rg_call (hK:KTs l) {E:GN} (hE:RX l E) {N:Nat} (x:Nd):Rn l (PW l ⟨#[40]⟩) true (callG l E N x):=Rn.nest (Rn.adv (fun a h=>ntk_word h (by decide)) fun _=>Rn.right (rg_callL hE N [x]) fun _=>Rn.wantE hK (.inl rfl) fun _=>Rg.pure)
theorem rg_prim (hK:KTs l) {E:GN} (hE:RX l E) {N:Nat}:RX l (primG l (firstG l E) (callG l E N) N):=Rg.mk (Rn.left (rg_first hK hE).n fun x=>rg_primL (fun y=>rg_call hK hE y) N x) (Rg.first (rg_first hK hE) fun x=>(rg_primL (fun y=>rg_call hK hE y) N x).weak)
theorem fileI_rd {N:Nat}:∀(n:Nat) (ks:List Nd) (d a0 a:Nat) (x:List Nd) (a':Nat),fileIG l N n ks d a= .ok x a'→Rd l a0 a→Rd l a0 a'
 | 0,ks,d,a0,a,x,a',h,hr=>by cases h
 | n + 1,ks,d,a0,a,x,a',h,hr=>by
  unfold fileIG at h;obtain⟨b0,c0,h0,h⟩:=bind_ok h;unfold isG at h0;cases h0;unfold Gr.ite at h;split at h
  ·rename_i hw;obtain⟨y,b,h1,h⟩:=bind_ok h;obtain⟨rfl,_⟩:=adv_ok h1;obtain⟨t,c,h2,h⟩:=bind_ok h;obtain⟨rfl,hk⟩:=kind_ok h2;obtain⟨u,e,h3,h⟩:=bind_ok h;obtain⟨z,f,h4,h⟩:=bind_ok h;have r1:=(hr.trans (Rd.one (ntk_word hw (by decide)))).trans (Rd.one (ntk_kind hk (by decide) (by decide)));refine fileI_rd n _ d a0 f x a' h (semi_rd r1 (by have:=hr.le;omega) ?_ h3 h4);rw[Nat.add_sub_cancel];exact⟨by rw[hk];decide,ends_name hk⟩
  ·unfold Gr.pure at h;cases h;exact hr
theorem fileD_rd {D:GN} (hD:Rn l Any true D) {N:Nat}:∀(n:Nat) (ks:List Nd) (d a0 a:Nat) (x:List Nd) (a':Nat),fileDG l D N n ks d a= .ok x a'→Rd l a0 a→Rd l a0 a'
 | 0,ks,d,a0,a,x,a',h,hr=>by cases h
 | n + 1,ks,d,a0,a,x,a',h,hr=>by
  unfold fileDG at h;obtain⟨t,b,h1,h⟩:=bind_ok h;unfold Gr.look at h1;cases h1;unfold Gr.ite at h;split at h
  ·obtain⟨y,b,h1,h⟩:=bind_ok h;obtain⟨r1,r2,r3⟩:=hD d a y b True.intro h1;obtain⟨u,c,h2,h⟩:=bind_ok h;obtain⟨z,e,h3,h⟩:=bind_ok h;exact fileD_rd hD n _ d a0 e x a' h (semi_rd (hr.trans r1) (by have:=hr.le;omega) (r3 rfl r2) h2 h3)
  ·unfold Gr.pure at h;cases h;exact hr
theorem file_rd {D:GN} (hD:Rn l Any true D) {N:Nat} {d:Nat} {x:Nd} {a':Nat} (h:fileG l D N d 0= .ok x a'):Rd l 0 a':=by
 unfold fileG at h;obtain⟨_,b,h1,h⟩:=bind_ok h;obtain⟨rfl,hw⟩:=want_ok h1;obtain⟨t,c,h2,h⟩:=bind_ok h;obtain⟨rfl,hk⟩:=kind_ok h2;obtain⟨u,e,h3,h⟩:=bind_ok h;obtain⟨z,f,h4,h⟩:=bind_ok h;have r1:=(Rd.one (ntk_word hw (by decide))).trans (Rd.one (ntk_kind hk (by decide) (by decide)));have r2:=semi_rd r1 (by omega) (by rw[Nat.add_sub_cancel];exact⟨by rw[hk];decide,ends_name hk⟩) h3 h4;obtain⟨ks,g,h5,h⟩:=bind_ok h;obtain⟨ks2,k,h6,h⟩:=bind_ok h;unfold Gr.pure at h;cases h;exact fileD_rd hD N _ d 0 g _ _ h6 (fileI_rd N _ d 0 f _ _ h5 r2)
structure RgF (l:List Tok) (F:SF):Prop where
 binary:∀r,RX l (F.binary r)
 unary:RX l F.unary
 block:Rn l Any true F.block
 branch:Rn l (PW l ⟨#[105,102]⟩) true F.branch
 stmt:Rn l Any true F.stmt
theorem sf_rg (hK:KTs l) (hO:KOs l) {N:Nat}:∀n,RgF l (sf l N n)
 | 0=>⟨fun _=>Rg.stop,Rg.stop,Rn.stop,Rn.stop,Rn.stop⟩
 | n + 1=>by
  have h:=sf_rg hK hO (N:=N) n;exact⟨fun r=>rg_binary h.unary h.binary r,rg_unary h.unary (rg_prim hK (h.binary 1)),rg_block hK h.stmt,rg_branch (h.binary 1) h.block h.branch,
   rg_stmt hO (rg_variable (h.binary 1)) (rg_constant (h.binary 1)) h.block h.branch (rg_loop (h.binary 1) h.block) (rg_back hO (h.binary 1)) (rg_simple (h.binary 1) (rg_loop (h.binary 1) h.block))⟩
theorem fileS_rd (hK:KTs l) (hO:KOs l) {N n:Nat} {d:Nat} {x:Nd} {a':Nat} (h:fileS l N (sf l N n) d 0= .ok x a'):Rd l 0 a':=by
 have q:=sf_rg hK hO (N:=N) n;exact file_rd (rg_decl (rg_variable (q.binary 1)) (rg_constant (q.binary 1)) (rg_structure hK) (rg_function q.block)) h
end Gr
end Go.Proofs.Dm
set_option maxHeartbeats 4000000
namespace Go.Proofs.Dm
open Go Go.Proofs Go.Proofs.Dm.Sc
namespace Gr
variable {α β:Type} {l:List Tok} {P:Nat→Prop}
theorem LeP.look {k:Nat} {t t':Tok→G β} (ht:∀x,LeP P (t x) (t' x)):LeP P (Gr.bind (Gr.look l k) t) (Gr.bind (Gr.look l k) t'):=fun d a h=>ht _ d a h
theorem LeP.ifI {w:ByteArray} {s s' t t':G α} (h1:LeP Al s s') (h2:LeP Al t t'):LeP P (Gr.bind (isG l w) fun c=>Gr.ite c s t) (Gr.bind (isG l w) fun c=>Gr.ite c s' t'):=LeP.is (LeP.all h1) (LeP.all h2)
theorem LeP.out {t:G α}:LeP P Gr.stop t:=fun _ _ _=> .inl rfl
theorem semis_le2 {N M:Nat} (h:N≤M):LeP P (semisG l N) (semisG l M):=by
 intro d a hp;clear hp
 induction N generalizing M a with
 | zero=>exact .inl rfl
 | succ n ih=>
  obtain⟨m,rfl⟩:∃m,M=m + 1:=⟨M - 1,by omega⟩
  unfold semisG;split
  ·exact ih (M:=m) (by omega) (a + 1)
  ·exact .inr rfl
theorem fu_variable {E E':GN} (hE:LeP Al E E'):LeP P (variableG l E) (variableG l E'):=LeP.to fun _=>LeP.to fun _=>LeP.to fun _=>LeP.ifI (LeP.to fun _=>LeP.bind hE fun _=>LeP.rfl') LeP.rfl'
theorem fu_constant {E E':GN} (hE:LeP Al E E'):LeP P (constantG l E) (constantG l E'):=LeP.to fun _=>LeP.to fun _=>LeP.to fun _=>LeP.bind hE fun _=>LeP.rfl'
theorem fu_curlyL {S S':GN} (hS:LeP Al S S') {N M:Nat} (hN:N≤M):∀(n m:Nat) (ks:List Nd),n≤m→LeP Al (curlyLG l S N n ks) (curlyLG l S' M m ks)
 | 0,m,ks,h=>LeP.out
 | n + 1,m + 1,ks,h=>LeP.ifI LeP.rfl' (LeP.bind hS fun _=>LeP.ifI (fu_curlyL hS hN n m _ (by omega)) (LeP.to fun _=>LeP.bind (semis_le2 hN) fun _=>fu_curlyL hS hN n m _ (by omega)))
 | n + 1,0,ks,h=>by omega
theorem fu_curly {S S':GN} (hS:LeP Al S S') {N M:Nat} (hN:N≤M):LeP P (curlyG l S N) (curlyG l S' M):=LeP.ifI (LeP.nest (LeP.to fun _=>LeP.bind (semis_le2 hN) fun _=>LeP.bind (fu_curlyL hS hN N M [] hN) fun _=>LeP.rfl')) LeP.rfl'
theorem fu_block {S S':GN} (hS:LeP Al S S') {N M:Nat} (hN:N≤M):LeP P (blockG l S N) (blockG l S' M):=LeP.bind (fu_curly hS hN) fun _=>LeP.rfl'
theorem fu_structure {N M:Nat} (hN:N≤M):LeP P (structureG l N) (structureG l M):=LeP.to fun _=>LeP.to fun _=>LeP.to fun _=>LeP.bind (fu_curly LeP.rfl' hN) fun _=>LeP.rfl'
theorem fu_funcL:∀(n m:Nat) (ks:List Nd),n≤m→LeP Al (funcLG l n ks) (funcLG l m ks)
 | 0,m,ks,h=>LeP.out
 | n + 1,m + 1,ks,h=>LeP.ifI LeP.rfl' (LeP.to fun _=>LeP.to fun _=>LeP.ifI (fu_funcL n m _ (by omega)) (LeP.to fun _=>LeP.ifI LeP.rfl' (fu_funcL n m _ (by omega))))
 | n + 1,0,ks,h=>by omega
theorem fu_function {C C':GN} (hC:LeP Al C C') {N M:Nat} (hN:N≤M):LeP P (functionG l C N) (functionG l C' M):=LeP.to fun _=>LeP.to fun _=>LeP.to fun _=>LeP.bind (fu_funcL N M [] hN) fun _=>LeP.to fun _=>LeP.look fun _=>LeP.ite (LeP.to fun _=>LeP.bind hC fun _=>LeP.rfl') (LeP.bind hC fun _=>LeP.rfl')
theorem fu_branch {E E' C C' R R':GN} (hE:LeP Al E E') (hC:LeP Al C C') (hR:LeP Al R R'):LeP P (branchG l E C R) (branchG l E' C' R'):=LeP.to fun _=>LeP.bind hE fun _=>LeP.bind hC fun _=>LeP.ifI (LeP.to fun _=>LeP.ifI (LeP.bind (LeP.nest hR) fun _=>LeP.rfl') (LeP.bind hC fun _=>LeP.rfl')) LeP.rfl'
theorem fu_loop {E E' C C':GN} (hE:LeP Al E E') (hC:LeP Al C C'):LeP P (loopG l E C) (loopG l E' C'):=LeP.to fun _=>LeP.bind hE fun _=>LeP.bind hC fun _=>LeP.rfl'
theorem fu_back {E E':GN} (hE:LeP Al E E'):LeP P (backG l E) (backG l E'):=LeP.to fun _=>LeP.look fun _=>LeP.ite LeP.rfl' (LeP.ifI LeP.rfl' (LeP.bind hE fun _=>LeP.rfl'))
theorem fu_rest {E E':GN} (hE:LeP Al E E'):LeP P (restG l E) (restG l E'):=LeP.to fun _=>LeP.bind hE fun _=>LeP.ifI (LeP.to fun _=>LeP.bind hE fun _=>LeP.rfl') LeP.rfl'
theorem fu_simple {E E' L L':GN} (hE:LeP Al E E') (hL:LeP Al L L'):LeP P (simpleG l E L) (simpleG l E' L'):=LeP.look fun _=>LeP.ite (LeP.look fun _=>LeP.ite (LeP.to fun _=>LeP.to fun _=>LeP.bind hE fun _=>LeP.rfl')
 (LeP.ite (LeP.to fun _=>LeP.to fun _=>LeP.ifI (LeP.bind hL fun _=>LeP.rfl') LeP.rfl') (fu_rest hE))) (fu_rest hE)
theorem fu_stmt {V V' C C' K K' I I' L L' R R' M M':GN} (hV:LeP Al V V') (hC:LeP Al C C') (hK:LeP Al K K') (hI:LeP Al I I') (hL:LeP Al L L') (hR:LeP Al R R') (hM:LeP Al M M'):LeP P (stmtG l V C K I L R M) (stmtG l V' C' K' I' L' R' M'):=
 LeP.ifI hV (LeP.ifI hC (LeP.ifI hK (LeP.ifI hI (LeP.ifI hL (LeP.ifI hR (LeP.ifI LeP.rfl' (LeP.ifI LeP.rfl' hM)))))))
theorem fu_decl {V V' C C' S S' F F':GN} (hV:LeP Al V V') (hC:LeP Al C C') (hS:LeP Al S S') (hF:LeP Al F F'):LeP P (declG l V C S F) (declG l V' C' S' F'):=LeP.ifI hV (LeP.ifI hC (LeP.ifI hS (LeP.ifI hF LeP.rfl')))
theorem fu_binaryL {Y Y':Int→GN} (hY:∀r,LeP Al (Y r) (Y' r)):∀(n m:Nat) (rk:Int) (x:Nd),n≤m→LeP Al (binaryLG l Y n rk x) (binaryLG l Y' m rk x)
 | 0,m,rk,x,h=>LeP.out
 | n + 1,m + 1,rk,x,h=>LeP.look fun _=>LeP.ite LeP.rfl' (LeP.ite LeP.rfl' (LeP.ite LeP.rfl' (LeP.to fun _=>LeP.bind (hY _) fun _=>fu_binaryL hY n m rk _ (by omega))))
 | n + 1,0,rk,x,h=>by omega
theorem fu_binary {U U':GN} {Y Y':Int→GN} (hU:LeP Al U U') (hY:∀r,LeP Al (Y r) (Y' r)) {N M:Nat} (hN:N≤M) (rk:Int):LeP P (binaryG l U Y N rk) (binaryG l U' Y' M rk):=LeP.bind (LeP.all hU) fun _=>fu_binaryL hY N M rk _ hN
theorem fu_unary {U U' F F':GN} (hU:LeP Al U U') (hF:LeP Al F F'):LeP P (unaryG l U F) (unaryG l U' F'):=LeP.look fun _=>LeP.ite (LeP.all hF) (LeP.ite (LeP.nest (LeP.to fun _=>LeP.bind hU fun _=>LeP.rfl')) (LeP.all hF))
theorem fu_first {E E':GN} (hE:LeP Al E E'):LeP P (firstG l E) (firstG l E'):=LeP.look fun _=>LeP.ite LeP.rfl' (LeP.ite LeP.rfl' (LeP.ite LeP.rfl' (LeP.ifI (LeP.nest (LeP.to fun _=>LeP.bind hE fun _=>LeP.rfl')) LeP.rfl')))
theorem fu_primL {K K':Nd→GN} (hK:∀x,LeP Al (K x) (K' x)):∀(n m:Nat) (x:Nd),n≤m→LeP Al (primLG l K n x) (primLG l K' m x)
 | 0,m,x,h=>LeP.out
 | n + 1,m + 1,x,h=>LeP.ifI (LeP.bind (hK x) fun _=>fu_primL hK n m _ (by omega)) (LeP.ifI (LeP.to fun _=>LeP.to fun _=>fu_primL hK n m _ (by omega)) LeP.rfl')
 | n + 1,0,x,h=>by omega
theorem fu_callL {E E':GN} (hE:LeP Al E E'):∀(n m:Nat) (ks:List Nd),n≤m→LeP Al (callLG l E n ks) (callLG l E' m ks)
 | 0,m,ks,h=>LeP.out
 | n + 1,m + 1,ks,h=>LeP.ifI LeP.rfl' (LeP.bind hE fun _=>LeP.ifI (fu_callL hE n m _ (by omega)) (LeP.to fun _=>LeP.ifI LeP.rfl' (fu_callL hE n m _ (by omega))))
 | n + 1,0,ks,h=>by omega
theorem fu_call {E E':GN} (hE:LeP Al E E') {N M:Nat} (hN:N≤M) (x:Nd):LeP P (callG l E N x) (callG l E' M x):=LeP.nest (LeP.to fun _=>LeP.bind (fu_callL hE N M [x] hN) fun _=>LeP.rfl')
theorem fu_prim {E E':GN} (hE:LeP Al E E') {N M:Nat} (hN:N≤M):LeP P (primG l (firstG l E) (callG l E N) N) (primG l (firstG l E') (callG l E' M) M):=LeP.bind (fu_first hE) fun x=>fu_primL (fun y=>fu_call hE hN y) N M x hN
theorem fu_fileI {N M:Nat} (hN:N≤M):∀(n m:Nat) (ks:List Nd),n≤m→LeP Al (fileIG l N n ks) (fileIG l M m ks)
 | 0,m,ks,h=>LeP.out
 | n + 1,m + 1,ks,h=>LeP.ifI (LeP.to fun _=>LeP.to fun _=>LeP.to fun _=>LeP.bind (semis_le2 hN) fun _=>fu_fileI hN n m _ (by omega)) LeP.rfl'
 | n + 1,0,ks,h=>by omega
theorem fu_fileD {D D':GN} (hD:LeP Al D D') {N M:Nat} (hN:N≤M):∀(n m:Nat) (ks:List Nd),n≤m→LeP Al (fileDG l D N n ks) (fileDG l D' M m ks)
 | 0,m,ks,h=>LeP.out
 | n + 1,m + 1,ks,h=>LeP.look fun _=>LeP.ite (LeP.bind hD fun _=>LeP.to fun _=>LeP.bind (semis_le2 hN) fun _=>fu_fileD hD hN n m _ (by omega)) LeP.rfl'
 | n + 1,0,ks,h=>by omega
theorem fu_file {D D':GN} (hD:LeP Al D D') {N M:Nat} (hN:N≤M):LeP P (fileG l D N) (fileG l D' M):=LeP.to fun _=>LeP.to fun _=>LeP.to fun _=>LeP.bind (semis_le2 hN) fun _=>LeP.bind (fu_fileI hN N M _ hN) fun _=>LeP.bind (fu_fileD hD hN N M _ hN) fun _=>LeP.rfl'
structure FuF (F F':SF):Prop where
 binary:∀r,LeP Al (F.binary r) (F'.binary r)
 unary:LeP Al F.unary F'.unary
 block:LeP Al F.block F'.block
 branch:LeP Al F.branch F'.branch
 stmt:LeP Al F.stmt F'.stmt
theorem sf_fu {N M:Nat} (hN:N≤M):∀n m,n≤m→FuF (sf l N n) (sf l M m)
 | 0,m,h=>⟨fun _=>LeP.out,LeP.out,LeP.out,LeP.out,LeP.out⟩
 | n + 1,0,h=>by omega
 | n + 1,m + 1,h=>by
  have q:=sf_fu hN n m (by omega);exact⟨fun r=>fu_binary q.unary q.binary hN r,fu_unary q.unary (fu_prim (q.binary 1) hN),fu_block q.stmt hN,fu_branch (q.binary 1) q.block q.branch,
   fu_stmt (fu_variable (q.binary 1)) (fu_constant (q.binary 1)) q.block q.branch (fu_loop (q.binary 1) q.block) (fu_back (q.binary 1)) (fu_simple (q.binary 1) (fu_loop (q.binary 1) q.block))⟩
theorem fileS_fu {N M n m:Nat} (hN:N≤M) (hn:n≤m):LeP P (fileS l N (sf l N n)) (fileS l M (sf l M m)):=by
 have q:=sf_fu (l:=l) hN n m hn;exact fu_file (fu_decl (fu_variable (q.binary 1)) (fu_constant (q.binary 1)) (fu_structure hN) (fu_function q.block hN)) hN
end Gr
end Go.Proofs.Dm

set_option linter.unusedSimpArgs false
set_option linter.unusedVariables false
set_option maxHeartbeats 4000000
namespace Go.Proofs.Dm
open Go Go.Proofs Go.Proofs.Dm.Sc
namespace Gr
variable {α β:Type} {l l':List Tok} {Ok P Q:Nat→Nat→Prop} {R:α→α→Prop} {R2:β→β→Prop}
def sameT (t u:Tok):Prop:=t.kind=u.kind∧(t.kind≠6→t.text=u.text)
theorem word_sameT {t u:Tok} {s:ByteArray} (h:sameT t u):Pp.word t s=Pp.word u s:=by
 unfold Pp.word
 by_cases q:t.kind=6
 ·rw[←h.1,q];rfl
 ·rw[h.1,h.2 q]
theorem word_semi {t:Tok} {s:ByteArray} (h:t.kind=6):Pp.word t s=false:=by
 unfold Pp.word;rw[h];rfl
theorem word_shut {t:Tok} {s:ByteArray} (h:Fo.isO t [125]=true) (hs:s.data.toList≠ [125]):Pp.word t s=false:=by
 unfold Fo.isO at h;rw[Bool.and_eq_true,beq_iff_eq,beq_iff_eq]at h;unfold Pp.word;rw[h.2,Lib.toList_data,Bool.and_eq_false_iff];right;rw[beq_eq_false_iff_ne];exact fun q=>hs q.symm
def Run (l:List Tok) (a b:Nat):Prop:=a≤b∧(∀k,a≤k→k < b→(tokAt l k).kind=6)∧(tokAt l b).kind≠6
theorem semis_run:∀(N d a:Nat) (x:Unit) (b:Nat),semisG l N d a= .ok x b→Run l a b
 | 0,d,a,x,b,h=>by cases h
 | n + 1,d,a,x,b,h=>by
  unfold semisG at h;split at h
  ·rename_i hk;have hk':(tokAt l a).kind=6:=by simpa using hk
   obtain⟨h1,h2,h3⟩:=semis_run n d (a + 1) x b h;refine⟨by omega,fun k q1 q2=> ?_,h3⟩;rcases Nat.eq_or_lt_of_le q1 with q | q
   ·subst q;exact hk'
   ·exact h2 k q q2
  ·rename_i hk;cases h;exact⟨Nat.le_refl _,fun k q1 q2=>by omega,by simpa using hk⟩
theorem run_semis:∀(N d a b:Nat),Run l a b→b < a + N→semisG l N d a= .ok () b
 | 0,d,a,b,h,g=>by have:=h.1;omega
 | n + 1,d,a,b,h,g=>by
  unfold semisG;rcases Nat.eq_or_lt_of_le h.1 with q | q
  ·subst q;rw[if_neg (by simpa using h.2.2)]
  ·rw[if_pos (by simpa using h.2.1 a (Nat.le_refl _) q)];exact run_semis n d (a + 1) b ⟨q,fun k q1 q2=>h.2.1 k (by omega) q2,h.2.2⟩ (by omega)
theorem tok_out {i:Nat} (h:l.length≤i):tokAt l i=endT:=by
 unfold tokAt;rw[List.getElem?_eq_none h];rfl
theorem run_big {N d a b:Nat} (h:Run l a b) (hN:l.length < N):semisG l N d a= .ok () b:=by
 refine run_semis N d a b h ?_;rcases Nat.lt_or_ge b (a + 1)with q | q
 ·omega
 ·have:=h.2.1 (b - 1) (by omega) (by omega);rcases Nat.lt_or_ge (b - 1) l.length with g | g
  ·omega
  ·rw[tok_out g]at this;exact absurd this (by decide)
def QT (t u:Tok):Prop:=sameT t u∨(Fo.isO t [125]=true∧u.kind=6)
structure Sm0 (l l':List Tok) (Ok:Nat→Nat→Prop):Prop where
 tok:∀{a a'},Ok a a'→QT (tokAt l a) (tokAt l' a')
 step:∀{a a'},Ok a a'→sameT (tokAt l a) (tokAt l' a')→(tokAt l a).kind≠6→(tokAt l a).kind≠7→Fo.isO (tokAt l a) [123]=false→Ok (a + 1) (a' + 1)
 opn:∀{a a'},Ok a a'→sameT (tokAt l a) (tokAt l' a')→Fo.isO (tokAt l a) [123]=true→∀b,Run l (a + 1) b→∃b',Run l' (a' + 1) b'∧Ok b b'
 semi:∀{a a'},Ok a a'→(tokAt l a).kind=6→∀b,Run l (a + 1) b→∃b',Run l' (a' + 1) b'∧Ok b b'
 shut:∀{a a'},Ok a a'→Fo.isO (tokAt l a) [125]=true→(tokAt l' a').kind=6→∃b',Run l' (a' + 1) b'∧Ok a b'
def PSm (l l':List Tok) (Ok:Nat→Nat→Prop) (a a':Nat):Prop:=Ok a a'∧sameT (tokAt l a) (tokAt l' a')
def PQm (l l':List Tok) (Ok:Nat→Nat→Prop) (w:ByteArray) (a a':Nat):Prop:=PSm l l' Ok a a'∧Pp.word (tokAt l a) w=true
theorem QT.word {t u:Tok} {w:ByteArray} (h:QT t u) (hw:w.data.toList≠ [125]):Pp.word t w=Pp.word u w:=by
 rcases h with h | ⟨h1,h2⟩
 ·exact word_sameT h
 ·rw[word_semi h2,word_shut h1 hw]
theorem QT.same {t u:Tok} {w:ByteArray} (h:QT t u) (hw:w.data.toList≠ [125]) (q:Pp.word t w=true):sameT t u:=by
 rcases h with h | ⟨h1,h2⟩
 ·exact h
 ·rw[word_shut h1 hw]at q;cases q
theorem shut_kind {t:Tok} {x:List UInt8} (h:Fo.isO t x=true):t.kind=4:=by
 unfold Fo.isO at h;rw[Bool.and_eq_true,beq_iff_eq]at h;exact h.1
theorem QT.kind {t u:Tok} {k:Int} (h:QT t u) (h4:k≠4) (h6:k≠6):(t.kind==k)=(u.kind==k):=by
 rcases h with h | ⟨h1,h2⟩
 ·rw[h.1]
 ·rw[shut_kind h1,h2];have e1:((4:Int)==k)=false:=by rw[beq_eq_false_iff_ne];omega
  have e2:((6:Int)==k)=false:=by rw[beq_eq_false_iff_ne];omega
  rw[e1,e2]
theorem QT.kinds {t u:Tok} (h:QT t u) (h4:t.kind≠4):sameT t u:=by
 rcases h with h | ⟨h1,h2⟩
 ·exact h
 ·exact absurd (shut_kind h1) h4
def SimG (Ok P:Nat→Nat→Prop) (R:α→α→Prop) (s s':G α):Prop:=∀d a a',P a a'→∀x b,s d a= .ok x b→∃x' b',s' d a'= .ok x' b'∧Ok b b'∧R x x'
theorem SimG.bind {s s':G α} {t t':α→G β} (h:SimG Ok P R s s') (ht:∀x x',R x x'→SimG Ok Ok R2 (t x) (t' x')):SimG Ok P R2 (Gr.bind s t) (Gr.bind s' t'):=by
 intro d a a' hp x b q;obtain⟨y,c,h1,h2⟩:=bind_ok q;obtain⟨y',c',g1,g2,g3⟩:=h d a a' hp y c h1;obtain⟨x',b',k1,k2,k3⟩:=ht y y' g3 d c c' g2 x b h2;exact⟨x',b',by simp only[Gr.bind,g1,Res.andThen];exact k1,k2,k3⟩
theorem SimG.pre {s s':G α} (h:SimG Ok Q R s s') (hp:∀a a',P a a'→Q a a'):SimG Ok P R s s':=fun d a a' q=>h d a a' (hp a a' q)
theorem SimG.pure {x x':α} (hx:R x x') (hp:∀a a',P a a'→Ok a a'):SimG Ok P R (Gr.pure x) (Gr.pure x'):=fun d a a' h y b q=>by
 unfold Gr.pure at q;cases q;exact⟨x',a',rfl,hp _ a' h,hx⟩
theorem SimG.ret {x x':α} (hx:R x x'):SimG Ok Ok R (Gr.pure x) (Gr.pure x'):=SimG.pure hx fun _ _ h=>h
theorem SimG.fail {s':G α}:SimG Ok P R Gr.fail s':=fun d a a' h y b q=>by cases q
theorem SimG.stop {s':G α}:SimG Ok P R Gr.stop s':=fun d a a' h y b q=>by cases q
theorem SimG.nest {s s':G α} (h:SimG Ok P R s s'):SimG Ok P R (Gr.nest s) (Gr.nest s'):=fun d a a' hp y b q=>by
 unfold Gr.nest at q;split at q
 ·cases q
 ·rename_i hd;obtain⟨x',b',k1,k2,k3⟩:=h (d + 1) a a' hp y b q;exact⟨x',b',by unfold Gr.nest;rw[if_neg hd];exact k1,k2,k3⟩
theorem SimG.iteE {c c':Bool} {s s' t t':G α} (e:c=c') (h1:c=true→SimG Ok P R s s') (h2:c=false→SimG Ok P R t t'):SimG Ok P R (Gr.ite c s t) (Gr.ite c' s' t'):=by
 subst e;cases c
 ·exact h2 rfl
 ·exact h1 rfl
def TR (l l':List Tok) (i i':Int):Prop:=Sh.tokT l i=Sh.tokT l' i'
theorem tokT_at (a:Nat):Sh.tokT l (a:Int)=(tokAt l a).text:=by
 unfold Sh.tokT tokAt;rw[if_pos (by omega),Int.toNat_natCast];cases l[a]? <;> rfl
def AP (l l':List Tok) (Ok:Nat→Nat→Prop) (a a':Nat):Prop:=PSm l l' Ok a a'∧(tokAt l a).kind≠6∧Fo.isO (tokAt l a) [123]=false
theorem AP.tr {a a':Nat} (h:AP l l' Ok a a'):TR l l' (a:Int) (a':Int):=by
 unfold TR;rw[tokT_at,tokT_at];exact h.1.2.2 h.2.1
theorem adv_sim (H:Sm0 l l' Ok):SimG Ok (AP l l' Ok) (TR l l') (Gr.adv l) (Gr.adv l'):=fun d a a' h x b q=>by
 unfold Gr.adv at q;split at q
 ·cases q
 ·rename_i h7;cases q;have h7':(tokAt l a).kind≠7:=by simpa using h7
  refine⟨(a':Int),a' + 1,?_,H.step h.1.1 h.1.2 h.2.1 h7' h.2.2,h.tr⟩;unfold Gr.adv;rw[if_neg];rw[←h.1.2.1];exact h7
theorem SimG.adv (H:Sm0 l l' Ok) {t t':Int→G β} (hp:∀a a',P a a'→AP l l' Ok a a') (ht:∀x x',TR l l' x x'→SimG Ok Ok R2 (t x) (t' x')):SimG Ok P R2 (Gr.bind (Gr.adv l) t) (Gr.bind (Gr.adv l') t'):=SimG.bind ((adv_sim H).pre hp) ht
theorem not_open {t:Tok} {w:ByteArray} (h:Pp.word t w=true) (hw:w.data.toList≠ [123]):t.kind≠6∧Fo.isO t [123]=false:=by
 unfold Pp.word at h;rw[Bool.and_eq_true,Bool.or_eq_true,beq_iff_eq,beq_iff_eq,beq_iff_eq]at h;refine⟨by rcases h.1 with q | q <;> rw[q] <;> decide,?_⟩;unfold Fo.isO;rw[h.2,Lib.toList_data,Bool.and_eq_false_iff];right;rw[beq_eq_false_iff_ne];exact hw
theorem PQm.ap {w:ByteArray} (hw:w.data.toList≠ [123]) (a a':Nat) (h:PQm l l' Ok w a a'):AP l l' Ok a a':=⟨h.1,not_open h.2 hw⟩
theorem not_open_kind {t:Tok} {k:Int} (h:t.kind=k) (h4:k≠4):Fo.isO t [123]=false:=by
 unfold Fo.isO;rw[h,Bool.and_eq_false_iff];left;rw[beq_eq_false_iff_ne];exact h4
theorem SimG.kind (H:Sm0 l l' Ok) {k:Int} {t t':Int→G β} (h4:k≠4) (h6:k≠6) (hp:∀a a',P a a'→Ok a a') (ht:∀x x',TR l l' x x'→SimG Ok Ok R2 (t x) (t' x')):SimG Ok P R2 (Gr.bind (kindG l k) t) (Gr.bind (kindG l' k) t'):=by
 refine SimG.bind (R:=TR l l') (fun d a a' h x b q=> ?_) ht;have h1:=hp a a' h;unfold kindG at q;split at q
 ·rename_i hk;split at q
  ·cases q
  ·rename_i k7;cases q;have hk':(tokAt l a).kind=k:=by simpa using hk
   have hs:=(H.tok h1).kinds (by rw[hk'];exact h4);have ha:AP l l' Ok a a':=⟨⟨h1,hs⟩,by rw[hk'];exact h6,not_open_kind hk' h4⟩
   refine⟨(a':Int),a' + 1,?_,H.step h1 hs ha.2.1 (by rw[hk'];simpa using k7) ha.2.2,ha.tr⟩;unfold kindG;rw[←hs.1,if_pos hk,if_neg k7]
 ·cases q
theorem SimG.want (H:Sm0 l l' Ok) {w:ByteArray} {t t':Int→G β} (h3:w.data.toList≠ [123]) (h5:w.data.toList≠ [125]) (hp:∀a a',P a a'→Ok a a') (ht:∀x x',TR l l' x x'→SimG Ok Ok R2 (t x) (t' x')):SimG Ok P R2 (Gr.bind (wantG l w) t) (Gr.bind (wantG l' w) t'):=by
 refine SimG.bind (R:=TR l l') (fun d a a' h x b q=> ?_) ht;have h1:=hp a a' h;unfold wantG at q;split at q
 ·rename_i hk;cases q;have hs:=(H.tok h1).same h5 hk;have ha:AP l l' Ok a a':=⟨⟨h1,hs⟩,not_open hk h3⟩
  refine⟨(a':Int),a' + 1,?_,H.step h1 hs ha.2.1 ?_ ha.2.2,ha.tr⟩
  ·unfold wantG;rw[←word_sameT hs,if_pos hk]
  ·unfold Pp.word at hk;rw[Bool.and_eq_true,Bool.or_eq_true,beq_iff_eq,beq_iff_eq]at hk;rcases hk.1 with q | q <;> rw[q] <;> decide
 ·cases q
theorem SimG.isI (H:Sm0 l l' Ok) {w:ByteArray} {A A' B B':G α} (hw:w.data.toList≠ [125]) (hp:∀a a',P a a'→Ok a a') (h1:SimG Ok (PQm l l' Ok w) R A A') (h2:SimG Ok P R B B'):SimG Ok P R (Gr.bind (isG l w) fun b=>Gr.ite b A B) (Gr.bind (isG l' w) fun b=>Gr.ite b A' B'):=by
 intro d a a' h x b q;have e:=(H.tok (hp _ _ h)).word hw;rw[is_at]at q;simp only[is_at,←e];cases c:Pp.word (tokAt l a) w with
 | true=>
  rw[c]at q;exact h1 d a a' ⟨⟨hp _ _ h,(H.tok (hp _ _ h)).same hw c⟩,c⟩ x b q
 | false=>
  rw[c]at q;exact h2 d a a' h x b q
theorem SimG.look (H:Sm0 l l' Ok) {f f':Tok→G β} (hp:∀a a',P a a'→Ok a a') (ht:∀t t',QT t t'→SimG Ok (fun a a'=>P a a'∧tokAt l a=t∧tokAt l' a'=t') R2 (f t) (f' t')):SimG Ok P R2 (Gr.bind (Gr.look l 0) f) (Gr.bind (Gr.look l' 0) f'):=by
 intro d a a' h x b q;rw[look_at]at q;simp only[look_at];exact ht _ _ (H.tok (hp a a' h)) d a a' ⟨h,rfl,rfl⟩ x b q
def NdR (l l':List Tok) (x x':Nd):Prop:=Sh.shapeS l x=Sh.shapeS l' x'
def KR (l l':List Tok) (ks ks':List Nd):Prop:=∀s,Sh.kidsS l s ks=Sh.kidsS l' s ks'
theorem KR.nil:KR l l' [] []:=fun s=>rfl
theorem kids_snoc (l:List Tok) (x:Nd):∀(ks:List Nd) (s:ByteArray),Sh.kidsS l s (ks ++ [x])=Sh.kidsS l s ks ++(⟨#[32]⟩ ++ Sh.shapeS l x)
 | [],s=>by simp[Sh.kidsS]
 | k::ks,s=>by simp only[List.cons_append,Sh.kidsS];exact kids_snoc l x ks _
theorem KR.snoc {ks ks':List Nd} {x x':Nd} (h:KR l l' ks ks') (hx:NdR l l' x x'):KR l l' (ks ++ [x]) (ks' ++ [x']):=fun s=>by
 rw[kids_snoc,kids_snoc,h s];unfold NdR at hx;rw[hx]
theorem KR.one {x x':Nd} (hx:NdR l l' x x'):KR l l' [x] [x']:=KR.snoc (ks:= []) (ks':= []) KR.nil hx
theorem KR.two {x x' y y':Nd} (hx:NdR l l' x x') (hy:NdR l l' y y'):KR l l' [x,y] [x',y']:=KR.snoc (ks:= [x]) (ks':= [x']) (KR.one hx) hy
theorem KR.three {x x' y y' z z':Nd} (hx:NdR l l' x x') (hy:NdR l l' y y') (hz:NdR l l' z z'):KR l l' [x,y,z] [x',y',z']:=KR.snoc (ks:= [x,y]) (ks':= [x',y']) (KR.two hx hy) hz
theorem nd1 {k t t':Int} {ks ks':List Nd} (ht:TR l l' t t') (h:KR l l' ks ks'):NdR l l' (.mk k t ks) (.mk k t' ks'):=by
 unfold NdR;simp only[Sh.shapeS];have e:Sh.headS l k t=Sh.headS l' k t':=by unfold Sh.headS;rw[ht]
 rw[e,h]
theorem ndb {k t t':Int} {ks ks':List Nd} (hb:Sh.bare k=true) (h:KR l l' ks ks'):NdR l l' (.mk k t ks) (.mk k t' ks'):=by
 unfold NdR;simp only[Sh.shapeS];have e:Sh.headS l k t=Sh.headS l' k t':=by unfold Sh.headS;rw[hb];rfl
 rw[e,h]
end Gr
end Go.Proofs.Dm
set_option maxHeartbeats 4000000
namespace Go.Proofs.Dm
open Go Go.Proofs Go.Proofs.Dm.Sc
namespace Gr
variable {α β:Type} {l l':List Tok} {Ok P Q:Nat→Nat→Prop} {R:α→α→Prop} {R2:β→β→Prop}
abbrev SX (l l':List Tok) (Ok:Nat→Nat→Prop) (s s':GN):Prop:=SimG Ok Ok (NdR l l') s s'
theorem I2 (a a':Nat) (h:Ok a a'):Ok a a':=h
theorem bind_run {s:G α} {t:α→G β} {d a:Nat} {y:α} {b:Nat} (h:s d a= .ok y b):Gr.bind s t d a=t y d b:=by
 unfold Gr.bind;rw[h];rfl
theorem kind_run {d a:Nat} (h:(tokAt l a).kind=6):kindG l 6 d a= .ok (a:Int) (a + 1):=by
 unfold kindG;rw[if_pos (by simpa using h),if_neg (by decide)]
theorem want_run {d a:Nat} {w:ByteArray} (h:Pp.word (tokAt l a) w=true):wantG l w d a= .ok (a:Int) (a + 1):=by
 unfold wantG;rw[if_pos h]
theorem adv_run {d a:Nat} (h:(tokAt l a).kind≠7):Gr.adv l d a= .ok (a:Int) (a + 1):=by
 unfold Gr.adv;rw[if_neg (by simpa using h)]
theorem Sm0.same (H:Sm0 l l' Ok) {a a' c:Nat} (h:Ok a a') (r:Run l' c a'):sameT (tokAt l a) (tokAt l' a'):=by
 rcases H.tok h with s | ⟨_,s⟩
 ·exact s
 ·exact absurd s r.2.2
theorem sim_typ (H:Sm0 l l' Ok):SX l l' Ok (typG l) (typG l'):=SimG.kind H (by decide) (by decide) I2 fun t t' ht=>SimG.isI H (by decide) I2 (SimG.adv H (PQm.ap (by decide)) fun _ _ _=>SimG.kind H (by decide) (by decide) I2 fun u u' hu=>SimG.ret (nd1 hu (KR.one (nd1 ht KR.nil)))) (SimG.ret (nd1 ht KR.nil))
theorem sim_variable (H:Sm0 l l' Ok) {E E':GN} (hE:SX l l' Ok E E'):SimG Ok (PQm l l' Ok ⟨#[118,97,114]⟩) (NdR l l') (variableG l E) (variableG l' E'):=
 SimG.adv H (PQm.ap (by decide)) fun _ _ _=>SimG.kind H (by decide) (by decide) I2 fun t t' ht=>SimG.bind (sim_typ H) fun y y' hy=>SimG.isI H (by decide) I2 (SimG.adv H (PQm.ap (by decide)) fun _ _ _=>SimG.bind hE fun e e' he=>SimG.ret (nd1 ht (KR.two hy he))) (SimG.ret (nd1 ht (KR.one hy)))
theorem sim_constant (H:Sm0 l l' Ok) {E E':GN} (hE:SX l l' Ok E E'):SimG Ok (PQm l l' Ok ⟨#[99,111,110,115,116]⟩) (NdR l l') (constantG l E) (constantG l' E'):=
 SimG.adv H (PQm.ap (by decide)) fun _ _ _=>SimG.kind H (by decide) (by decide) I2 fun t t' ht=>SimG.want H (by decide) (by decide) I2 fun _ _ _=>SimG.bind hE fun e e' he=>SimG.ret (nd1 ht (KR.one he))
theorem sim_curlyL (H:Sm0 l l' Ok) {S S':GN} (hS:SX l l' Ok S S') {N N':Nat} (hN:l'.length < N'):∀(n m:Nat) (ks ks':List Nd),n≤m→KR l l' ks ks'→∀d a a' x b,PSm l l' Ok a a'→curlyLG l S N n ks d a= .ok x b→∃x' b',curlyLG l' S' N' m ks' d a'= .ok x' b'∧PSm l l' Ok b b'∧Pp.word (tokAt l b) ⟨#[125]⟩=true∧KR l l' x x'
 | 0,m,ks,ks',hm,hk,d,a,a',x,b,hp,q=>by cases q
 | n + 1,0,ks,ks',hm,hk,d,a,a',x,b,hp,q=>by omega
 | n + 1,m + 1,ks,ks',hm,hk,d,a,a',x,b,hp,q=>by
  unfold curlyLG at q;rw[is_at]at q;have e:=word_sameT (s:=⟨#[125]⟩) hp.2;cases c:Pp.word (tokAt l a) ⟨#[125]⟩with
  | true=>
   rw[c]at q
   replace q:Gr.pure ks d a= .ok x b:=q
   unfold Gr.pure at q;cases q;refine⟨ks',a',?_,hp,c,hk⟩;unfold curlyLG;rw[is_at,←e,c];rfl
  | false=>
   rw[c]at q
   replace q:Gr.bind S _ d a= .ok x b:=q
   obtain⟨y,c1,h1,h2⟩:=bind_ok q;obtain⟨y',c1',g1,g2,g3⟩:=hS d a a' hp.1 y c1 h1;rw[is_at]at h2;have hks:=hk.snoc g3;cases c2:Pp.word (tokAt l c1) ⟨#[125]⟩with
   | true=>
    rw[c2]at h2
    replace h2:curlyLG l S N n (ks ++ [y]) d c1= .ok x b:=h2
    rcases H.tok g2 with s | ⟨s1,s2⟩
    ·obtain⟨x',b',k1,k2⟩:=sim_curlyL H hS hN n m _ _ (by omega) hks d c1 c1' x b ⟨g2,s⟩ h2;refine⟨x',b',?_,k2⟩;unfold curlyLG;rw[is_at,←e,c];show Gr.bind S' _ d a'=_;rw[bind_run g1,is_at,←word_sameT s,c2];exact k1
    ·obtain⟨b2,r1,r2⟩:=H.shut g2 s1 s2;obtain⟨x',b',k1,k2⟩:=sim_curlyL H hS hN n m _ _ (by omega) hks d c1 b2 x b ⟨r2,H.same r2 r1⟩ h2;refine⟨x',b',?_,k2⟩;unfold curlyLG;rw[is_at,←e,c];show Gr.bind S' _ d a'=_;rw[bind_run g1,is_at,word_semi s2];show Gr.bind (kindG l' 6) _ d c1'=_;rw[bind_run (kind_run s2),bind_run (run_big r1 hN)];exact k1
   | false=>
    rw[c2]at h2
    replace h2:Gr.bind (kindG l 6) _ d c1= .ok x b:=h2
    obtain⟨u,c3,h3,h4⟩:=bind_ok h2;obtain⟨rfl,k6⟩:=kind_ok h3;obtain⟨z,c4,h5,h6⟩:=bind_ok h4;have s6:(tokAt l' c1').kind=6:=by
     rcases H.tok g2 with s | ⟨s1,s2⟩
     ·rw[←s.1];exact k6
     ·exact s2
    obtain⟨b2,r1,r2⟩:=H.semi g2 k6 c4 (semis_run _ _ _ _ _ h5);obtain⟨x',b',k1,k2⟩:=sim_curlyL H hS hN n m _ _ (by omega) hks d c4 b2 x b ⟨r2,H.same r2 r1⟩ h6;refine⟨x',b',?_,k2⟩;unfold curlyLG;rw[is_at,←e,c];show Gr.bind S' _ d a'=_;rw[bind_run g1,is_at,word_semi s6];show Gr.bind (kindG l' 6) _ d c1'=_;rw[bind_run (kind_run s6),bind_run (run_big r1 hN)];exact k1
theorem sim_curly (H:Sm0 l l' Ok) (hK:KTs l) {S S':GN} (hS:SX l l' Ok S S') {N N':Nat} (hN:l'.length < N') (hM:N≤N'):SimG Ok Ok (fun r r'=>TR l l' r.1 r'.1∧KR l l' r.2 r'.2) (curlyG l S N) (curlyG l' S' N'):=by
 refine SimG.isI H (by decide) I2 (SimG.nest fun d a a' hp x b q=> ?_) SimG.fail;obtain⟨t,c0,h1,q⟩:=bind_ok q;unfold Gr.adv at h1;split at h1
 ·cases h1
 rename_i h7;cases h1;obtain⟨z,c,h2,q⟩:=bind_ok q;obtain⟨ks,e,h3,q⟩:=bind_ok q;obtain⟨w,f,h4,q⟩:=bind_ok q;unfold Gr.pure at q;cases q;have o:=brace_word (hK a) (.inl rfl) hp.2;obtain⟨c',r1,r2⟩:=H.opn hp.1.1 hp.1.2 o c (semis_run _ _ _ _ _ h2);obtain⟨ks',e',k1,k2,k3,k4⟩:=sim_curlyL H hS hN N N' [] [] hM KR.nil _ c c' ks e ⟨r2,H.same r2 r1⟩ h3;obtain⟨rfl,hw⟩:=want_ok h4;have hn:=not_open hw (by decide);have hs:=hp.1.2;have n6:=shut_kind o;refine⟨((a':Int),ks'),e' + 1,?_,H.step k2.1 k2.2 hn.1 ?_ hn.2,?_,k4⟩
 ·rw[bind_run (adv_run (by rw[←hs.1];simpa using h7)),bind_run (run_big r1 hN),bind_run k1,bind_run (want_run (by rw[←word_sameT k2.2];exact hw))];rfl
 ·have:=word_ne7 hw;simpa using this
 ·show TR l l' (a:Int) (a':Int);unfold TR;rw[tokT_at,tokT_at];exact hs.2 (by rw[n6];decide)
theorem sim_block (H:Sm0 l l' Ok) (hK:KTs l) {S S':GN} (hS:SX l l' Ok S S') {N N':Nat} (hN:l'.length < N') (hM:N≤N'):SX l l' Ok (blockG l S N) (blockG l' S' N'):=SimG.bind (sim_curly H hK hS hN hM) fun r r' hr=>SimG.ret (nd1 hr.1 hr.2)
theorem sim_field (H:Sm0 l l' Ok):SX l l' Ok (fieldG l) (fieldG l'):=SimG.kind H (by decide) (by decide) I2 fun t t' ht=>SimG.bind (sim_typ H) fun y y' hy=>SimG.ret (nd1 ht (KR.one hy))
theorem sim_structure (H:Sm0 l l' Ok) (hK:KTs l) {N N':Nat} (hN:l'.length < N') (hM:N≤N'):SimG Ok (PQm l l' Ok ⟨#[116,121,112,101]⟩) (NdR l l') (structureG l N) (structureG l' N'):=
 SimG.adv H (PQm.ap (by decide)) fun _ _ _=>SimG.kind H (by decide) (by decide) I2 fun t t' ht=>SimG.want H (by decide) (by decide) I2 fun _ _ _=>SimG.bind (sim_curly H hK (sim_field H) hN hM) fun r r' hr=>SimG.ret (nd1 ht hr.2)
theorem sim_funcL (H:Sm0 l l' Ok):∀(n m:Nat) (ks ks':List Nd),n≤m→KR l l' ks ks'→SimG Ok Ok (KR l l') (funcLG l n ks) (funcLG l' m ks')
 | 0,m,ks,ks',hm,hk=>SimG.stop
 | n + 1,0,ks,ks',hm,hk=>by omega
 | n + 1,m + 1,ks,ks',hm,hk=>SimG.isI H (by decide) I2 (SimG.pure hk fun _ _ h=>h.1.1) (SimG.kind H (by decide) (by decide) I2 fun t t' ht=>SimG.bind (sim_typ H) fun y y' hy=>
   SimG.isI H (by decide) I2 ((sim_funcL H n m _ _ (by omega) (hk.snoc (nd1 ht (KR.one hy)))).pre fun _ _ h=>h.1.1) (SimG.want H (by decide) (by decide) I2 fun _ _ _=>SimG.isI H (by decide) I2 SimG.fail (sim_funcL H n m _ _ (by omega) (hk.snoc (nd1 ht (KR.one hy))))))
theorem sim_function (H:Sm0 l l' Ok) {C C':GN} (hC:SX l l' Ok C C') {N N':Nat} (hM:N≤N'):SimG Ok (PQm l l' Ok ⟨#[102,117,110,99]⟩) (NdR l l') (functionG l C N) (functionG l' C' N'):=
 SimG.adv H (PQm.ap (by decide)) fun _ _ _=>SimG.kind H (by decide) (by decide) I2 fun t t' ht=>SimG.want H (by decide) (by decide) I2 fun _ _ _=>SimG.bind (sim_funcL H N N' [] [] hM KR.nil) fun ks ks' hk=>SimG.want H (by decide) (by decide) I2 fun _ _ _=>
  SimG.look H I2 fun k k' q=>SimG.iteE (q.kind (by decide) (by decide)) (fun _=>(SimG.bind (sim_typ H) fun y y' hy=>SimG.bind hC fun b b' hb=>SimG.ret (nd1 ht ((hk.snoc hy).snoc hb))).pre fun _ _ h=>h.1) (fun _=>(SimG.bind hC fun b b' hb=>SimG.ret (nd1 ht (hk.snoc hb))).pre fun _ _ h=>h.1)
theorem AP.look {t t':Tok} {k:Int} (q:QT t t') (hc:(t.kind==k)=true) (h4:k≠4) (h6:k≠6) (a a':Nat) (h:Ok a a'∧tokAt l a=t∧tokAt l' a'=t'):AP l l' Ok a a':=by
 have hk:t.kind=k:=by simpa using hc
 obtain⟨h1,h2,h3⟩:=h;exact⟨⟨h1,by rw[h2,h3];exact q.kinds (by rw[hk];exact h4)⟩,by rw[h2,hk];exact h6,by rw[h2];exact not_open_kind hk h4⟩
theorem sim_leave (H:Sm0 l l' Ok) {w:ByteArray} (hw:w.data.toList≠ [123]) (k:Int):SimG Ok (PQm l l' Ok w) (NdR l l') (leaveG l k) (leaveG l' k):=
 SimG.adv H (PQm.ap hw) fun t t' ht=>SimG.look H I2 fun x x' q=>SimG.iteE (q.kind (by decide) (by decide)) (fun hc=>SimG.adv H (AP.look q hc (by decide) (by decide)) fun u u' hu=>SimG.ret (nd1 ht (KR.one (nd1 hu KR.nil)))) (fun _=>SimG.pure (nd1 ht KR.nil) fun _ _ h=>h.1)
theorem sim_branch (H:Sm0 l l' Ok) {E E' C C' K K':GN} (hE:SX l l' Ok E E') (hC:SX l l' Ok C C') (hK:SimG Ok (PQm l l' Ok ⟨#[105,102]⟩) (NdR l l') K K'):SimG Ok (PQm l l' Ok ⟨#[105,102]⟩) (NdR l l') (branchG l E C K) (branchG l' E' C' K'):=
 SimG.adv H (PQm.ap (by decide)) fun t t' ht=>SimG.bind hE fun e e' he=>SimG.bind hC fun b b' hb=>SimG.isI H (by decide) I2
  (SimG.adv H (PQm.ap (by decide)) fun _ _ _=>SimG.isI H (by decide) I2 (SimG.bind (SimG.nest hK) fun r r' hr=>SimG.ret (nd1 ht (KR.three he hb hr))) (SimG.bind hC fun r r' hr=>SimG.ret (nd1 ht (KR.three he hb hr)))) (SimG.ret (nd1 ht (KR.two he hb)))
theorem sim_loop (H:Sm0 l l' Ok) {E E' C C':GN} (hE:SX l l' Ok E E') (hC:SX l l' Ok C C'):SimG Ok (PQm l l' Ok ⟨#[102,111,114]⟩) (NdR l l') (loopG l E C) (loopG l' E' C'):=
 SimG.adv H (PQm.ap (by decide)) fun t t' ht=>SimG.bind hE fun e e' he=>SimG.bind hC fun b b' hb=>SimG.ret (nd1 ht (KR.two he hb))
theorem word_of_shut {t:Tok} (h:Fo.isO t [125]=true):Pp.word t ⟨#[125]⟩=true:=by
 unfold Fo.isO at h;rw[Bool.and_eq_true,beq_iff_eq,beq_iff_eq]at h;unfold Pp.word;rw[h.1,h.2,Lib.toList_data];rfl
theorem SimG.isS {w:ByteArray} {A A' B B':G α} (hp:∀a a',P a a'→PSm l l' Ok a a') (h1:SimG Ok (PQm l l' Ok w) R A A') (h2:SimG Ok P R B B'):SimG Ok P R (Gr.bind (isG l w) fun b=>Gr.ite b A B) (Gr.bind (isG l' w) fun b=>Gr.ite b A' B'):=by
 intro d a a' h x b q;have e:=word_sameT (s:=w) (hp _ _ h).2;rw[is_at]at q;simp only[is_at,←e];cases c:Pp.word (tokAt l a) w with
 | true=>
  rw[c]at q;exact h1 d a a' ⟨hp _ _ h,c⟩ x b q
 | false=>
  rw[c]at q;exact h2 d a a' h x b q
theorem sim_back (H:Sm0 l l' Ok) {E E':GN} (hE:SX l l' Ok E E'):SimG Ok (PQm l l' Ok ⟨#[114,101,116,117,114,110]⟩) (NdR l l') (backG l E) (backG l' E'):=
 SimG.adv H (PQm.ap (by decide)) fun t t' ht=>SimG.look H I2 fun k k' q=>by
  rcases q with s | ⟨s1,s2⟩
  ·refine SimG.iteE (by rw[s.1]) (fun _=>SimG.pure (nd1 ht KR.nil) fun _ _ h=>h.1) fun _=> ?_
   exact SimG.isS (fun a a' h=>⟨h.1,by rw[h.2.1,h.2.2];exact s⟩) (SimG.pure (nd1 ht KR.nil) fun _ _ h=>h.1.1) ((SimG.bind hE fun e e' he=>SimG.ret (nd1 ht (KR.one he))).pre fun _ _ h=>h.1)
  ·intro d a a' h x b q;have h6:(k.kind==6)=false:=by rw[shut_kind s1];rfl
   have h6':(k'.kind==6)=true:=by rw[s2];rfl
   rw[ite_f h6,is_at,h.2.1,word_of_shut s1]at q
   replace q:Gr.pure (.mk 16 t []:Nd) d a= .ok x b:=q
   unfold Gr.pure at q;cases q;exact⟨.mk 16 t' [],a',by rw[ite_t h6'];rfl,h.1,nd1 ht KR.nil⟩
theorem here_sim (hp:∀a a',P a a'→Ok a a'):SimG Ok P (fun _ _=>True) Gr.here Gr.here:=fun d a a' h x b q=>by
 unfold Gr.here at q;cases q;exact⟨(a':Int),a',rfl,hp _ _ h,True.intro⟩
theorem sim_rest (H:Sm0 l l' Ok) {E E':GN} (hE:SX l l' Ok E E'):SX l l' Ok (restG l E) (restG l' E'):=
 SimG.bind (here_sim I2) fun f f' _=>SimG.bind hE fun x x' hx=>SimG.isI H (by decide) I2 (SimG.adv H (PQm.ap (by decide)) fun t t' ht=>SimG.bind hE fun y y' hy=>SimG.ret (nd1 ht (KR.two hx hy))) (SimG.ret (ndb rfl (KR.one hx)))
theorem SimG.look1 (H:Sm0 l l' Ok) {f f':Tok→G β} (hp:∀a a',P a a'→Ok (a + 1) (a' + 1)) (ht:∀t t',QT t t'→SimG Ok (fun a a'=>P a a'∧tokAt l (a + 1)=t∧tokAt l' (a' + 1)=t') R2 (f t) (f' t')):SimG Ok P R2 (Gr.bind (Gr.look l 1) f) (Gr.bind (Gr.look l' 1) f'):=by
 intro d a a' h x b q;rw[look_at]at q;simp only[look_at];exact ht _ _ (H.tok (hp a a' h)) d a a' ⟨h,rfl,rfl⟩ x b q
theorem SimG.adv2 (H:Sm0 l l' Ok) {t t':Int→G β} (hp:∀a a',P a a'→AP l l' Ok a a'∧AP l l' Ok (a + 1) (a' + 1)) (ht:∀x x',TR l l' x x'→SimG Ok Ok R2 (t x) (t' x')):SimG Ok P R2 (Gr.bind (Gr.adv l) fun x=>Gr.bind (Gr.adv l) fun _=>t x) (Gr.bind (Gr.adv l') fun x=>Gr.bind (Gr.adv l') fun _=>t' x):=by
 intro d a a' h x b q0;obtain⟨y,c,h1,q1⟩:=bind_ok q0;obtain⟨z,c2,h2,q⟩:=bind_ok q1;obtain⟨k1,k2⟩:=hp a a' h;obtain⟨y',c',g1,g2,g3⟩:=adv_sim H d a a' k1 y c h1;obtain⟨rfl,_⟩:=adv_ok h1;obtain⟨rfl,_⟩:=adv_ok g1;obtain⟨z',c2',f1,f2,f3⟩:=adv_sim H d _ _ k2 z c2 h2;obtain⟨x',b',e1,e2⟩:=ht y y' g3 d c2 c2' f2 x b q;exact⟨x',b',by rw[bind_run g1,bind_run f1];exact e1,e2⟩
theorem sim_simple (H:Sm0 l l' Ok) {E E' L L':GN} (hE:SX l l' Ok E E') (hL:SimG Ok (PQm l l' Ok ⟨#[102,111,114]⟩) (NdR l l') L L'):SX l l' Ok (simpleG l E L) (simpleG l' E' L'):=
 SimG.look H I2 fun t t' q=>SimG.iteE (q.kind (by decide) (by decide)) (fun hc=>by
  have hk:t.kind=1:=by simpa using hc
  have ap:∀a a',(Ok a a'∧tokAt l a=t∧tokAt l' a'=t')→AP l l' Ok a a':=AP.look q hc (by decide) (by decide);have nx:∀a a',(Ok a a'∧tokAt l a=t∧tokAt l' a'=t')→Ok (a + 1) (a' + 1):=fun a a' h=>by
   have g:=ap a a' h;exact H.step g.1.1 g.1.2 g.2.1 (by rw[h.2.1,hk];decide) g.2.2
  refine SimG.look1 H nx fun n n' r=> ?_
  have ap2:∀w:ByteArray,w.data.toList≠ [123]→w.data.toList≠ [125]→Pp.word n w=true→∀a a',((Ok a a'∧tokAt l a=t∧tokAt l' a'=t')∧tokAt l (a + 1)=n∧tokAt l' (a' + 1)=n')→AP l l' Ok a a'∧AP l l' Ok (a + 1) (a' + 1):=fun w w1 w2 hw a a' h=>by
   refine⟨ap a a' h.1,⟨nx a a' h.1,?_⟩,?_⟩
   ·rw[h.2.1,h.2.2];exact r.same w2 hw
   ·rw[h.2.1];exact not_open hw w1
  refine SimG.iteE (r.word (by decide)) (fun hw=>SimG.adv2 H (ap2 _ (by decide) (by decide) hw) fun t t' ht=>SimG.bind hE fun e e' he=>SimG.ret (nd1 ht (KR.one he))) fun _=> ?_
  refine SimG.iteE (r.word (by decide)) (fun hw=>SimG.adv2 H (ap2 _ (by decide) (by decide) hw) fun t t' ht=>SimG.isI H (by decide) I2 (SimG.bind hL fun x x' hx=>SimG.ret (nd1 ht (KR.one hx))) SimG.fail) fun _=> ?_
  exact(sim_rest H hE).pre fun _ _ h=>h.1.1) (fun _=>(sim_rest H hE).pre fun _ _ h=>h.1)
theorem sim_stmt (H:Sm0 l l' Ok) {V V' C C' B B' I I' L L' K K' M M':GN} (hV:SimG Ok (PQm l l' Ok ⟨#[118,97,114]⟩) (NdR l l') V V') (hC:SimG Ok (PQm l l' Ok ⟨#[99,111,110,115,116]⟩) (NdR l l') C C') (hB:SX l l' Ok B B') (hI:SimG Ok (PQm l l' Ok ⟨#[105,102]⟩) (NdR l l') I I')
  (hL:SimG Ok (PQm l l' Ok ⟨#[102,111,114]⟩) (NdR l l') L L') (hK:SimG Ok (PQm l l' Ok ⟨#[114,101,116,117,114,110]⟩) (NdR l l') K K') (hM:SX l l' Ok M M'):SX l l' Ok (stmtG l V C B I L K M) (stmtG l' V' C' B' I' L' K' M'):=
 SimG.isI H (by decide) I2 hV (SimG.isI H (by decide) I2 hC (SimG.isI H (by decide) I2 (hB.pre fun _ _ h=>h.1.1) (SimG.isI H (by decide) I2 hI (SimG.isI H (by decide) I2 hL (SimG.isI H (by decide) I2 hK (SimG.isI H (by decide) I2 (sim_leave H (by decide) 17) (SimG.isI H (by decide) I2 (sim_leave H (by decide) 18) hM)))))))
theorem sim_decl (H:Sm0 l l' Ok) {V V' C C' S S' F F':GN} (hV:SimG Ok (PQm l l' Ok ⟨#[118,97,114]⟩) (NdR l l') V V') (hC:SimG Ok (PQm l l' Ok ⟨#[99,111,110,115,116]⟩) (NdR l l') C C') (hS:SimG Ok (PQm l l' Ok ⟨#[116,121,112,101]⟩) (NdR l l') S S') (hF:SimG Ok (PQm l l' Ok ⟨#[102,117,110,99]⟩) (NdR l l') F F'):SX l l' Ok (declG l V C S F) (declG l' V' C' S' F'):=
 SimG.isI H (by decide) I2 hV (SimG.isI H (by decide) I2 hC (SimG.isI H (by decide) I2 hS (SimG.isI H (by decide) I2 hF SimG.fail)))
theorem rank_shut {t:Tok} (h:Fo.isO t [125]=true):Pp.rank t.text=0:=by
 unfold Fo.isO at h;rw[Bool.and_eq_true,beq_iff_eq,beq_iff_eq]at h;unfold Pp.rank;rw[h.2];rfl
theorem rank_open {t:Tok} (h:Fo.isO t [123]=true):Pp.rank t.text=0:=by
 unfold Fo.isO at h;rw[Bool.and_eq_true,beq_iff_eq,beq_iff_eq]at h;unfold Pp.rank;rw[h.2];rfl
theorem ite_same {c:Bool} {s:G α}:Gr.ite c s s=s:=by cases c <;> rfl
theorem sim_binaryL (H:Sm0 l l' Ok) {Y Y':Int→GN} (hY:∀r,SX l l' Ok (Y r) (Y' r)):∀(n m:Nat) (rk:Int) (x x':Nd),n≤m→NdR l l' x x'→SX l l' Ok (binaryLG l Y n rk x) (binaryLG l' Y' m rk x')
 | 0,m,rk,x,x',hm,hx=>SimG.stop
 | n + 1,0,rk,x,x',hm,hx=>by omega
 | n + 1,m + 1,rk,x,x',hm,hx=>SimG.look H I2 fun t t' q=>by
  rcases q with s | ⟨s1,s2⟩
  ·refine SimG.iteE (by rw[s.1]) (fun _=>SimG.pure hx fun _ _ h=>h.1) fun h4=> ?_
   have k4:t.kind=4:=by simpa using h4
   have e:=s.2 (by rw[k4];decide);rw[←e];refine SimG.iteE rfl (fun _=>SimG.pure hx fun _ _ h=>h.1) fun _=>SimG.iteE rfl (fun _=>SimG.pure hx fun _ _ h=>h.1) fun hr=> ?_
   refine SimG.adv H (fun a a' h=>⟨⟨h.1,by rw[h.2.1,h.2.2];exact s⟩,by rw[h.2.1,k4];decide,?_⟩) fun o o' ho=>SimG.bind (hY _) fun y y' hy=>sim_binaryL H hY n m rk _ _ (by omega) (nd1 ho (KR.two hx hy))
   rw[h.2.1,Bool.eq_false_iff];intro g;rw[rank_open g]at hr;exact absurd hr (by decide)
  ·intro d a a' h y b q;have h4:(t.kind !=4)=false:=by rw[shut_kind s1];rfl
   have h4':(t'.kind !=4)=true:=by rw[s2];rfl
   have h0:(Pp.rank t.text==0)=true:=by rw[rank_shut s1];rfl
   rw[ite_f h4,ite_t h0,ite_same]at q;unfold Gr.pure at q;cases q;exact⟨x',a',by rw[ite_t h4'];rfl,h.1,hx⟩
theorem sim_binary (H:Sm0 l l' Ok) {U U':GN} {Y Y':Int→GN} (hU:SX l l' Ok U U') (hY:∀r,SX l l' Ok (Y r) (Y' r)) {N N':Nat} (hM:N≤N') (rk:Int):SX l l' Ok (binaryG l U Y N rk) (binaryG l' U' Y' N' rk):=SimG.bind hU fun x x' hx=>sim_binaryL H hY N N' rk x x' hM hx
theorem sim_unary (H:Sm0 l l' Ok) {U U' F F':GN} (hU:SX l l' Ok U U') (hF:SX l l' Ok F F'):SX l l' Ok (unaryG l U F) (unaryG l' U' F'):=
 SimG.look H I2 fun t t' q=>by
  rcases q with s | ⟨s1,s2⟩
  ·refine SimG.iteE (by rw[s.1]) (fun _=>hF.pre fun _ _ h=>h.1) fun h4=> ?_
   have k4:t.kind=4:=by simpa using h4
   have e:=s.2 (by rw[k4];decide);rw[←e];refine SimG.iteE rfl (fun hu=>SimG.nest ?_) (fun _=>hF.pre fun _ _ h=>h.1);refine SimG.adv H (fun a a' h=>⟨⟨h.1,by rw[h.2.1,h.2.2];exact s⟩,by rw[h.2.1,k4];decide,?_⟩) fun o o' ho=>SimG.bind hU fun x x' hx=>SimG.ret (nd1 ho (KR.one hx))
   rw[h.2.1];unfold Pp.unaryS at hu;rw[Bool.or_eq_true,beq_iff_eq,beq_iff_eq]at hu;unfold Fo.isO;rcases hu with q | q <;> rw[q,Bool.and_eq_false_iff] <;> exact .inr rfl
  ·intro d a a' h y b q;have h4:(t.kind !=4)=false:=by rw[shut_kind s1];rfl
   have h4':(t'.kind !=4)=true:=by rw[s2];rfl
   have hu:Pp.unaryS t.text=false:=by
    unfold Fo.isO at s1;rw[Bool.and_eq_true,beq_iff_eq,beq_iff_eq]at s1;unfold Pp.unaryS;rw[s1.2];rfl
   rw[ite_f h4,ite_f hu]at q;rw[ite_t h4'];exact hF d a a' h.1 y b q
theorem sim_first (H:Sm0 l l' Ok) {E E':GN} (hE:SX l l' Ok E E'):SX l l' Ok (firstG l E) (firstG l' E'):=
 SimG.look H I2 fun t t' q=>SimG.iteE (q.kind (by decide) (by decide)) (fun hc=>SimG.adv H (AP.look q hc (by decide) (by decide)) fun o o' ho=>SimG.ret (nd1 ho KR.nil)) fun _=>
  SimG.iteE (q.kind (by decide) (by decide)) (fun hc=>SimG.adv H (AP.look q hc (by decide) (by decide)) fun o o' ho=>SimG.ret (nd1 ho KR.nil)) fun _=>
  SimG.iteE (q.kind (by decide) (by decide)) (fun hc=>SimG.adv H (AP.look q hc (by decide) (by decide)) fun o o' ho=>SimG.ret (nd1 ho KR.nil)) fun _=>
  (SimG.isI H (by decide) I2 (SimG.nest (SimG.adv H (PQm.ap (by decide)) fun o o' ho=>SimG.bind hE fun x x' hx=>SimG.want H (by decide) (by decide) I2 fun _ _ _=>SimG.ret (nd1 ho (KR.one hx)))) SimG.fail).pre fun _ _ h=>h.1
theorem sim_primL (H:Sm0 l l' Ok) {K K':Nd→GN} (hK:∀x x',NdR l l' x x'→SimG Ok (PQm l l' Ok ⟨#[40]⟩) (NdR l l') (K x) (K' x')):∀(n m:Nat) (x x':Nd),n≤m→NdR l l' x x'→SX l l' Ok (primLG l K n x) (primLG l' K' m x')
 | 0,m,x,x',hm,hx=>SimG.stop
 | n + 1,0,x,x',hm,hx=>by omega
 | n + 1,m + 1,x,x',hm,hx=>SimG.isI H (by decide) I2 (SimG.bind (hK x x' hx) fun y y' hy=>sim_primL H hK n m y y' (by omega) hy) (SimG.isI H (by decide) I2 (SimG.adv H (PQm.ap (by decide)) fun _ _ _=>SimG.kind H (by decide) (by decide) I2 fun t t' ht=>sim_primL H hK n m _ _ (by omega) (nd1 ht (KR.one hx))) (SimG.ret hx))
theorem sim_callL (H:Sm0 l l' Ok) {E E':GN} (hE:SX l l' Ok E E'):∀(n m:Nat) (ks ks':List Nd),n≤m→KR l l' ks ks'→SimG Ok Ok (KR l l') (callLG l E n ks) (callLG l' E' m ks')
 | 0,m,ks,ks',hm,hk=>SimG.stop
 | n + 1,0,ks,ks',hm,hk=>by omega
 | n + 1,m + 1,ks,ks',hm,hk=>SimG.isI H (by decide) I2 (SimG.pure hk fun _ _ h=>h.1.1) (SimG.bind hE fun e e' he=>SimG.isI H (by decide) I2 ((sim_callL H hE n m _ _ (by omega) (hk.snoc he)).pre fun _ _ h=>h.1.1)
   (SimG.want H (by decide) (by decide) I2 fun _ _ _=>SimG.isI H (by decide) I2 SimG.fail (sim_callL H hE n m _ _ (by omega) (hk.snoc he))))
theorem sim_call (H:Sm0 l l' Ok) {E E':GN} (hE:SX l l' Ok E E') {N N':Nat} (hM:N≤N') (x x':Nd) (hx:NdR l l' x x'):SimG Ok (PQm l l' Ok ⟨#[40]⟩) (NdR l l') (callG l E N x) (callG l' E' N' x'):=
 SimG.nest (SimG.adv H (PQm.ap (by decide)) fun o o' ho=>SimG.bind (sim_callL H hE N N' [x] [x'] hM (KR.one hx)) fun ks ks' hk=>SimG.want H (by decide) (by decide) I2 fun _ _ _=>SimG.ret (nd1 ho hk))
theorem sim_prim (H:Sm0 l l' Ok) {E E':GN} (hE:SX l l' Ok E E') {N N':Nat} (hM:N≤N'):SX l l' Ok (primG l (firstG l E) (callG l E N) N) (primG l' (firstG l' E') (callG l' E' N') N'):=
 SimG.bind (sim_first H hE) fun x x' hx=>sim_primL H (fun y y' hy=>sim_call H hE hM y y' hy) N N' x x' hM hx
theorem SimG.semi (H:Sm0 l l' Ok) {N N':Nat} (hN:l'.length < N') {s s':G β} (h:SimG Ok Ok R2 s s'):SimG Ok Ok R2 (Gr.bind (kindG l 6) fun _=>Gr.bind (semisG l N) fun _=>s) (Gr.bind (kindG l' 6) fun _=>Gr.bind (semisG l' N') fun _=>s'):=by
 intro d a a' hp x b q;obtain⟨u,c,h3,h4⟩:=bind_ok q;obtain⟨rfl,k6⟩:=kind_ok h3;obtain⟨z,e,h5,h6⟩:=bind_ok h4;have s6:(tokAt l' a').kind=6:=by
  rcases H.tok hp with s | ⟨s1,s2⟩
  ·rw[←s.1];exact k6
  ·exact s2
 obtain⟨b2,r1,r2⟩:=H.semi hp k6 e (semis_run _ _ _ _ _ h5);obtain⟨x',b',k1,k2⟩:=h d e b2 r2 x b h6;exact⟨x',b',by rw[bind_run (kind_run s6),bind_run (run_big r1 hN)];exact k1,k2⟩
theorem sim_fileI (H:Sm0 l l' Ok) {N N':Nat} (hN:l'.length < N'):∀(n m:Nat) (ks ks':List Nd),n≤m→KR l l' ks ks'→SimG Ok Ok (KR l l') (fileIG l N n ks) (fileIG l' N' m ks')
 | 0,m,ks,ks',hm,hk=>SimG.stop
 | n + 1,0,ks,ks',hm,hk=>by omega
 | n + 1,m + 1,ks,ks',hm,hk=>SimG.isI H (by decide) I2 (SimG.adv H (PQm.ap (by decide)) fun _ _ _=>SimG.kind H (by decide) (by decide) I2 fun t t' ht=>SimG.semi H hN (sim_fileI H hN n m _ _ (by omega) (hk.snoc (nd1 ht KR.nil)))) (SimG.ret hk)
theorem sim_fileD (H:Sm0 l l' Ok) {D D':GN} (hD:SX l l' Ok D D') {N N':Nat} (hN:l'.length < N'):∀(n m:Nat) (ks ks':List Nd),n≤m→KR l l' ks ks'→SimG Ok Ok (KR l l') (fileDG l D N n ks) (fileDG l' D' N' m ks')
 | 0,m,ks,ks',hm,hk=>SimG.stop
 | n + 1,0,ks,ks',hm,hk=>by omega
 | n + 1,m + 1,ks,ks',hm,hk=>SimG.look H I2 fun t t' q=>SimG.iteE (by simp only[bne,q.kind (k:=7) (by decide) (by decide)]) (fun _=>(SimG.bind hD fun x x' hx=>SimG.semi H hN (sim_fileD H hD hN n m _ _ (by omega) (hk.snoc hx))).pre fun _ _ h=>h.1) (fun _=>SimG.pure hk fun _ _ h=>h.1)
theorem sim_file (H:Sm0 l l' Ok) {D D':GN} (hD:SX l l' Ok D D') {N N':Nat} (hN:l'.length < N') (hM:N≤N'):SX l l' Ok (fileG l D N) (fileG l' D' N'):=
 SimG.want H (by decide) (by decide) I2 fun _ _ _=>SimG.kind H (by decide) (by decide) I2 fun t t' ht=>SimG.semi H hN (SimG.bind (sim_fileI H hN N N' _ _ hM (KR.one (nd1 ht KR.nil))) fun ks ks' hk=>SimG.bind (sim_fileD H hD hN N N' _ _ hM hk) fun ks2 ks2' hk2=>SimG.ret (ndb rfl hk2))
structure SimF (l l':List Tok) (Ok:Nat→Nat→Prop) (F F':SF):Prop where
 binary:∀r,SX l l' Ok (F.binary r) (F'.binary r)
 unary:SX l l' Ok F.unary F'.unary
 block:SX l l' Ok F.block F'.block
 branch:SimG Ok (PQm l l' Ok ⟨#[105,102]⟩) (NdR l l') F.branch F'.branch
 stmt:SX l l' Ok F.stmt F'.stmt
theorem sf_sim (H:Sm0 l l' Ok) (hK:KTs l) {N N':Nat} (hN:l'.length < N') (hM:N≤N'):∀n,SimF l l' Ok (sf l N n) (sf l' N' n)
 | 0=>⟨fun _=>SimG.stop,SimG.stop,SimG.stop,SimG.stop,SimG.stop⟩
 | n + 1=>by
  have h:=sf_sim H hK hN hM n;exact⟨fun r=>sim_binary H h.unary h.binary hM r,sim_unary H h.unary (sim_prim H (h.binary 1) hM),sim_block H hK h.stmt hN hM,sim_branch H (h.binary 1) h.block h.branch,
   sim_stmt H (sim_variable H (h.binary 1)) (sim_constant H (h.binary 1)) h.block h.branch (sim_loop H (h.binary 1) h.block) (sim_back H (h.binary 1)) (sim_simple H (h.binary 1) (sim_loop H (h.binary 1) h.block))⟩
theorem fileS_sim (H:Sm0 l l' Ok) (hK:KTs l) {N N':Nat} (hN:l'.length < N') (hM:N≤N') (n:Nat):SX l l' Ok (fileS l N (sf l N n)) (fileS l' N' (sf l' N' n)):=by
 have q:=sf_sim H hK hN hM n;exact sim_file H (sim_decl H (sim_variable H (q.binary 1)) (sim_constant H (q.binary 1)) (sim_structure H hK hN hM) (sim_function H q.block hM)) hN hM
theorem answer_sim (H:Sm0 l l' Ok) (h0:Ok 0 0) (hK:KTs l) (hg:Good l') {x:Nd} {b:Nat} (h:answer l= .ok x b):∃x' b',answer l'= .ok x' b'∧NdR l l' x x':=by
 obtain⟨x',b',k1,_,k3⟩:=fileS_sim H hK (N:=l.length + 2) (N':=l.length + l'.length + 2) (by omega) (by omega) (3 * l.length + 4) 0 0 0 h0 x b h;refine⟨x',b',?_,k3⟩;have f1:=fileS_fu (l:=l') (P:=Al) (N:=l.length + l'.length + 2) (M:=l.length + l'.length + 2) (n:=3 * l.length + 4) (m:=3 *(l.length + l'.length)+ 4) (by omega) (by omega) 0 0 True.intro;have f2:=fileS_fu (l:=l') (P:=Al) (N:=l'.length + 2) (M:=l.length + l'.length + 2) (n:=3 * l'.length + 4) (m:=3 *(l.length + l'.length)+ 4) (by omega) (by omega) 0 0 True.intro;have hfin:=answer_fin hg;unfold answer at hfin⊢;rw[k1]at f1;rcases f1 with f1 | f1
 ·cases f1
 ·rcases f2 with f2 | f2
  ·rw[f2]at hfin;exact absurd hfin (fun h=>h)
  ·rw[←f2,f1]
end Gr
end Go.Proofs.Dm
set_option maxHeartbeats 4000000
namespace Go.Proofs.Dm
open Go Go.Proofs Go.Proofs.Dm.Sc
namespace Gr
variable {l l':List Tok}
def keyT (t:Tok):Int×ByteArray:=(t.kind,if t.kind=6 then⟨#[]⟩else t.text)
theorem sameT_key {t u:Tok} (h:keyT t=keyT u):sameT t u:=by
 unfold keyT at h;simp only[Prod.mk.injEq]at h;refine⟨h.1,fun q=> ?_⟩;have h2:=h.2;rw[if_neg q,if_neg (by rw[←h.1];exact q)]at h2;exact h2
theorem sameT_rfl {t:Tok}:sameT t t:=⟨rfl,fun _=>rfl⟩
theorem key_at (h:l.map keyT=l'.map keyT) (i:Nat):sameT (tokAt l i) (tokAt l' i):=by
 have e:=congrArg (fun x=>x[i]?) h;simp only[List.getElem?_map]at e;unfold tokAt;cases h1:l[i]? with
 | none=>
  rw[h1]at e;cases h2:l'[i]? with
  | none=>exact sameT_rfl
  | some u=>rw[h2]at e;cases e
 | some t=>
  rw[h1]at e;cases h2:l'[i]? with
  | none=>rw[h2]at e;cases e
  | some u=>
   rw[h2]at e;simp only[Option.map_some,Option.some.injEq]at e;exact sameT_key e
theorem run_key (h:l.map keyT=l'.map keyT) {a b:Nat} (r:Run l a b):Run l' a b:=
 ⟨r.1,fun k q1 q2=>by rw[←(key_at h k).1];exact r.2.1 k q1 q2,by rw[←(key_at h b).1];exact r.2.2⟩
theorem sm_key (h:l.map keyT=l'.map keyT):Sm0 l l' (fun a a'=>a=a') where
 tok:=by rintro a _ rfl;exact .inl (key_at h a)
 step:=by rintro a _ rfl _ _ _ _;rfl
 opn:=by rintro a _ rfl _ _ b r;exact⟨b,run_key h r,rfl⟩
 semi:=by rintro a _ rfl _ b r;exact⟨b,run_key h r,rfl⟩
 shut:=by
  rintro a _ rfl h1 h2
  exfalso
  have e:=(key_at h a).1;rw[shut_kind h1,h2]at e;exact absurd e (by decide)
def canR:Bool→List Tok→List (Int×ByteArray)
 | _,[]=> []
 | e,t::r=>if t.kind=6 then(if e then(6,⟨#[]⟩)::canR false r else canR false r)
  else if Fo.isO t [125]&&e then(6,⟨#[]⟩)::keyT t::canR (ends t) r else keyT t::canR (ends t) r
def OkC (l l':List Tok) (a a':Nat):Prop:=∃e,(l'.drop a').map keyT=canR e (l.drop a)∧((tokAt l a).kind=6→e=true)
theorem drop_one {α:Type} {l:List α} {a:Nat} {t:α} {r:List α} (h:l.drop a=t::r):l[a]? =some t∧l.drop (a + 1)=r:=by
 have h1:=congrArg List.head? h;rw[List.head?_drop]at h1;exact⟨h1,by rw[←List.tail_drop,h,List.tail_cons]⟩
theorem tok_some {a:Nat} {t:Tok} (h:l[a]? =some t):tokAt l a=t:=by unfold tokAt;rw[h];rfl
theorem tok_nil {a:Nat} (h:l.drop a= []):tokAt l a=endT:=by
 refine tok_out ?_;have:=congrArg List.length h;simp only[List.length_drop,List.length_nil]at this;omega
theorem map_one {a:Nat} {k:Int×ByteArray} {ks:List (Int×ByteArray)} (h:(l.drop a).map keyT=k::ks):keyT (tokAt l a)=k∧(l.drop (a + 1)).map keyT=ks:=by
 cases hd:l.drop a with
 | nil=>rw[hd]at h;cases h
 | cons t r=>
  obtain⟨h1,h2⟩:=drop_one hd;rw[hd,List.map_cons]at h;simp only[List.cons.injEq]at h;rw[tok_some h1,h2];exact h
theorem map_none {a:Nat} (h:(l.drop a).map keyT= []):tokAt l a=endT:=by
 rw[List.map_eq_nil_iff]at h;exact tok_nil h
theorem can_skip:∀(n a b:Nat),b=a + n→Run l a b→canR false (l.drop a)=canR false (l.drop b)
 | 0,a,b,hn,r=>by rw[hn];rfl
 | n + 1,a,b,hn,r=>by
  have hk:=r.2.1 a (Nat.le_refl _) (by omega);rw[←can_skip n (a + 1) b (by omega) ⟨by omega,fun k q1 q2=>r.2.1 k (by omega) q2,r.2.2⟩];cases hd:l.drop a with
  | nil=>rw[tok_nil hd]at hk;exact absurd hk (by decide)
  | cons t r2=>
   obtain⟨h1,h2⟩:=drop_one hd;rw[tok_some h1]at hk;rw[h2]
   conv=>lhs;unfold canR
   rw[if_pos hk];rfl
theorem can_head {b c:Nat} (hk:(tokAt l b).kind≠6) (h:(l'.drop c).map keyT=canR false (l.drop b)):Run l' c c:=by
 refine⟨Nat.le_refl _,fun k q1 q2=>by omega,?_⟩;cases hd:l.drop b with
 | nil=>
  rw[hd]at h;rw[map_none h];decide
 | cons t r=>
  obtain⟨h1,h2⟩:=drop_one hd;rw[tok_some h1]at hk;rw[hd]at h;unfold canR at h;rw[if_neg hk,Bool.and_false,if_neg (by decide)]at h;have e:=(map_one h).1;have:=(sameT_key e).1;rw[this];exact hk
theorem can_step {e:Bool} {a a':Nat} {t:Tok} (ht:l[a]? =some t) (h:(l'.drop a').map keyT=canR e (l.drop a)) (hs:sameT t (tokAt l' a')) (h6:t.kind≠6):(l'.drop (a' + 1)).map keyT=canR (ends t) (l.drop (a + 1)):=by
 cases hd:l.drop a with
 | nil=>
  have:=congrArg List.head? hd;rw[List.head?_drop,ht]at this;cases this
 | cons u r=>
  obtain⟨h1,h2⟩:=drop_one hd;rw[ht]at h1;cases h1;rw[hd]at h;unfold canR at h;rw[if_neg h6]at h;rw[h2];split at h
  ·have q:=(sameT_key (u:=⟨6,⟨#[]⟩,0,0,false⟩) ((map_one h).1)).1;rw[←hs.1]at q;exact absurd q h6
  ·exact(map_one h).2
theorem ends_open {t:Tok} (h:Fo.isO t [123]=true):ends t=false:=by
 unfold Fo.isO at h;rw[Bool.and_eq_true,beq_iff_eq,beq_iff_eq]at h;unfold ends isIn endO eqB;rw[h.1];simp only[List.any_cons,List.any_nil,h.2];rw[Lib.toList_data ⟨#[41]⟩,Lib.toList_data ⟨#[125]⟩];rfl
theorem sm_can (hc:l'.map keyT=canR false l) (hsem:∀i,SemAt l 0 i):Sm0 l l' (OkC l l') where
 tok:=by
  rintro a a' ⟨e,h,he⟩;cases hd:l.drop a with
  | nil=>
   rw[hd]at h;rw[tok_nil hd,map_none h];exact .inl sameT_rfl
  | cons t r=>
   obtain⟨h1,h2⟩:=drop_one hd;rw[tok_some h1]at he⊢;rw[hd]at h;unfold canR at h;split at h
   ·rename_i h6;rw[he h6,if_pos rfl]at h;have q:=(sameT_key (u:=⟨6,⟨#[]⟩,0,0,false⟩) ((map_one h).1)).1;exact .inl ⟨by rw[h6,q],fun k=>absurd h6 k⟩
   ·rename_i h6;split at h
    ·rename_i hb;rw[Bool.and_eq_true]at hb;exact .inr ⟨hb.1,(sameT_key (u:=⟨6,⟨#[]⟩,0,0,false⟩) ((map_one h).1)).1⟩
    ·exact .inl (sameT_key (map_one h).1.symm)
 step:=by
  rintro a a' ⟨e,h,he⟩ hs h6 h7 ho;cases hg:l[a]? with
  | none=>
   unfold tokAt at h7;rw[hg]at h7;exact absurd rfl h7
  | some t=>
   rw[tok_some hg]at hs h6 ho;refine⟨ends t,can_step hg h hs h6,fun q=> ?_⟩;obtain⟨j,q1,q2,q3,q4,q5⟩:=hsem (a + 1) q;rcases Nat.lt_or_ge j a with g | g
   ·have:=q3 a g (by omega);rw[tok_some hg]at this;exact absurd this h6
   ·have:j=a:=by omega
    subst this;rw[tok_some hg]at q5;rcases q5 with q5 | q5
    ·exact q5
    ·rw[ho]at q5;cases q5
 opn:=by
  rintro a a' ⟨e,h,he⟩ hs ho b r;cases hg:l[a]? with
  | none=>
   unfold tokAt at ho;rw[hg]at ho;exact absurd ho (by decide)
  | some t=>
   rw[tok_some hg]at hs ho;have h1:=can_step hg h hs (by rw[shut_kind ho];decide);rw[ends_open ho,can_skip (b -(a + 1)) (a + 1) b (by have:=r.1;omega) r]at h1;exact⟨a' + 1,can_head r.2.2 h1,false,h1,fun q=>absurd q r.2.2⟩
 semi:=by
  rintro a a' ⟨e,h,he⟩ h6 b r;cases hd:l.drop a with
  | nil=>rw[tok_nil hd]at h6;exact absurd h6 (by decide)
  | cons t r2=>
   obtain⟨h1,h2⟩:=drop_one hd;have e1:=he h6;rw[tok_some h1]at h6;rw[hd]at h;unfold canR at h;rw[if_pos h6,e1,if_pos rfl]at h;have h3:=(map_one h).2;rw[←h2,can_skip (b -(a + 1)) (a + 1) b (by have:=r.1;omega) r]at h3;exact⟨a' + 1,can_head r.2.2 h3,false,h3,fun q=>absurd q r.2.2⟩
 shut:=by
  rintro a a' ⟨e,h,he⟩ ho h6;cases hd:l.drop a with
  | nil=>rw[tok_nil hd]at ho;exact absurd ho (by decide)
  | cons t r2=>
   obtain⟨h1,h2⟩:=drop_one hd;rw[tok_some h1]at ho;have k6:t.kind≠6:=by rw[shut_kind ho];decide
   have h':=h;rw[hd]at h;unfold canR at h;rw[if_neg k6,ho]at h;cases e with
   | false=>
    rw[Bool.and_false,if_neg (by decide)]at h;have q:=(sameT_key (map_one h).1).1;rw[h6]at q;exact absurd q.symm k6
   | true=>
    rw[Bool.and_true,if_pos rfl]at h;have h3:=(map_one h).2;have e2:canR false (l.drop a)=keyT t::canR (ends t) r2:=by
     rw[hd]
     conv=>lhs;unfold canR
     rw[if_neg k6,Bool.and_false,if_neg (by decide)]
    rw[←e2]at h3;have hk:(tokAt l a).kind≠6:=by rw[tok_some h1];exact k6
    exact⟨a' + 1,can_head hk h3,false,h3,fun q=>absurd q hk⟩
structure Parsed (s:ByteArray):Prop where
 scan:(scanP s).2.2 < 0
 toks:(textP s).2.1=(scanP s).1
 sem:∀i,SemAt (scanP s).1 0 i
 bang:∀i,isBang (tokAt (scanP s).1 i)=true→noEq (tokAt (scanP s).1 (i + 1))=true
 ans:∃x b,answer (scanP s).1= .ok x b∧(textP s).1=x
theorem parsed {s:ByteArray} (hs:s.size < 10000000) (h:(textP s).2.2 < 0):Parsed s:=by
 obtain⟨hf,ht,_⟩:=text_bal hs h;obtain⟨hK,h7⟩:=scan_kinds hf;have hO:KOs (scanP s).1:=fun i q=>scan_ops hf i q
 obtain⟨hg,_,_⟩:=scan_good hs hf;have hd:decide (0≤(scanP s).2.2)=false:=by simp;omega
 have ha:∃x b,answer (scanP s).1= .ok x b∧(textP s).1=x:=by
  have hfin:=answer_fin hg;unfold textP at h⊢;simp only[hd,Bool.false_eq_true,if_false]at h⊢;cases ha:answer (scanP s).1 with
  | ok x b=>exact⟨x,b,rfl,rfl⟩
  | bad k=>
   rw[ha]at h;simp only at h;have:=(scan_tb (s:=s) (tokAt (scanP s).1 k) (by
    rw[ha]at hfin;have hk':k <(scanP s).1.length:=hfin;unfold tokAt;rw[List.getElem?_eq_getElem hk'];exact List.getElem_mem hk')).1
   omega
  | out=>rw[ha]at hfin;exact absurd hfin (fun h=>h)
 obtain⟨x,b,h1,h2⟩:=ha;have hr:=fileS_rd hK hO h1;have he:=h7 b (file_end7 h1);have beyond:∀i,b≤i→(tokAt (scanP s).1 i).kind=7:=fun i q=>by
  rcases Nat.eq_or_lt_of_le q with g | g
  ·rw[←g];exact file_end7 h1
  ·rw[tok_out (by omega)];rfl
 refine⟨hf,ht,fun i=> ?_,fun i q=> ?_,x,b,h1,h2⟩
 ·rcases Nat.lt_or_ge i b with q | q
  ·exact hr.sem i (Nat.zero_le _) q
  ·intro g;rw[beyond i q]at g;exact absurd g (by decide)
 ·rcases Nat.lt_or_ge i b with g | g
  ·exact(hr.bang i (Nat.zero_le _) g q).2
  ·unfold isBang at q;rw[beyond i g]at q;cases q
theorem parsed_same {s t:ByteArray} (hs:s.size < 10000000) (ht:t.size < 10000000) (h:(textP s).2.2 < 0) (hf:(scanP t).2.2 < 0)
  (hk:(scanP t).1.map keyT=(scanP s).1.map keyT∨(scanP t).1.map keyT=canR false (scanP s).1):
  (textP t).2.2= -1∧(textP t).2.1=(scanP t).1∧Sh.shapeS (textP s).2.1 (textP s).1=Sh.shapeS (textP t).2.1 (textP t).1:=by
 have p:=parsed hs h;obtain⟨x,b,h1,h2⟩:=p.ans;obtain⟨hK,_⟩:=scan_kinds p.scan;obtain⟨hg,_,_⟩:=scan_good ht hf;have key:∃x' b',answer (scanP t).1= .ok x' b'∧NdR (scanP s).1 (scanP t).1 x x':=by
  rcases hk with q | q
  ·exact answer_sim (sm_key q.symm) rfl hK hg h1
  ·refine answer_sim (sm_can q p.sem) ⟨false,q,fun k=> ?_⟩ hK hg h1;obtain⟨j,_,q2,_⟩:=p.sem 0 k;omega
 obtain⟨x',b',k1,k2⟩:=key;have hd:decide (0≤(scanP t).2.2)=false:=by simp;omega
 have e:textP t=(x',(scanP t).1,-1):=by
  unfold textP;simp only[hd,Bool.false_eq_true,if_false,k1]
 rw[e,p.toks,h2];exact⟨rfl,rfl,k2⟩
end Gr
end Go.Proofs.Dm

set_option linter.unusedSimpArgs false
set_option linter.unusedVariables false
set_option maxHeartbeats 4000000
namespace Go.Proofs.Dm
open Go Go.Proofs Go.Proofs.Dm.Sc
open Fo (trimR)
open Gr (ss0 lastS keyT)
namespace Pc
theorem fault_neg {s:ByteArray}:∀(n i:Nat),faultF s n i < 0→faultF s n i= -1
 | 0,i,h=>rfl
 | n + 1,i,h=>by
  unfold faultF at h⊢;split at h
  ·rename_i hlt;rw[if_pos hlt];split at h
   ·omega
   ·rename_i hb;rw[if_neg hb];exact fault_neg n _ h
  ·rename_i hlt;rw[if_neg hlt]
theorem scan_iff {s:ByteArray}:(scanP s).2.2 < 0↔(loopS s (s.size + 1) ss0).2 < 0∧V s.data.toList∧s.size≤2000:=by
 have hV:=fault_V (s:=s) s.size 0 (by omega) (by omega);rw[List.drop_zero]at hV;have hn:=fault_neg (s:=s) s.size 0;unfold ss0;unfold scanP;dsimp only;generalize hf:(loopS s (s.size + 1) ⟨0,1,[],[]⟩).2=f;have key:scanF s f < 0↔f < 0∧faultF s s.size 0 < 0∧s.size≤2000:=by
  unfold scanF least;generalize faultF s s.size 0=u;constructor
  ·intro h
   repeat' split at h
   all_goals omega
  ·rintro⟨h1,h2,h3⟩
   repeat' split
   all_goals omega
 by_cases q:0≤scanF s f
 ·rw[if_pos q];refine⟨fun h=>by simp only at h;omega,fun h=> ?_⟩;have:=key.2 ⟨h.1,by rw[hV.2 h.2.1];decide,h.2.2⟩;omega
 ·rw[if_neg q];refine⟨fun _=> ?_,fun _=>by simp⟩;obtain⟨h1,h2,h3⟩:=key.1 (by omega);exact⟨h1,hV.1 (hn h2),h3⟩
theorem nat_eq {c:UInt8} {n:Nat} (h:((c.toNat:Int)==(n:Int))=true):c.toNat=n:=by
 rw[beq_iff_eq]at h;omega
theorem ops_ascii:ops.all (fun x=>x.toList.head?.all (fun b=>decide (b.toNat < 128)))=true:=by kernel_rfl
theorem op_ascii {w:List UInt8} (h:isIn ops ⟨w.toArray⟩=true) (c:UInt8) (hc:w.head? =some c):c.toNat < 128:=by
 simp only[isIn,List.any_eq_true,eqB,beq_iff_eq]at h;obtain⟨o,ho,he⟩:=h;have h4:=List.all_eq_true.1 ops_ascii o ho;rw[←he,Lib.toList_data]at h4;simp only at h4;rw[hc]at h4;simpa using h4
theorem step_ascii {c:UInt8} {r:List UInt8} {q:Pc×List UInt8} (h:stepQ (c::r)=some q):c.toNat < 128:=by
 simp only[stepQ]at h;split at h
 ·rename_i n;have:=nat_eq (n:=10) n;omega
 split at h
 ·rename_i n;rw[Bool.or_eq_true]at n;rcases n with n | n
  ·have:=nat_eq (n:=32) n;omega
  ·have:=nat_eq (n:=9) n;omega
 split at h
 ·rename_i n;rw[Bool.and_eq_true,beq_iff_eq]at n;rw[n.1];decide
 split at h
 ·rename_i n;unfold letter at n;simp only[Bool.or_eq_true,Bool.and_eq_true,decide_eq_true_eq,beq_iff_eq]at n;omega
 split at h
 ·rename_i n;unfold digit at n;simp only[Bool.and_eq_true,decide_eq_true_eq]at n;omega
 split at h
 ·rename_i n;have:=nat_eq (n:=34) n;omega
 split at h
 ·rename_i n;have:=nat_eq (n:=59) n;omega
 ·unfold opQ at h;split at h
  ·rename_i n;cases r with
   | nil=>cases n
   | cons d r=>exact op_ascii (w:= [c,d]) n c rfl
  ·split at h
   ·rename_i n;exact op_ascii (w:= [c]) n c rfl
   ·cases h
theorem reads_ascii {r ps} (h:Reads r ps) (c:UInt8) (hc:r.head? =some c):c.toNat < 128:=by
 cases h with
 | nil=>cases hc
 | cons h _=>
  cases r with
  | nil=>cases h
  | cons d r=>
   cases hc;exact step_ascii h
def GV (p:Pc):Prop:=Good p∧V (bytes p)
theorem reads_gv {r ps} (h:Reads r ps) (hv:V r):∀p∈ps,GV p:=by
 induction h with
 | nil=>intro p q;cases q
 | @cons r p r' ps h hr ih=>
  have hb:=(stepQ_bytes h).1;rw[hb]at hv;obtain⟨v1,v2⟩:=V.cut _ (bytes p) r' (Nat.le_refl _) (reads_ascii hr) hv;intro q hq;rcases List.mem_cons.1 hq with rfl | hq
  ·exact⟨(unglue h).1,v1⟩
  ·exact ih v2 q hq
theorem semi_ends {x:SS} {t:Tok} (h:(Sc.semi x).l.getLast? =some t):ends t=false:=by
 unfold Sc.semi at h;split at h
 ·simp only[List.getLast?_append,List.getLast?_singleton,Option.some_or,Option.some.injEq]at h;subst h;rfl
 ·rename_i q;rw[h]at q;simpa using q
structure TI (x:SS):Prop where
 word:∀t∈x.l,t.kind=6∨GV (.tok t.kind t.text.data.toList)
 com:∀c∈x.c,GV (.com c.text.data.toList)
 next:∀c∈x.c,0≤c.next∧c.next≤x.l.length
 note:∀c∈x.c,∀(n:Nat) t,c.next=((n + 1:Nat):Int)→x.l[n]? =some t→ends t=false
theorem TI.push {x:SS} (h:TI x) {t:Tok} (ht:t.kind=6∨GV (.tok t.kind t.text.data.toList)) {a b:Int}:TI {x with l:=x.l ++ [t]} where
 word:=by
  intro u hu;simp only[List.mem_append,List.mem_singleton]at hu;rcases hu with q | rfl
  ·exact h.word u q
  ·exact ht
 com:=h.com
 next:=fun c hc=>by have:=h.next c hc;simp only[List.length_append,List.length_singleton];omega
 note:=fun c hc n u hn hu=>by
  have:=h.next c hc;rw[List.getElem?_append_left (by omega)]at hu;exact h.note c hc n u hn hu
theorem TI.semi {x:SS} (h:TI x):TI (Sc.semi x):=by
 unfold Sc.semi;split
 ·exact h.push (.inl rfl) (a:=0) (b:=0)
 ·exact h
theorem TI.at_ {x:SS} (h:TI x) (a b:Nat):TI {x with at_:=a,line:=b}:=⟨h.word,h.com,h.next,h.note⟩
theorem TI.ap {x:SS} (h:TI x) {p:Pc} (g:GV p):TI (ap x p):=by
 cases p with
 | sp b=>exact h.at_ _ _
 | nl=>exact h.semi.at_ _ _
 | tok k w=>exact(h.push (t:=⟨k,⟨w.toArray⟩,x.at_,x.line,false⟩) (.inr g) (a:=0) (b:=0)).at_ _ _
 | com w=>
  have g0:=h.semi;exact{
   word:=g0.word
   com:=by
    intro c hc;simp only[Pc.ap,List.mem_append,List.mem_singleton]at hc;rcases hc with q | rfl
    ·exact h.com c q
    ·exact g
   next:=by
    intro c hc;simp only[Pc.ap,List.mem_append,List.mem_singleton]at hc;rcases hc with q | rfl
    ·have ec:(Sc.semi x).c=x.c:=by unfold Sc.semi;split <;> rfl
     exact g0.next c (by rw[ec];exact q)
    ·simp only[Pc.ap];omega
   note:=by
    intro c hc n t hn ht;simp only[Pc.ap,List.mem_append,List.mem_singleton]at hc ht;rcases hc with q | rfl
    ·have ec:(Sc.semi x).c=x.c:=by unfold Sc.semi;split <;> rfl
     exact g0.note c (by rw[ec];exact q) n t hn ht
    ·simp only at hn;have e:(Sc.semi x).l.getLast? =some t:=by
      rw[List.getLast?_eq_getElem?,show(Sc.semi x).l.length - 1=n by omega];exact ht
     exact semi_ends e}
theorem reads_last {s:ByteArray} {ps:List Pc} (h:Reads s.data.toList ps):loopS s (s.size + 1) ss0=(ps.foldl ap ss0,-1):=h.loop (s.size + 1) ss0 rfl (Nat.zero_le _) (by show s.size < 0 +(s.size + 1);omega)
theorem scan_pieces {s:ByteArray} (hf:(scanP s).2.2 < 0):∃ps,Reads s.data.toList ps∧lastS s=ps.foldl ap ss0∧∀p∈ps,GV p:=by
 obtain⟨h1,h2,h3⟩:=scan_iff.1 hf;obtain⟨ps,hps⟩:=loop_reads (s:=s) (s.size + 1) ss0 s.data.toList rfl (Nat.zero_le _) (by show s.size < 0 +(s.size + 1);omega) h1;refine⟨ps,hps,?_,reads_gv hps h2⟩;unfold lastS;rw[reads_last hps]
theorem com_good {w:List UInt8}:Good (.com w)↔∃r,w=47::47::r∧(10:UInt8)∉r:=by
 constructor
 ·intro g;unfold Good at g;simp only[bytes]at g;cases w with
  | nil=>cases g
  | cons c w=>
   simp only[stepQ]at g;split at g
   ·cases g
   split at g
   ·cases g
   split at g
   ·rename_i n;simp only[Option.some.injEq,Prod.mk.injEq,Pc.com.injEq]at g;have ha:=nil_tw g.2;rw[Bool.and_eq_true,beq_iff_eq,beq_iff_eq]at n;cases w with
    | nil=>cases n.2
    | cons d w=>
     have hd:d=47:=by simpa using n.2
     refine⟨w,by rw[n.1,hd],?_⟩;rw[List.all_cons,List.all_cons,Bool.and_eq_true,Bool.and_eq_true,List.all_eq_true]at ha;intro h10;have:=ha.2.2 10 h10;simp at this
   split at g
   ·split at g <;> cases g
   split at g
   ·split at g <;> cases g
   split at g
   ·unfold textQ at g;simp only at g;split at g <;> cases g
   split at g
   ·cases g
   ·unfold opQ at g;split at g
    ·cases g
    ·split at g <;> cases g
 ·rintro⟨r,rfl,h⟩;unfold Good;simp only[bytes,stepQ];rw[if_neg (by decide),if_neg (by decide),if_pos (by rfl)];have ha:(47::47::r).all (fun b:UInt8=>b !=10)=true:=by
   rw[List.all_cons,List.all_cons,List.all_eq_true.2 (fun x hx=>by
    have:x≠10:=by rintro rfl;exact h hx
    simpa using this)]
   rfl
  have ht:=takeWhile_stop (fun b:UInt8=>b !=10) (47::47::r) [] ha (fun b q=>by cases q);rw[List.append_nil]at ht;rw[ht.1,ht.2]
def isBl (b:UInt8):Bool:= [32,9].contains b
end Pc
end Go.Proofs.Dm
set_option maxHeartbeats 4000000
namespace Go.Proofs.Dm
open Go Go.Proofs Go.Proofs.Dm.Sc
open Fo (isO zeroT LS nlB spB pad trimR)
open Pc (Sep GV V Reads)
namespace Rf
def flat (ps:List Pc):List UInt8:=(ps.map Pc.bytes).flatten
theorem flat_app (a b:List Pc):flat (a ++ b)=flat a ++ flat b:=by unfold flat;rw[List.map_append,List.flatten_append]
theorem flat_cons (p:Pc) (b:List Pc):flat (p::b)=Pc.bytes p ++ flat b:=rfl
theorem app_list (a b:ByteArray):(a ++ b).data.toList=a.data.toList ++ b.data.toList:=by simp
def Glue:List Pc→Prop
 | []=>True
 | p::ps=>Pc.Good p∧Sep p (flat ps).head? ∧Glue ps
theorem Glue.reads:∀{ps:List Pc},Glue ps→Reads (flat ps) ps
 | [],_=> .nil
 | p::ps,h=> .cons (Pc.glue h.1 h.2.1) (Glue.reads h.2.2)
def blankP:Pc→Bool
 | .sp b=>b==32 || b==9
 | .nl=>true
 | _=>false
theorem blank_good {p:Pc} (h:blankP p=true):GV p∧∀c,Sep p c:=by
 cases p with
 | sp b=>
  unfold blankP at h;rw[Bool.or_eq_true,beq_iff_eq,beq_iff_eq]at h;refine⟨⟨?_,?_⟩,fun c=>True.intro⟩
  ·rcases h with rfl | rfl <;> rfl
  ·exact Pc.V.one (by rcases h with h | h <;> simp[h])
 | nl=>exact⟨⟨rfl,Pc.V.one (by simp)⟩,fun c=>True.intro⟩
 | com w=>cases h
 | tok k w=>cases h
theorem op2_key:ops.all (fun x=>x.toList.length !=2 ||((x.toList.getD 1 0==61&& [58,61,33].contains (x.toList.getD 0 0))||(x.toList.getD 1 0==38&&x.toList.getD 0 0==38)||(x.toList.getD 1 0==124&&x.toList.getD 0 0==124)))=true:=by kernel_rfl
theorem op2 {a b:UInt8} (h:isIn ops ⟨#[a,b]⟩=true):(b=61∧(a=58∨a=61∨a=33))∨(b=38∧a=38)∨(b=124∧a=124):=by
 simp only[isIn,List.any_eq_true,eqB,beq_iff_eq]at h;obtain⟨o,ho,he⟩:=h;have h4:=List.all_eq_true.1 op2_key o ho;rw[←he,Lib.toList_data]at h4;simp at h4;rcases h4 with (h | h)| h
 ·exact .inl ⟨h.1,h.2⟩
 ·exact .inr (.inl h)
 ·exact .inr (.inr h)
def plainB (b:UInt8):Bool:= !(wordB b)&& !(digit b)&& !(letter b)&&b !=61&&b !=38&&b !=124
theorem sep_plain {k:Int} {w:List UInt8} {b:UInt8} (h:plainB b=true):Sep (.tok k w) (some b):=by
 unfold plainB at h;simp only[Bool.and_eq_true,Bool.not_eq_true',bne_iff_ne]at h;obtain⟨⟨⟨⟨⟨h1,h2⟩,h3⟩,h4⟩,h5⟩,h6⟩:=h;intro c hc;cases hc;refine⟨fun _=>h1,fun _=>⟨h2,h3⟩,fun _ a _=> ?_⟩;rw[Bool.eq_false_iff];intro q;rcases op2 q with q | q | q
 ·exact h4 q.1
 ·exact h5 q.1
 ·exact h6 q.1
end Rf
end Go.Proofs.Dm
set_option maxHeartbeats 4000000
namespace Go.Proofs.Dm
open Go Go.Proofs Go.Proofs.Dm.Sc
open Fo (isO zeroT LS nlB spB pad trimR)
open Pc (Sep GV V Reads)
open Gr (ss0 lastS tokAt isBang noEq)
namespace Rf
variable {l:List Tok} {cs:List Com} {src:List ByteArray}
theorem good_ne {p:Pc} (g:Pc.Good p):∃b r,Pc.bytes p=b::r:=by
 unfold Pc.Good at g;cases h:Pc.bytes p with
 | nil=>rw[h]at g;cases g
 | cons b r=>exact⟨b,r,rfl⟩
theorem head_flat {p:Pc} (g:Pc.Good p) (ps:List Pc):(flat (p::ps)).head? =(Pc.bytes p).head? :=by
 obtain⟨b,r,h⟩:=good_ne g;rw[flat_cons,h];rfl
theorem flat_v:∀(ps:List Pc),(∀p∈ps,GV p)→V (flat ps)
 | [],h=> .nil
 | p::ps,h=>by
  rw[flat_cons];exact Pc.V.app (h p (by simp)).2 (flat_v ps fun q hq=>h q (by simp[hq]))
end Rf
end Go.Proofs.Dm
set_option maxHeartbeats 4000000
namespace Go.Proofs.Dm
open Go Go.Proofs Go.Proofs.Dm.Sc
open Fo (isO zeroT LS nlB spB pad trimR valueT)
open Pc (Sep GV V Reads)
open Gr (ss0 lastS tokAt isBang noEq keyT canR sameT SemAt LI)
namespace Rf
variable {l l':List Tok} {src:List ByteArray}
def lastE (y:SS):Bool:=y.l.getLast?.any ends
theorem semi_def (y:SS):(Sc.semi y).l=if lastE y then y.l ++ [⟨6,⟨#[59]⟩,y.at_,y.line,true⟩]else y.l:=by
 unfold Sc.semi lastE;split <;> rfl
theorem semi_last (y:SS):lastE (Sc.semi y)=false:=by
 unfold lastE;cases h:(Sc.semi y).l.getLast? with
 | none=>rfl
 | some t=>exact Pc.semi_ends h
def nw (a:List Tok):Nat:=(a.filter fun t=>t.kind !=6).length
def Rel (a b:List Tok):Prop:=(a= []∧b= [])∨∃t u,a.getLast? =some t∧b.getLast? =some u∧(sameT t u∨(t.kind=6∧(u.kind=6∨isO u [123]=true)))
theorem ends_same {t u:Tok} (h:sameT t u):ends t=ends u:=by
 unfold ends
 by_cases q:t.kind=6
 ·rw[←h.1,q];rfl
 ·rw[h.1,h.2 q]
def dull (u:Tok):Prop:=u.kind=6∨isO u [123]=true
theorem take_last {i:Nat} (h0:0 < i) (hi:i≤l.length):(l.take i).getLast? =some (tk l (i - 1)):=by
 rw[List.getLast?_eq_getElem?,List.length_take,Nat.min_eq_left hi,List.getElem?_take,if_pos (by omega),List.getElem?_eq_getElem (by omega)];unfold tk;rw[List.getElem?_eq_getElem (by omega)];rfl
theorem last_tk {b:List Tok} {u:Tok} (h:b.getLast? =some u):1≤b.length∧tk b (b.length - 1)=u:=by
 rw[List.getLast?_eq_getElem?]at h;have:b.length - 1 < b.length:=by
  rcases Nat.lt_or_ge (b.length - 1) b.length with q | q
  ·exact q
  ·rw[List.getElem?_eq_none q]at h;cases h
 refine⟨by omega,?_⟩;unfold tk;rw[h];rfl
theorem Rel.ahead {i:Nat} {b:List Tok} (h:Rel (l.take i) b) (hi:i≤l.length) (f:Tok→Bool) (hf:∀t u,sameT t u→f t=f u) (hd:∀u,dull u→f u=false):
  f (if 1≤i then tk l (i - 1)else zeroT)=f (if 1≤b.length then tk b (b.length - 1)else zeroT)∧(decide (0 < i)&&f (tk l (i - 1)))=(decide (0 < b.length)&&f (tk b (b.length - 1))):=by
 rcases h with ⟨h1,h2⟩ | ⟨t,u,h1,h2,h3⟩
 ·have:i=0:=by
   have:=congrArg List.length h1;simp only[List.length_take,List.length_nil]at this;rcases Nat.eq_zero_or_pos i with q | q
   ·exact q
   ·have:l.length=0:=by omega
    omega
  subst this;subst h2;exact⟨rfl,rfl⟩
 ·have h0:0 < i:=by
   rcases Nat.eq_zero_or_pos i with q | q
   ·subst q;rw[List.take_zero]at h1;cases h1
   ·exact q
  rw[take_last h0 hi]at h1;cases h1;obtain⟨g1,g2⟩:=last_tk h2;rw[if_pos (by omega),if_pos g1,g2,decide_eq_true h0,decide_eq_true (by omega:0 < b.length),Bool.true_and,Bool.true_and];have e:f (tk l (i - 1))=f u:=by
   rcases h3 with h3 | ⟨h3,h4⟩
   ·exact hf _ _ h3
   ·rw[hd _ (.inl h3),hd _ h4]
  exact⟨e,e⟩
end Rf
end Go.Proofs.Dm
set_option maxHeartbeats 4000000
namespace Go.Proofs.Dm
open Go Go.Proofs Go.Proofs.Dm.Sc
open Fo (isO zeroT LS nlB spB pad trimR valueT spaceT)
open Pc (Sep GV V Reads)
open Gr (ss0 lastS tokAt isBang noEq keyT canR sameT SemAt LI)
namespace Rf
variable {l l':List Tok} {cs:List Com} {src src':List ByteArray}
theorem semi_c (y:SS):(Sc.semi y).c=y.c:=by unfold Sc.semi;split <;> rfl
theorem lastE_l {y z:SS} (h:y.l=z.l):lastE y=lastE z:=by unfold lastE;rw[h]
theorem semi2 {y z:SS} (h:z.l=(Sc.semi y).l):(Sc.semi z).l=(Sc.semi y).l:=by
 rw[semi_def,lastE_l h,semi_last];exact h
def one (y:SS):Pc→List It
 | .com w=> [comI ⟨⟨w.toArray⟩,y.at_,y.line,(Sc.semi y).l.length⟩]
 | .tok k w=>if k !=6&&k !=7 then [tokI y.l.length ⟨k,⟨w.toArray⟩,y.at_,y.line,false⟩]else []
 | _=> []
inductive SE (l l':List Tok) (src src':List ByteArray):Option It→Option It→List It→List It→Prop
 | nil {p p'}:SE l l' src src' p p' [] []
 | cons {p p' x x' xs xs'} (hs:sepR l src p x=sepR l' src' p' x') (ht:textR l x=textR l' x') (hc:x.com=x'.com) (hn:nw (l.take x.tok.toNat)=nw (l'.take x'.tok.toNat)) (h:SE l l' src src' (some x) (some x') xs xs'):SE l l' src src' p p' (x::xs) (x'::xs')
theorem SE.out {p p':Option It} {xs xs':List It} (h:SE l l' src src' p p' xs xs'):∀o,outR l src p xs o=outR l' src' p' xs' o:=by
 induction h with
 | nil=>intro o;rfl
 | @cons p p' x x' xs xs' hs ht hc hn h ih=>
  intro o;show outR l src (some x) xs (o ++ sepR l src p x ++ textR l x)=outR l' src' (some x') xs' (o ++ sepR l' src' p' x' ++ textR l' x');rw[hs,ht,ih]
theorem spl_nl (v:List UInt8):Gr.spl (10::v)= []::Gr.spl v:=Gr.spl_app [] v (by simp)
theorem spl_other {c:UInt8} (h:c≠10) (v:List UInt8):Gr.spl (c::v)=match Gr.spl v with
  | g::t=>(c::g)::t
  | []=> [[c]]:=by
 conv=>lhs;unfold Gr.spl
 rw[if_neg h];try(cases Gr.spl v <;> rfl)
theorem happ:∀u v:List UInt8,Gr.spl (u ++ 10::v)=Gr.spl u ++ Gr.spl v
 | [],v=>by rw[List.nil_append,spl_nl];rfl
 | c::u,v=>by
  rw[List.cons_append]
  by_cases h:c=10
  ·subst h;rw[spl_nl,spl_nl,happ u v];rfl
  ·rw[spl_other h,spl_other h,happ u v];cases hu:Gr.spl u with
   | nil=>exact absurd hu (Gr.spl_ne u)
   | cons g t=>rfl
end Rf
end Go.Proofs.Dm
set_option maxHeartbeats 4000000
namespace Go.Proofs.Dm
open Go Go.Proofs Go.Proofs.Dm.Sc
open Fo (isO zeroT LS nlB spB pad trimR valueT spaceT linesP)
open Pc (Sep GV V Reads)
open Gr (ss0 lastS tokAt isBang noEq keyT canR sameT SemAt LI)
namespace Rf
variable {l l':List Tok} {cs:List Com} {src src':List ByteArray}
end Rf
end Go.Proofs.Dm
set_option maxHeartbeats 4000000
namespace Go.Proofs.Dm
open Go Go.Proofs Go.Proofs.Dm.Sc
open Fo (isO zeroT LS nlB spB pad trimR valueT spaceT linesP)
open Pc (Sep GV V Reads)
open Gr (ss0 lastS tokAt isBang noEq keyT canR sameT SemAt LI)
namespace Rf
variable {l l':List Tok} {cs:List Com} {src src':List ByteArray}
end Rf
end Go.Proofs.Dm

set_option linter.unusedSimpArgs false
set_option linter.unusedVariables false
set_option maxHeartbeats 16000000
set_option maxRecDepth 100000
namespace Go.Proofs.Dm
open Go Go.Proofs Go.Proofs.Tryz Go.Proofs.Dm.Sc
namespace Rf
attribute [local simp] encT encC takes handsOn isTmp Op.operands Call.operands
def cutA (s:ByteArray) (n:Nat):ByteArray:=if n < s.size then s.extract 0 n else s
theorem cutA_size (s:ByteArray) (n:Nat):(cutA s n).size≤n:=by
 unfold cutA;split
 ·simp;omega
 ·omega
theorem cutA_ok {W0 nb s} {n:Nat} (hn:n < 1000000):DCalls ⟨Tryz.prog,W0,nb⟩ 22 [.p (.str s),i64 (n:Nat)] [] (.p (.str (cutA s n))) []:=by
 refine dcalls_end Tryz.func22 rfl (by kernel_rfl) 13 Tryz.ntmps22 #[.tmp 4] rfl (Nat.le_of_ble_eq_true rfl) ?_;simp
 by_cases h:n < s.size
 ·simp[h,cutA,Nat.le_of_lt h];exact .keep (by simp) (.refl _) (by simp) (by simp) (by simp) (by simp)
 ·simp[h,cutA];exact .keep (by simp) (.refl _) (by simp) (by simp) (by simp) (by simp)
end Rf
end Go.Proofs.Dm

set_option linter.unusedSimpArgs false
set_option linter.unusedVariables false
set_option maxHeartbeats 4000000
namespace Go.Proofs.Dm
open Go Go.Proofs Go.Proofs.Dm.Sc
open Fo (isO zeroT nlB trimR linesP)
namespace Rf
theorem spl_snoc:∀p:List UInt8,Gr.spl (p ++ [10])=Gr.spl p ++ [[]]
 | []=>rfl
 | c::p=>by
  have ih:=spl_snoc p;show Gr.spl (c::(p ++ [10]))=_;unfold Gr.spl;split
  ·rw[ih];rfl
  ·rw[ih];cases hp:Gr.spl p with
   | nil=>exact absurd hp (Gr.spl_ne p)
   | cons h t=>rfl
theorem ends_suffix (s:ByteArray):Lib.hasSuffix s.data.toList [10]=endsNl s:=by
 unfold endsNl;rw[ba_get,ba_size,←List.getLast?_eq_getElem?];generalize s.data.toList=r;rcases List.eq_nil_or_concat r with rfl | ⟨q,b,rfl⟩
 ·rfl
 ·rw[List.concat_eq_append,List.getLast?_append,List.getLast?_singleton];simp only[Option.some_or];rw[Bool.eq_iff_iff,beq_iff_eq];unfold Lib.hasSuffix;simp;exact eq_comm
theorem chop_lines {s:ByteArray} (h:endsNl s=true):(linesP s).dropLast=linesP (La.chop s):=by
 rw[←ends_suffix]at h;apply Gr.map_data_inj;rw[List.map_dropLast,Gr.lines_spl,Gr.lines_spl];unfold La.chop Lib.trimSuffix;rw[if_pos h];have hs:s.data.toList.isSuffixOf [10]=s.data.toList.isSuffixOf [10]:=rfl;obtain⟨p,hp⟩:∃p,s.data.toList=p ++ [10]:=by
  have h':endsNl s=true:=by rw[←ends_suffix];exact h
  unfold endsNl at h';rw[ba_get,ba_size,←List.getLast?_eq_getElem?]at h';generalize s.data.toList=r at h';rcases List.eq_nil_or_concat r with rfl | ⟨q,b,rfl⟩
  ·simp at h'
  ·rw[List.concat_eq_append,List.getLast?_append,List.getLast?_singleton]at h';simp only[Option.some_or,beq_iff_eq]at h';subst h';exact⟨q,by rw[List.concat_eq_append]⟩
 rw[hp,spl_snoc];simp
end Rf
end Go.Proofs.Dm
set_option maxHeartbeats 4000000
namespace Go.Proofs.Dm
open Go Go.Proofs Go.Proofs.Dm.Sc
open Fo (isO zeroT LS nlB spB pad trimR valueT spaceT linesP)
open Pc (Sep GV V Reads isBl)
open Gr (ss0 lastS tokAt isBang noEq keyT canR sameT SemAt LI)
namespace Rf
variable {l l':List Tok} {cs:List Com} {src src':List ByteArray}
theorem ops_shape:ops.all (fun x=> !(x.toList.contains 10)&& !(x.toList.contains 9)&& !(x.toList.contains 32)&&(x.toList.head? !=some 125 || x.toList== [125]))=true:=by kernel_rfl
theorem op_shape {w:List UInt8} (h:isIn ops ⟨w.toArray⟩=true):(10:UInt8)∉w∧(9:UInt8)∉w∧(32:UInt8)∉w∧(w.head? =some 125→w= [125]):=by
 simp only[isIn,List.any_eq_true,eqB,beq_iff_eq]at h;obtain⟨o,ho,he⟩:=h;have h4:=List.all_eq_true.1 ops_shape o ho;rw[←he,Lib.toList_data]at h4;simp at h4;obtain⟨⟨⟨h1,h2⟩,h3⟩,h5⟩:=h4;refine⟨h1,h2,h3,fun q=> ?_⟩;rcases h5 with h5 | h5
 ·exact absurd q (by simpa using h5)
 ·exact h5
def Shape (k:Int) (w:List UInt8):Prop:=∃c r,w=c::r∧c≠9∧c≠32∧(10:UInt8)∉w∧(∀b,w.getLast? =some b→isBl b=false)∧(c=125→w= [125]∧k=4)
theorem shape_all {k:Int} {p:UInt8→Bool} {c:UInt8} {r:List UInt8} (h:(c::r).all p=true) (h1:p 9=false) (h2:p 10=false) (h3:p 32=false) (h4:p 125=false):Shape k (c::r):=by
 rw[List.all_eq_true]at h;have ne:∀b∈c::r,∀d,p d=false→b≠d:=fun b hb d hd q=>by
  have:=h b hb;rw[q,hd]at this;cases this
 refine⟨c,r,rfl,ne c (by simp) 9 h1,ne c (by simp) 32 h3,fun q=>ne 10 q 10 h2 rfl,fun b hb=> ?_,fun q=>absurd q (ne c (by simp) 125 h4)⟩;have hm:=List.mem_of_getLast? hb;have n1:=ne b hm 9 h1;have n2:=ne b hm 32 h3;unfold Pc.isBl;simp[n1,n2]
theorem tok_shape {k:Int} {w:List UInt8} (g:Pc.Good (.tok k w)):Shape k w:=by
 unfold Pc.Good at g;simp only[Pc.bytes]at g;cases w with
 | nil=>cases g
 | cons c r=>
  simp only[Pc.stepQ]at g;split at g
  ·cases g
  split at g
  ·cases g
  split at g
  ·cases g
  split at g
  ·split at g
   ·cases g
   ·simp only[Option.some.injEq,Prod.mk.injEq]at g;exact shape_all (Pc.nil_tw g.2) (by decide) (by decide) (by decide) (by decide)
  split at g
  ·split at g
   ·cases g
   ·simp only[Option.some.injEq,Prod.mk.injEq]at g;exact shape_all (Pc.nil_tw g.2) (by decide) (by decide) (by decide) (by decide)
  split at g
  ·rename_i hq;have hc:c=34:=by
    have:=Pc.nat_eq (n:=34) hq;apply UInt8.toNat_inj.1;exact this
   unfold Pc.textQ at g;simp only at g;split at g
   ·simp only[Option.some.injEq,Prod.mk.injEq,Pc.tok.injEq,List.cons.injEq,true_and]at g;have hall:=Pc.all_takeWhile (fun b:UInt8=>b !=34&&b !=10) r;rw[List.all_eq_true]at hall;obtain⟨⟨_,e⟩,_⟩:=g;generalize r.takeWhile (fun b:UInt8=>b !=34&&b !=10)=v at *;subst hc;refine⟨34,r,rfl,by decide,by decide,fun q=> ?_,fun b hb=> ?_,fun q=>absurd q (by decide)⟩
    ·rw[←e]at q;simp only[List.mem_cons,List.mem_append,List.not_mem_nil,or_false]at q;rcases q with q | q | q
     ·cases q
     ·have:=hall 10 q;simp at this
     ·cases q
    ·rw[←e,List.getLast?_cons,List.getLast?_append,List.getLast?_singleton]at hb;simp at hb;rw[←hb];decide
   ·cases g
  split at g
  ·rename_i hs;have hc:c=59:=by
    have:=Pc.nat_eq (n:=59) hs;apply UInt8.toNat_inj.1;exact this
   simp only[Option.some.injEq,Prod.mk.injEq,Pc.tok.injEq,List.cons.injEq,true_and]at g;rw[hc,←g.1.2];exact⟨59,[],rfl,by decide,by decide,by decide,fun b hb=>by cases hb;decide,fun q=>absurd q (by decide)⟩
  ·have key:∀w:List UInt8,w=c::r→isIn ops ⟨w.toArray⟩=true→k=4→Shape k (c::r):=by
    intro w hw hi h4;obtain⟨s1,s2,s3,s4⟩:=op_shape hi;rw[hw]at s1 s2 s3 s4;refine⟨c,r,rfl,fun q=>s2 (by simp[q]),fun q=>s3 (by simp[q]),s1,fun b hb=> ?_,fun q=>⟨s4 (by rw[q];rfl),h4⟩⟩;have hm:=List.mem_of_getLast? hb;have n1:b≠9:=by rintro rfl;exact s2 hm
    have n2:b≠32:=by rintro rfl;exact s3 hm
    unfold Pc.isBl;simp[n1,n2]
   unfold Pc.opQ at g;split at g
   ·rename_i ho;cases r with
    | nil=>cases ho
    | cons d r=>
     simp only[Option.some.injEq,Prod.mk.injEq,Pc.tok.injEq,List.take_succ_cons,List.take_zero,List.drop_succ_cons,List.drop_zero]at g;exact key [c,d] (by rw[g.1.2]) ho g.1.1.symm
   ·split at g
    ·rename_i hi;simp only[Option.some.injEq,Prod.mk.injEq,Pc.tok.injEq]at g;exact key [c] (by rw[g.1.2]) hi g.1.1.symm
    ·cases g
def At (y:SS):Prop:=∀t∈y.l,t.at_≤(y.at_:Int)
end Rf
end Go.Proofs.Dm
set_option maxHeartbeats 4000000
namespace Go.Proofs.Dm
open Go Go.Proofs Go.Proofs.Dm.Sc
open Fo (isO zeroT LS nlB spB pad trimR valueT spaceT linesP)
open Pc (Sep GV V Reads isBl)
open Gr (ss0 lastS tokAt isBang noEq keyT canR sameT SemAt LI)
namespace Rf
variable {l l':List Tok} {cs:List Com} {src src':List ByteArray}
end Rf
end Go.Proofs.Dm

set_option linter.unusedSimpArgs false
set_option linter.unusedVariables false
set_option maxHeartbeats 4000000
namespace Go.Proofs.Dm
open Go Go.Proofs Go.Proofs.Dm.Sc
open Fo (isO zeroT LS nlB spB pad trimR valueT spaceT linesP)
open Pc (Sep GV V Reads isBl)
open Gr (ss0 lastS tokAt isBang noEq keyT canR sameT SemAt LI)
namespace Rf
variable {l l':List Tok} {cs cs':List Com} {src src':List ByteArray}
def nat4 (t:Tok):Int×ByteArray×Int×Bool:=(t.kind,t.text,t.line,t.auto)
def natc (c:Com):ByteArray×Int×Int:=(c.text,c.line,c.next)
structure Tw (y z:SS):Prop where
 l:y.l.map nat4=z.l.map nat4
 c:y.c.map natc=z.c.map natc
 line:y.line=z.line
theorem nat_ends {t u:Tok} (h:nat4 t=nat4 u):ends t=ends u:=by
 unfold nat4 at h;simp only[Prod.mk.injEq]at h;unfold ends;rw[h.1,h.2.1]
theorem Tw.lastE {y z:SS} (h:Tw y z):Rf.lastE y=Rf.lastE z:=by
 have e:=congrArg List.getLast? h.l;rw[List.getLast?_map,List.getLast?_map]at e;unfold Rf.lastE;cases h1:y.l.getLast? with
 | none=>
  rw[h1]at e;cases h2:z.l.getLast? with
  | none=>rfl
  | some u=>rw[h2]at e;cases e
 | some t=>
  rw[h1]at e;cases h2:z.l.getLast? with
  | none=>rw[h2]at e;cases e
  | some u=>
   rw[h2]at e;simp only[Option.map_some,Option.some.injEq]at e;exact nat_ends e
theorem Tw.len {y z:SS} (h:Tw y z):y.l.length=z.l.length:=by
 have:=congrArg List.length h.l;simpa using this
theorem Tw.semi {y z:SS} (h:Tw y z):Tw (Sc.semi y) (Sc.semi z):=by
 have e1:(Sc.semi y).line=y.line:=by rw[semi_line]
 have e2:(Sc.semi z).line=z.line:=by rw[semi_line]
 refine⟨?_,by rw[semi_c,semi_c];exact h.c,by rw[e1,e2];exact h.line⟩;rw[semi_def,semi_def,←h.lastE];split
 ·rw[List.map_append,List.map_append,h.l];simp only[List.map_cons,List.map_nil,nat4,h.line]
 ·exact h.l
theorem Tw.ap {y z:SS} (h:Tw y z) (q:Pc):Tw (Pc.ap y q) (Pc.ap z q):=by
 cases q with
 | sp b=>exact⟨h.l,h.c,h.line⟩
 | nl=>
  have g:=h.semi;exact⟨g.l,g.c,by show y.line + 1=z.line + 1;rw[h.line]⟩
 | com w=>
  have g:=h.semi;refine⟨g.l,?_,by show(Sc.semi y).line=(Sc.semi z).line;exact g.line⟩;show(y.c ++ [_]).map natc=(z.c ++ [_]).map natc;rw[List.map_append,List.map_append,h.c];simp only[List.map_cons,List.map_nil,natc,h.line,g.len]
 | tok k w=>
  refine⟨?_,h.c,h.line⟩;show(y.l ++ [_]).map nat4=(z.l ++ [_]).map nat4;rw[List.map_append,List.map_append,h.l];simp only[List.map_cons,List.map_nil,nat4,h.line]
inductive Ins:List Pc→List Pc→Prop where
 | nil:Ins [] []
 | same {p ps qs} (h:Ins ps qs):Ins (p::ps) (p::qs)
 | blank {b ps qs} (hb:isBl b=true) (h:Ins ps qs):Ins ps (.sp b::qs)
theorem Ins.fold {ps qs:List Pc} (h:Ins ps qs):∀{y z:SS},Tw y z→Tw (ps.foldl Pc.ap y) (qs.foldl Pc.ap z):=by
 induction h with
 | nil=>intro y z g;exact g
 | same h ih=>intro y z g;exact ih (g.ap _)
 | blank hb h ih=>intro y z g;exact ih (y:=y) ⟨g.l,g.c,g.line⟩
theorem Tw.ended {y z:SS} (h:Tw y z):(Sc.ended y).map nat4=(Sc.ended z).map nat4:=by
 have g:=h.semi;unfold Sc.ended;rw[List.map_append,List.map_append,g.l];simp only[List.map_cons,List.map_nil,nat4,g.line]
theorem Tw.rfl' {y:SS}:Tw y y:=⟨rfl,rfl,rfl⟩
def nb (r:List UInt8):List UInt8:=r.filter fun b=> !isBl b
theorem nb_app (a b:List UInt8):nb (a ++ b)=nb a ++ nb b:=List.filter_append ..
theorem Ins.nb {ps qs:List Pc} (h:Ins ps qs):Rf.nb (flat ps)=Rf.nb (flat qs):=by
 induction h with
 | nil=>rfl
 | same h ih=>rw[flat_cons,flat_cons,nb_app,nb_app,ih]
 | @blank b ps qs hb h ih=>
  rw[flat_cons,nb_app,ih];have:Rf.nb (Pc.bytes (.sp b))= []:=by
   show List.filter _ [b]= [];rw[List.filter_cons,hb];rfl
  rw[this];rfl
theorem reads_glue {r:List UInt8} {ps:List Pc} (h:Reads r ps):Glue ps:=by
 induction h with
 | nil=>exact True.intro
 | @cons r p r' ps h hr ih=>
  obtain⟨g1,g2⟩:=Pc.unglue h;rw[hr.bytes]at g2;exact⟨g1,g2,ih⟩
end Rf
end Go.Proofs.Dm
set_option maxHeartbeats 4000000
namespace Go.Proofs.Dm
open Go Go.Proofs Go.Proofs.Dm.Sc
open Fo (isO zeroT LS nlB spB pad trimR valueT spaceT linesP)
open Pc (Sep GV V Reads isBl)
open Gr (ss0 lastS tokAt isBang noEq keyT canR sameT SemAt LI)
namespace Rf
variable {l l':List Tok}
end Rf
end Go.Proofs.Dm

set_option linter.unusedSimpArgs false
set_option linter.unusedVariables false
set_option maxHeartbeats 16000000
set_option maxRecDepth 100000
namespace Go.Proofs.Dm
open Go Go.Proofs Go.Proofs.Tryz Go.Proofs.Dm.Sc
open Gr (ss0 lastS keyT)
open Pc (Reads GV Sep V)
namespace Rf
attribute [local simp] encT encC takes handsOn isTmp Op.operands Call.operands
inductive InN:List Pc→List Pc→Prop where
 | nil:InN [] []
 | nl {ps qs} (h:InN ps qs):InN (.nl::ps) (.sp 32:: .sp 9:: .nl::qs)
 | com {w ps qs} (h:InN ps qs):InN (.com w:: .nl::ps) (.com (w ++ [32,9]):: .nl::qs)
 | last {w}:InN [.com w] [.com w]
 | sp {b ps qs} (h:InN ps qs):InN (.sp b::ps) (.sp b::qs)
 | tok {k w ps qs} (h:InN ps qs):InN (.tok k w::ps) (.tok k w::qs)
def tr (r:List UInt8):List UInt8:=r.flatMap fun b=>if b=10 then [32,9,10]else [b]
theorem tr_app (a b:List UInt8):tr (a ++ b)=tr a ++ tr b:=List.flatMap_append ..
theorem tr_id:∀r:List UInt8,(10:UInt8)∉r→tr r=r
 | [],h=>rfl
 | c::r,h=>by
  simp only[List.mem_cons,not_or]at h;show(if c=10 then [32,9,10]else [c])++ tr r=_;rw[if_neg (fun e=>h.1 e.symm),tr_id r h.2];rfl
theorem sp_good {b:UInt8} (g:Pc.Good (.sp b)):b≠10:=by
 rintro rfl;unfold Pc.Good at g;simp only[Pc.bytes,Pc.stepQ]at g;rw[if_pos (by decide)]at g;cases g
theorem com_no10 {w:List UInt8} (g:Pc.Good (.com w)):(10:UInt8)∉w:=by
 obtain⟨r,hr,h⟩:=Pc.com_good.1 g;rw[hr];simp only[List.mem_cons,not_or];exact⟨by decide,by decide,h⟩
theorem tok_no10 {k:Int} {w:List UInt8} (g:Pc.Good (.tok k w)):(10:UInt8)∉w:=by
 obtain⟨c,r,hw,_,_,h,_⟩:=tok_shape g;exact h
theorem InN.flat {ps qs:List Pc} (h:InN ps qs):(∀p∈ps,GV p)→Rf.flat qs=tr (Rf.flat ps):=by
 induction h with
 | nil=>intro g;rfl
 | @nl ps qs h ih=>
  intro g;have e:Rf.flat (.nl::ps)= [10] ++ Rf.flat ps:=rfl;rw[e,tr_app,←ih fun p hp=>g p (by simp[hp])];rfl
 | @com w ps qs h ih=>
  intro g;have e:Rf.flat (.com w:: .nl::ps)=w ++([10] ++ Rf.flat ps):=rfl;rw[e,tr_app,tr_app,←ih fun p hp=>g p (by simp[hp]),tr_id w (com_no10 (g (.com w) (by simp)).1)];show(w ++ [32,9])++([10] ++ Rf.flat qs)=w ++([32,9,10] ++ Rf.flat qs);rw[List.append_assoc];rfl
 | @last w=>
  intro g;show w ++ []=tr (w ++ []);rw[List.append_nil,tr_id w (com_no10 (g _ (by simp)).1)]
 | @sp b ps qs h ih=>
  intro g;rw[flat_cons,flat_cons,tr_app,←ih fun p hp=>g p (by simp[hp])];have hb:=sp_good (g _ (by simp:Pc.sp b∈Pc.sp b::ps)).1;show [b] ++ _=tr [b] ++ _;rw[tr_id [b] (by simpa using hb.symm)]
 | @tok k w ps qs h ih=>
  intro g;rw[flat_cons,flat_cons,tr_app,←ih fun p hp=>g p (by simp[hp])];show w ++ _=tr w ++ _;rw[tr_id w (tok_no10 (g (.tok k w) (by simp)).1)]
theorem good_nl {p:Pc} (g:Pc.Good p) (h:(Pc.bytes p).head? =some 10):p= .nl:=by
 unfold Pc.Good at g;cases hb:Pc.bytes p with
 | nil=>rw[hb]at h;cases h
 | cons c r=>
  rw[hb]at g h;cases h;simp only[Pc.stepQ]at g;rw[if_pos (by decide)]at g;simp only[Option.some.injEq,Prod.mk.injEq]at g;exact g.1.symm
theorem inN_ok:∀(n:Nat) (ps:List Pc),ps.length≤n→Glue ps→(∀p∈ps,GV p)→∃qs,InN ps qs∧Glue qs∧(∀q∈qs,GV q)∧((Rf.flat qs).head? =(Rf.flat ps).head? ∨((Rf.flat ps).head? =some 10∧(Rf.flat qs).head? =some 32))
 | _,[],_,h,g=>⟨[],.nil,True.intro,g,.inl rfl⟩
 | 0,_::_,hn,_,_=>by simp at hn
 | n + 1,p::ps,hn,h,g=>by
  have hlen:ps.length≤n:=by simp only[List.length_cons]at hn;omega
  obtain⟨h1,h2,h3⟩:=h;have gp:=g p (by simp);have b32:=blank_good (p:= .sp 32) rfl;have b9:=blank_good (p:= .sp 9) rfl;have bnl:=blank_good (p:= .nl) rfl;cases p with
  | nl=>
   obtain⟨qs,i1,i2,i3,i4⟩:=inN_ok n ps hlen h3 fun q hq=>g q (by simp[hq])
   refine⟨_,.nl i1,⟨b32.1.1,b32.2 _,b9.1.1,b9.2 _,bnl.1.1,bnl.2 _,i2⟩,fun q hq=> ?_,.inr ⟨rfl,rfl⟩⟩;simp only[List.mem_cons]at hq;rcases hq with rfl | rfl | rfl | hq
   ·exact b32.1
   ·exact b9.1
   ·exact bnl.1
   ·exact i3 q hq
  | sp b=>
   obtain⟨qs,i1,i2,i3,i4⟩:=inN_ok n ps hlen h3 fun q hq=>g q (by simp[hq])
   refine⟨_,.sp i1,⟨h1,True.intro,i2⟩,fun q hq=> ?_,.inl rfl⟩;rcases List.mem_cons.1 hq with rfl | hq
   ·exact gp
   ·exact i3 q hq
  | tok k w=>
   obtain⟨qs,i1,i2,i3,i4⟩:=inN_ok n ps hlen h3 fun q hq=>g q (by simp[hq])
   refine⟨_,.tok i1,⟨h1,?_,i2⟩,fun q hq=> ?_,.inl (by rw[head_flat h1,head_flat h1])⟩
   ·rcases i4 with i4 | ⟨_,i4⟩
    ·rw[i4];exact h2
    ·rw[i4];exact sep_plain (by decide)
   ·rcases List.mem_cons.1 hq with rfl | hq
    ·exact gp
    ·exact i3 q hq
  | com w=>
   cases ps with
   | nil=>exact⟨_,.last,⟨h1,h2,True.intro⟩,g,.inl rfl⟩
   | cons p2 ps=>
    obtain⟨b,r,hb⟩:=good_ne h3.1;have hb10:b=10:=h2 b (by rw[head_flat h3.1,hb];rfl);have e2:=good_nl h3.1 (by rw[hb,hb10];rfl);subst e2;obtain⟨qs,i1,i2,i3,i4⟩:=inN_ok n ps (by simp only[List.length_cons]at hlen;omega) h3.2.2 fun q hq=>g q (by simp[hq])
    obtain⟨r2,hr2,h10⟩:=Pc.com_good.1 h1;have gnew:GV (.com (w ++ [32,9])):=by
     refine⟨Pc.com_good.2 ⟨r2 ++ [32,9],by rw[hr2];rfl,?_⟩,?_⟩
     ·rw[List.mem_append];rintro(q | q)
      ·exact h10 q
      ·simp at q
     ·have v1:=gp.2;exact Pc.V.app v1 (Pc.V.app (Pc.V.one (b:=32) (by simp)) (Pc.V.one (b:=9) (by simp)))
    refine⟨_,.com i1,⟨gnew.1,(fun c hc=>by cases hc;rfl),bnl.1.1,bnl.2 _,i2⟩,fun q hq=> ?_,.inl ?_⟩
    ·simp only[List.mem_cons]at hq;rcases hq with rfl | rfl | hq
     ·exact gnew
     ·exact bnl.1
     ·exact i3 q hq
    ·rw[head_flat gnew.1,head_flat h1];show(w ++ [32,9]).head? =w.head?;rw[hr2];rfl
def Tk (y z:SS):Prop:=y.l.map keyT=z.l.map keyT
theorem Tk.semi {y z:SS} (h:Tk y z):Tk (Sc.semi y) (Sc.semi z):=by
 have e:lastE y=lastE z:=by
  have e:=congrArg List.getLast? h;rw[List.getLast?_map,List.getLast?_map]at e;unfold lastE;cases h1:y.l.getLast? with
  | none=>
   rw[h1]at e;cases h2:z.l.getLast? with
   | none=>rfl
   | some u=>rw[h2]at e;cases e
  | some t=>
   rw[h1]at e;cases h2:z.l.getLast? with
   | none=>rw[h2]at e;cases e
   | some u=>
    rw[h2]at e;simp only[Option.map_some,Option.some.injEq]at e;exact ends_same (Gr.sameT_key e)
 unfold Tk;rw[semi_def,semi_def,←e];split
 ·rw[List.map_append,List.map_append,h];rfl
 ·exact h
theorem Tk.tok {y z:SS} (h:Tk y z) (k:Int) (w:List UInt8):Tk (Pc.ap y (.tok k w)) (Pc.ap z (.tok k w)):=by
 show(y.l ++ [_]).map keyT=(z.l ++ [_]).map keyT;rw[List.map_append,List.map_append,h];rfl
theorem InN.fold {ps qs:List Pc} (h:InN ps qs):∀{y z:SS},Tk y z→Tk (ps.foldl Pc.ap y) (qs.foldl Pc.ap z):=by
 induction h with
 | nil=>intro y z g;exact g
 | nl h ih=>intro y z g;exact ih (y:=Pc.ap y .nl) (z:=Pc.ap (Pc.ap (Pc.ap z (.sp 32)) (.sp 9)) .nl) (Tk.semi (y:=y) (z:=Pc.ap (Pc.ap z (.sp 32)) (.sp 9)) g)
 | @com w ps qs h ih=>intro y z g;exact ih (y:=Pc.ap (Pc.ap y (.com w)) .nl) (z:=Pc.ap (Pc.ap z (.com (w ++ [32,9]))) .nl) (Tk.semi (y:=Pc.ap y (.com w)) (z:=Pc.ap z (.com (w ++ [32,9]))) (Tk.semi (y:=y) (z:=z) g))
 | @last w=>intro y z g;exact Tk.semi (y:=y) (z:=z) g
 | @sp b ps qs h ih=>intro y z g;exact ih (y:=Pc.ap y (.sp b)) (z:=Pc.ap z (.sp b)) g
 | @tok k w ps qs h ih=>intro y z g;exact ih (g.tok k w)
theorem Tk.fold {y z:SS}:∀(ps:List Pc),Tk y z→Tk (ps.foldl Pc.ap y) (ps.foldl Pc.ap z)
 | [],g=>g
 | .sp b::ps,g=>Tk.fold (y:=Pc.ap y (.sp b)) (z:=Pc.ap z (.sp b)) ps g
 | .nl::ps,g=>Tk.fold (y:=Pc.ap y .nl) (z:=Pc.ap z .nl) ps (Tk.semi (y:=y) (z:=z) g)
 | .com w::ps,g=>Tk.fold (y:=Pc.ap y (.com w)) (z:=Pc.ap z (.com w)) ps (Tk.semi (y:=y) (z:=z) g)
 | .tok k w::ps,g=>Tk.fold ps (g.tok k w)
theorem Tk.ended {y z:SS} (h:Tk y z):(Sc.ended y).map keyT=(Sc.ended z).map keyT:=by
 unfold Sc.ended;rw[List.map_append,List.map_append];have:=h.semi;unfold Tk at this;rw[this];rfl
theorem same_keys {s t:ByteArray} (hs:s.size < 10000000) (ht:t.size < 10000000) (h:(Gr.textP s).2.2 < 0) (hf:(scanP t).2.2 < 0) (hk:(scanP t).1.map keyT=(scanP s).1.map keyT):Sh.sameP s t=true∧(Gr.textP t).2.2= -1:=by
 obtain⟨k1,k2,k3⟩:=Gr.parsed_same hs ht h hf (.inl hk);refine⟨?_,k1⟩;unfold Sh.sameP Sh.ofP;have d1:decide (0≤(Gr.textP s).2.2)=false:=by simp;omega
 have d2:decide (0≤(Gr.textP t).2.2)=false:=by rw[k1];decide
 rw[d1,d2];simp only[Bool.false_eq_true,if_false,Bool.true_and];rw[k3,beq_iff_eq]
theorem glue_end:∀{ps:List Pc} (qs:List Pc),Glue ps→Glue (.nl::qs)→Glue (ps ++ .nl::qs)
 | [],qs,h,g=>g
 | p::ps,qs,h,g=>by
  obtain⟨h1,h2,h3⟩:=h;refine⟨h1,?_,glue_end qs h3 g⟩;cases ps with
  | nil=>
   show Sep p (some 10);cases p with
   | sp b=>exact True.intro
   | nl=>exact True.intro
   | com w=>intro c hc;cases hc;rfl
   | tok k w=>exact sep_plain (by decide)
  | cons p2 ps=>
   have e:(Rf.flat ((p2::ps)++ .nl::qs)).head? =(Rf.flat (p2::ps)).head? :=by
    rw[List.cons_append,head_flat h3.1,head_flat h3.1]
   show Sep p (Rf.flat ((p2::ps)++ .nl::qs)).head?;rw[e];exact h2
def ahB:ByteArray:=⟨#[47,47,32,97,104,101,97,100,10,10]⟩
def beB:ByteArray:=⟨#[10,47,47,32,98,101,104,105,110,100]⟩
theorem v_ascii:∀r:List UInt8,(∀b∈r,32≤b.toNat∧b.toNat < 127)→V r
 | [],h=> .nil
 | c::r,h=>by
  have hc:=h c (by simp);have e:Pc.dec (c::r)=(c.toNat,1):=by
   unfold Pc.dec Lib.decodeN;rw[if_pos ?_]
   ·rfl
   ·show c.toNat < 128;omega
  refine .cons (by simp) ?_ ?_
  ·unfold Pc.badR;rw[e];unfold badN;simp;omega
  ·rw[e];exact v_ascii r fun b hb=>h b (by simp[hb])
theorem around_same {s:ByteArray} (hs:s.size≤400) (h:(Gr.textP s).2.2 < 0):Sh.sameP s (ahB ++ s ++ beB)=true:=by
 have hp:=Gr.parsed (by omega) h;obtain⟨ps,r1,r2,r3⟩:=Pc.scan_pieces hp.scan;obtain⟨e1,_,_⟩:=Gr.scan_last hp.scan
 let A:List UInt8:= [47,47,32,97,104,101,97,100]
 let B:List UInt8:= [47,47,32,98,101,104,105,110,100]
 have gA:GV (.com A):=⟨Pc.com_good.2 ⟨_,rfl,by decide⟩,v_ascii A (by decide)⟩
 have gB:GV (.com B):=⟨Pc.com_good.2 ⟨_,rfl,by decide⟩,v_ascii B (by decide)⟩
 have bnl:=blank_good (p:= .nl) rfl;have gl:Glue ([.com A,.nl,.nl] ++(ps ++ [.nl,.com B])):=by
  have g1:Glue (ps ++ [.nl,.com B]):=glue_end [.com B] (reads_glue r1) ⟨bnl.1.1,True.intro,gB.1,(fun b hb=>by cases hb),True.intro⟩;exact⟨gA.1,(fun b hb=>by cases hb;rfl),bnl.1.1,True.intro,bnl.1.1,True.intro,g1⟩
 have hall:∀q∈ [.com A,.nl,.nl] ++(ps ++ [.nl,.com B]),GV q:=by
  intro q hq;simp only[List.mem_append,List.mem_cons,List.not_mem_nil,or_false]at hq;rcases hq with (rfl | rfl | rfl)| hq | rfl | rfl
  ·exact gA
  ·exact bnl.1
  ·exact bnl.1
  ·exact r3 q hq
  ·exact bnl.1
  ·exact gB
 have hbytes:(ahB ++ s ++ beB).data.toList=Rf.flat ([.com A,.nl,.nl] ++(ps ++ [.nl,.com B])):=by
  rw[app_list,app_list,flat_app,flat_app,r1.bytes,List.append_assoc];rfl
 have hr:=gl.reads;have hv:=flat_v _ hall;rw[←hbytes]at hr hv;have z1:ahB.size=10:=rfl;have z2:beB.size=10:=rfl;have hsz:(ahB ++ s ++ beB).size≤2000:=by rw[ByteArray.size_append,ByteArray.size_append];omega
 generalize ahB ++ s ++ beB=t at *;have hsc:(scanP t).2.2 < 0:=Pc.scan_iff.2 ⟨by rw[Pc.reads_last hr];show(-1:Int)< 0;decide,hv,hsz⟩;obtain⟨f1,_,_⟩:=Gr.scan_last hsc;have el:lastS t=([Pc.com A,Pc.nl,Pc.nl] ++(ps ++ [Pc.nl,Pc.com B])).foldl Pc.ap ss0:=by unfold lastS;rw[Pc.reads_last hr]
 refine(same_keys (by omega) (by omega) h hsc ?_).1;rw[f1,e1,el,r2,List.foldl_append,List.foldl_append];have k0:Tk ss0 ([Pc.com A,.nl,.nl].foldl Pc.ap ss0):=rfl;have k1:=Tk.fold ps k0;generalize ps.foldl Pc.ap ss0=y at *;generalize ps.foldl Pc.ap ([Pc.com A,.nl,.nl].foldl Pc.ap ss0)=z at *;have e2:([Pc.nl,.com B].foldl Pc.ap z).l=(Sc.semi z).l:=semi2 (y:=z) (z:=Pc.ap z .nl) rfl;have e3:Sc.ended ([Pc.nl,.com B].foldl Pc.ap z)=(Sc.semi z).l ++ [⟨7,⟨#[]⟩,(Sc.semi ([Pc.nl,.com B].foldl Pc.ap z)).at_,(Sc.semi ([Pc.nl,.com B].foldl Pc.ap z)).line,false⟩]:=by
  unfold Sc.ended;rw[semi2 (y:=z) (z:= [Pc.nl,.com B].foldl Pc.ap z) e2]
 rw[e3];unfold Sc.ended;rw[List.map_append,List.map_append];have:=k1.semi;unfold Tk at this;rw[this];rfl
def upS (s:ByteArray):Nat→ByteArray
 | 0=>⟨#[]⟩
 | i + 1=>(if s[i]? =some 10 then upS s i ++ ⟨#[32,9]⟩else upS s i)++ s.extract i (i + 1)
theorem up_tr (s:ByteArray):∀i:Nat,i≤s.size→(upS s i).data.toList=tr (s.data.toList.take i)∧(upS s i).size≤3 * i
 | 0,h=>⟨rfl,Nat.le_refl 0⟩
 | i + 1,h=>by
  obtain⟨ih,ih2⟩:=up_tr s i (by omega);have hlt:i < s.data.toList.length:=by rw[←ba_size];omega
  have hb:s[i]? =some s.data.toList[i]:=by rw[ba_get,List.getElem?_eq_getElem hlt]
  have hx:(s.extract i (i + 1)).data.toList= [s.data.toList[i]]:=by
   rw[ext_list,Nat.add_sub_cancel_left,List.drop_eq_getElem_cons hlt];rfl
  have hxs:(s.extract i (i + 1)).size=1:=by rw[ba_size,hx];rfl
  have z2:(⟨#[32,9]⟩:ByteArray).size=2:=rfl;unfold upS;rw[hb,List.take_add_one,List.getElem?_eq_getElem hlt,tr_app];generalize s.data.toList[i]=c at *;constructor
  ·rw[app_list,hx]
   by_cases q:c=10
   ·subst q;rw[if_pos rfl,app_list,ih,List.append_assoc];rfl
   ·rw[if_neg (by simpa using q),ih];show _=_ ++ tr [c];rw[tr_id [c] (by simpa using fun e=>q e.symm)]
  ·rw[ByteArray.size_append,hxs];split
   ·rw[ByteArray.size_append,z2];omega
   ·omega
theorem up_same {s:ByteArray} (hs:s.size≤400) (h:(Gr.textP s).2.2 < 0):Sh.sameP s (upS s s.size)=true∧(Gr.textP (upS s s.size)).2.2= -1:=by
 have hp:=Gr.parsed (by omega) h;obtain⟨ps,r1,r2,r3⟩:=Pc.scan_pieces hp.scan;obtain⟨e1,_,_⟩:=Gr.scan_last hp.scan;obtain⟨qs,i1,i2,i3,_⟩:=inN_ok ps.length ps (Nat.le_refl _) (reads_glue r1) r3;obtain⟨u1,u2⟩:=up_tr s s.size (Nat.le_refl _);have hbytes:(upS s s.size).data.toList=Rf.flat qs:=by
  rw[u1,List.take_of_length_le (by rw[←ba_size];exact Nat.le_refl _),i1.flat r3,r1.bytes];rfl
 generalize upS s s.size=t at *;have hr:=i2.reads;have hv:=flat_v _ i3;rw[←hbytes]at hr hv;have hsc:(scanP t).2.2 < 0:=Pc.scan_iff.2 ⟨by rw[Pc.reads_last hr];show(-1:Int)< 0;decide,hv,by omega⟩;obtain⟨f1,_,_⟩:=Gr.scan_last hsc;have el:lastS t=qs.foldl Pc.ap ss0:=by unfold lastS;rw[Pc.reads_last hr]
 refine same_keys (by omega) (by omega) h hsc ?_;rw[f1,e1,el,r2];exact(Tk.ended (i1.fold (y:=ss0) (z:=ss0) rfl)).symm
end Rf
end Go.Proofs.Dm
set_option maxHeartbeats 16000000
set_option maxRecDepth 100000
namespace Go.Proofs.Dm
open Go Go.Proofs Go.Proofs.Tryz Go.Proofs.Dm.Sc
namespace Rf
attribute [local simp] encT encC takes handsOn isTmp Op.operands Call.operands
def sbI (a T:ByteArray) (m:Nat) (st:St):Prop:=∃i:Nat,m=a.size - i∧i≤a.size∧st.tm 0= .p (.str a)∧st.tm 7= .p (.str T)∧st.tm 8= .p (.str (upS a i))∧st.tm 9=i64 (i:Nat)
def sbJ (a T:ByteArray) (st:St):Prop:=st.tm 0= .p (.str a)∧st.tm 7= .p (.str T)∧st.tm 8= .p (.str (upS a a.size))
theorem shapeBlanks_ok {W0 nb} (h2:2≤nb) (hT:Lib.Utf8Tabs 0 1 W0) {s:ByteArray}:DCalls ⟨Tryz.prog,W0,nb⟩ 4 [.p (.str s)] [] (.p (.bool true)) []:=by
 have c0:=Sh.begun_ok (W0:=W0) (nb:=nb) h2 hT;have c1:=cutA_ok (W0:=W0) (nb:=nb) (s:=s) (n:=400) (by decide);have hz:=cutA_size s 400;generalize cutA s 400=a at *;have c2:=Gr.rText_ok (W0:=W0) (nb:=nb) (s:=a) (by omega);rcases Int.lt_or_le (Gr.textP a).2.2 0 with h | h
 rotate_left
 ·generalize hR:Gr.textP a=R at *;obtain⟨⟨k,tt,ks⟩,l,f⟩:=R;simp only[encN]at c2;simp only at h;refine dcalls_end Tryz.func4 rfl (by kernel_rfl) 66 Tryz.ntmps4 #[.tmp 2] rfl (Nat.le_of_ble_eq_true rfl) ?_;simp;refine CallGoal.same c0 ?_;simp;refine CallGoal.same c1 ?_;simp;refine CallGoal.same c2 ?_;simp[h];exact .keep (by simp[h]) (.refl _) (by simp) (by simp[h]) (by simp[h]) (by simp[h])
 have e1:=around_same hz h;obtain⟨e2,e3⟩:=up_same hz h;obtain⟨_,hup⟩:=up_tr a a.size (Nat.le_refl _);have z1:ahB.size=10:=rfl;have z2:beB.size=10:=rfl;have hts:(ahB ++ a ++ beB).size≤420:=by rw[ByteArray.size_append,ByteArray.size_append];omega
 have c3:=Gr.rText_ok (W0:=W0) (nb:=nb) (s:=upS a a.size) (by omega);have c4:=Sh.same_ok (W0:=W0) (nb:=nb) h2 hT (a:=a) (b:=ahB ++ a ++ beB) (by omega) (by omega);have c5:=Sh.same_ok (W0:=W0) (nb:=nb) h2 hT (a:=a) (b:=upS a a.size) (by omega) (by omega);rw[e1]at c4;rw[e2]at c5;clear e1 e2;generalize hR:Gr.textP a=R at *;obtain⟨⟨k,tt,ks⟩,l,f⟩:=R;generalize hU:Gr.textP (upS a a.size)=U at *;obtain⟨⟨k2,tt2,ks2⟩,l2,f2⟩:=U;simp only[encN]at c2 c3;simp only at h e3;subst e3;clear hR hU;have hb1:¬(9223372036854775807:Int)< 10 +(a.size:Int):=by omega
 have hb2:¬(9223372036854775807:Int)< 10 +(a.size:Int)+ 10:=by omega
 generalize hah:ahB=ah at *;generalize hbe:beB=be at *;unfold ahB at hah;unfold beB at hbe;refine dcalls_end Tryz.func4 rfl (by kernel_rfl) 66 Tryz.ntmps4 #[.tmp 2] rfl (Nat.le_of_ble_eq_true rfl) ?_;simp only[hah,hbe];simp;refine CallGoal.same c0 ?_;simp;refine CallGoal.same c1 ?_;simp;refine CallGoal.same c2 ?_;have hn:¬0≤f:=by omega
 simp[hn,z1,z2,hb1,hb2];refine LoopGoal.cut (sbJ a (ah ++ a ++ be)) ?_ ?_
 ·refine⟨sbI a (ah ++ a ++ be),a.size,.here ⟨0,by simp,by simp,by simp,by simp,by simp[upS],by simp⟩,?_⟩;rintro m ⟨tm,hp⟩ ⟨i,rfl,hi,g0,g7,g8,g9⟩;simp only at g0 g7 g8 g9;simp[g0,g9];rcases Nat.lt_or_ge i a.size with hlt | hge
  rotate_left
  ·have hil:i=a.size:=by omega
   subst hil;simp;exact⟨by simp[g0],by simp[g7],by simp[g8]⟩
  obtain⟨c,hc0⟩:∃c,a[i]=c:=⟨_,rfl⟩
  have hc:a[i]? =some c:=by rw[getElem?_pos a i hlt,hc0]
  obtain⟨_,hus⟩:=up_tr a i hi;have hu1:upS a (i + 1)=(if a[i]? =some 10 then upS a i ++ ⟨#[32,9]⟩else upS a i)++ a.extract i (i + 1):=rfl;rw[hc]at hu1;have hw:=w64_id (n:=(i:Int)+ 1) (by omega) (by omega);simp only[w64]at hw;have hk:((i:Int)+ 1).toNat=i + 1:=by omega
  have hx1:(i:Int)+ 1≤(a.size:Int):=by omega
  have hx2:(i:Int)≤(i:Int)+ 1:=by omega
  have hx3:(0:Int)≤(i:Int)+ 1:=by omega
  have z3:(⟨#[32,9]⟩:ByteArray).size=2:=rfl
  by_cases q:c=10
  ·subst q;rw[if_pos rfl]at hu1;have hb3:¬(9223372036854775807:Int)<((upS a i).size:Int)+ 2:=by omega
   have hb4:¬(9223372036854775807:Int)<((upS a i).size:Int)+ 2 +((min (i + 1) a.size - i:Nat):Int):=by omega
   simp[hlt,hc,hc0,g0,g8,g9,hb3,hb4,z3,hw,hk,hx1,hx2,hx3];exact .same (a.size -(i + 1)) (by omega) ⟨i + 1,rfl,by omega,by simp[g0],by simp[g7],by simp[hu1],by simp[hw]⟩
  ·have q2:¬c.toNat=10:=fun e=>q (UInt8.toNat_inj.1 e)
   have q3:((c.toNat:Int)==10)=false:=by rw[beq_eq_false_iff_ne];omega
   rw[if_neg (by simpa using q)]at hu1;have hb4:¬(9223372036854775807:Int)<((upS a i).size:Int)+((min (i + 1) a.size - i:Nat):Int):=by omega
   simp[hlt,hc,hc0,g0,g8,g9,hb4,q2,q3,z3,hw,hk,hx1,hx2,hx3];exact .same (a.size -(i + 1)) (by omega) ⟨i + 1,rfl,by omega,by simp[g0],by simp[g7],by simp[hu1],by simp[hw]⟩
 ·rintro⟨tm,hp⟩ ⟨g0,g7,g8⟩;simp only at g0 g7 g8;simp[g8];refine CallGoal.same c3 ?_;simp[g0,g7];refine CallGoal.same c4 ?_;simp[g0,g8];refine CallGoal.same c5 ?_;simp;exact .keep (by simp) (.refl _) (by simp) (by simp) (by simp) (by simp)
end Rf
end Go.Proofs.Dm
