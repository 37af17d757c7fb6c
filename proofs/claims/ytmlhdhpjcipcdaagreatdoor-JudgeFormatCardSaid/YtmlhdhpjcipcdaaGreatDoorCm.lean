/- Part of the proof: what the walked functions compute. No condition. -/
import Derived.Test.YtmlhdhpjcipcdaaGreatDoorCd
import Derived.Test.YtmlhdhpjcipcdaaGreatDoorUx
set_option linter.unusedSimpArgs false
set_option linter.unusedVariables false
set_option maxHeartbeats 4000000
namespace Go.Proofs.Dm
open Go Go.Proofs Go.Proofs.Dm.Sc
open Fo (isO zeroT nlB spB pad trimR linesP)
open Pc (GV)
open Gr (ss0 lastS keyT canR sameT)
namespace Rf
variable {l l':List Tok} {src src':List ByteArray}
theorem can_words:∀(r:List Tok) (e:Bool),(canR e r).filter (fun k=> !(k.1==6))=(r.map keyT).filter (fun k=> !(k.1==6))
 | [],e=>rfl
 | t::r,e=>by
  unfold Gr.canR;rw[List.map_cons,List.filter_cons]
  by_cases h6:t.kind=6
  ·rw[if_pos h6];have e1:(!((keyT t).1==6))=false:=by show(!(t.kind==6))=false;rw[h6];rfl
   rw[e1];simp only[Bool.false_eq_true,if_false];split
   ·rw[List.filter_cons];exact can_words r false
   ·exact can_words r false
  ·rw[if_neg h6];have e1:(!((keyT t).1==6))=true:=by show(!(t.kind==6))=true;simpa using h6
   rw[e1,if_pos rfl];split
   ·rw[List.filter_cons,if_neg (by decide),List.filter_cons,e1,if_pos rfl,can_words r _]
   ·rw[List.filter_cons,e1,if_pos rfl,can_words r _]
def wordsK (l:List Tok):List Tok:=l.filter fun t=> !(t.kind==6)
theorem words_keys (l:List Tok):(wordsK l).map keyT=(l.map keyT).filter (fun k=> !(k.1==6)):=by
 unfold wordsK;rw[List.filter_map];rfl
theorem words_same (h:l'.map keyT=canR false l):(wordsK l').map keyT=(wordsK l).map keyT:=by
 rw[words_keys,words_keys,h,can_words]
theorem nw_words (l:List Tok):nw l=(wordsK l).length:=rfl
theorem itE_coms:∀(l:List Tok) (i:Nat) (cs:List Com),(itE l i cs).filter (·.com)=cs.map comI
 | [],i,cs=>by
  unfold itE;rw[List.filter_eq_self];intro x hx;obtain⟨c,_,rfl⟩:=List.mem_map.1 hx;rfl
 | t::l,i,cs=>by
  unfold itE;rw[List.filter_append,List.filter_append,itE_coms l (i + 1) _];have e1:((takeI i cs).1.map comI).filter (·.com)=(takeI i cs).1.map comI:=by
   rw[List.filter_eq_self];intro x hx;obtain⟨c,_,rfl⟩:=List.mem_map.1 hx;rfl
  have e2:(if t.kind !=6&&t.kind !=7 then [tokI i t]else []).filter (·.com)= []:=by split <;> rfl
  rw[e1,e2,List.nil_append,←List.map_append,←take_split i cs]
theorem SE.coms {p p':Option It} {xs xs':List It} (h:SE l l' src src' p p' xs xs'):(xs.filter (·.com)).map (fun x=>(x.note,nw (l.take x.tok.toNat)))=(xs'.filter (·.com)).map (fun x=>(x.note,nw (l'.take x.tok.toNat))):=by
 induction h with
 | nil=>rfl
 | @cons p p' x x' xs xs' hs ht hc hn h ih=>
  rw[List.filter_cons,List.filter_cons,←hc];cases hx:x.com with
  | false=>simpa using ih
  | true=>
   rw[if_pos rfl,if_pos rfl,List.map_cons,List.map_cons,ih,hn];have hx':x'.com=true:=by rw[←hc];exact hx
   unfold textR at ht;rw[hx,hx',if_pos rfl,if_pos rfl]at ht;rw[ht]
theorem scan_coms {s:ByteArray} (hf:(scanP s).2.2 < 0):(itemsG (scanP s).1 0 (scanP s).2.1).filter (·.com)=(scanP s).2.1.map comI:=by
 have hs:=Gr.scanned hf;rw[←itE_items _ _ _ (fun c hc=>by have:=hs.next c hc;simpa using this) hs.cpair];exact itE_coms _ _ _
def comW (l:List Tok) (c:Com):ByteArray×Nat:=(trimR c.text,nw (l.take c.next.toNat))
theorem laid_coms {s:ByteArray} (h:Gr.Parsed s) (h2:(layT s).size≤2000):(scanP (layT s)).2.1.map (comW (scanP (layT s)).1)=(scanP s).2.1.map (comW (scanP s).1):=by
 obtain⟨g1,g2,g3,g4⟩:=laid_ok h h2;have e:=g3.coms;rw[scan_coms h.scan,scan_coms g1,List.map_map,List.map_map]at e;exact e.symm
theorem com_from:∀(ps:List Pc) (y:SS),∀c∈(ps.foldl Pc.ap y).c,c∈y.c∨Pc.com c.text.data.toList∈ps
 | [],y,c,h=> .inl h
 | q::ps,y,c,h=>by
  rcases com_from ps (Pc.ap y q) c h with k | k
  ·cases q with
   | sp b=>exact .inl k
   | nl=>exact .inl (by rw[←semi_c y];exact k)
   | tok k2 w=>exact .inl k
   | com w=>
    have k':c∈y.c ++ [⟨⟨w.toArray⟩,y.at_,y.line,(Sc.semi y).l.length⟩]:=k;rw[List.mem_append,List.mem_singleton]at k';rcases k' with k' | rfl
    ·exact .inl k'
    ·exact .inr (by simp)
  ·exact .inr (by simp[k])
theorem out_trim (cs:List Com):∀(xs:List It) (p:Option It),Lk l cs p xs→∀w,Pc.com w∈outQ l src p xs ++ [.nl]→Lib.trimRightS w [32,9]=w
 | [],p,h,w,hw=>by
  have e:outQ l src p [] ++ [Pc.nl]= [Pc.nl]:=rfl;rw[e,List.mem_singleton]at hw;cases hw
 | x::xs,p,h,w,hw=>by
  have e:outQ l src p (x::xs)++ [.nl]=sepQ l src p x ++(itQ l x::(outQ l src (some x) xs ++ [.nl])):=by
   show(sepQ l src p x ++ itQ l x::outQ l src (some x) xs)++ [Pc.nl]=_;rw[List.append_assoc];rfl
  rw[e,List.mem_append,List.mem_cons]at hw;rcases hw with hw | hw | hw
  ·have:=sep_blank l src p x _ hw;cases this
  ·unfold itQ at hw;split at hw
   ·rename_i hc;obtain⟨c,_,i,rfl,_⟩:=h.1.com hc;cases hw;exact trim_idem c.text.data.toList
   ·cases hw
  ·exact out_trim cs xs (some x) h.2 w hw
theorem laid_trim {s:ByteArray} (h:Gr.Parsed s) (h2:(layT s).size≤2000):∀d∈(scanP (layT s)).2.1,trimR d.text=d.text:=by
 intro d hd;obtain⟨g1,g2⟩:=laid_scan h h2;obtain⟨_,e2,_⟩:=Gr.scan_last g1;rw[e2,g2]at hd;rcases com_from _ _ d hd with k | k
 ·cases k
 ·apply ba_ext;exact out_trim (scanP s).2.1 _ none (lk_scan (Gr.scanned h.scan)) _ k
theorem laid_keeps {s:ByteArray} (hs:s.size < 10000000) (h:(fmtP s).2 < 0):(scanP (layT s)).2.2 < 0∧(wordsK (scanP (layT s)).1).map keyT=(wordsK (scanP s).1).map keyT∧(scanP (layT s)).2.1.map (comW (scanP (layT s)).1)=(scanP s).2.1.map (comW (scanP s).1)∧(∀d∈(scanP (layT s)).2.1,trimR d.text=d.text)∧
  (Gr.textP (layT s)).2.2= -1∧Sh.shapeS (Gr.textP s).2.1 (Gr.textP s).1=Sh.shapeS (Gr.textP (layT s)).2.1 (Gr.textP (layT s)).1:=by
 obtain⟨h1,h2,_⟩:=fmt_good h;have hp:=Gr.parsed hs h1;obtain⟨g1,g2,g3,g4⟩:=laid_ok hp h2;obtain⟨k1,_,k3⟩:=Gr.parsed_same hs (t:=layT s) (by omega) h1 g1 (.inr g2);exact⟨g1,words_same g2,laid_coms hp h2,laid_trim hp h2,k1,k3⟩
end Rf
end Go.Proofs.Dm
set_option maxHeartbeats 16000000
set_option maxRecDepth 100000
namespace Go.Proofs.Dm
open Go Go.Proofs Go.Proofs.Tryz Go.Proofs.Dm.Sc
open Gr (keyT)
namespace Rf
attribute [local simp] encT encC takes handsOn isTmp Op.operands Call.operands
theorem eqTs_keys:∀{a b:List Tok},(∀t∈a,t.kind≠6)→(∀t∈b,t.kind≠6)→a.map keyT=b.map keyT→Ju.eqTs a b=true
 | [],[],_,_,_=>rfl
 | [],_::_,_,_,h=>by cases h
 | _::_,[],_,_,h=>by cases h
 | t::a,u::b,ha,hb,h=>by
  rw[List.map_cons,List.map_cons,List.cons.injEq]at h;have h1:=h.1;unfold Gr.keyT at h1;rw[if_neg (ha t (by simp)),if_neg (hb u (by simp))]at h1;obtain⟨e1,e2⟩:=Prod.mk.inj h1;have r:=eqTs_keys (fun x hx=>ha x (by simp[hx])) (fun x hx=>hb x (by simp[hx])) h.2;unfold Ju.eqTs Ju.eqT;rw[r,e1,e2];simp
theorem allEqR_refl:∀(a:List Ju.Rem),Ju.allEq Ju.eqR a a=true
 | []=>rfl
 | x::a=>by
  have e:=allEqR_refl a;have f:Ju.eqR x x=true:=by simp[Ju.eqR]
  show(Ju.eqR x x&&Ju.allEq Ju.eqR a a)=true;rw[e,f];rfl
theorem wordsK_ne (l:List Tok):∀t∈wordsK l,t.kind≠6:=by
 intro t ht;unfold wordsK at ht;rw[List.mem_filter]at ht;simpa using ht.2
theorem rems_same {a b:ByteArray} (h:(scanP b).2.1.map (comW (scanP b).1)=(scanP a).2.1.map (comW (scanP a).1)):Ju.remsP b=Ju.remsP a:=by
 have e:∀s:ByteArray,Ju.remsP s=((scanP s).2.1.map (comW (scanP s).1)).map (fun p=>(⟨p.1,(p.2:Nat)⟩:Ju.Rem)):=by
  intro s;rw[List.map_map];rfl
 rw[e,e,h]
theorem judged {a:ByteArray} (hs:a.size < 10000000) (h:(fmtP a).2 < 0):Ju.judgeTokens a (layT a)=true∧Ju.judgeComments a (layT a)=true:=by
 obtain⟨g1,g2,g3,_,_,_⟩:=laid_keeps hs h;obtain⟨h1,h2,_⟩:=fmt_good h;have hp:=(Gr.parsed hs h1).scan;constructor
 ·unfold Ju.judgeTokens;rw[decide_eq_true hp,decide_eq_true g1];exact eqTs_keys (wordsK_ne _) (wordsK_ne _) g2.symm
 ·unfold Ju.judgeComments;rw[decide_eq_true hp,decide_eq_true g1,rems_same g3];exact allEqR_refl _
theorem judgeFormat_ok {W0 nb} (h2:2≤nb) (hT:Lib.Utf8Tabs 0 1 W0) {s:ByteArray}:DCalls ⟨Tryz.prog,W0,nb⟩ 15 [.p (.str s)] [] (.p (.bool true)) []:=by
 have c0:=Ju.begun_ok (W0:=W0) (nb:=nb) h2 hT;have c1:=cutA_ok (W0:=W0) (nb:=nb) (s:=s) (n:=1000) (by decide);have hz:=cutA_size s 1000;generalize cutA s 1000=a at *;have c2:=ftextA_ok (W0:=W0) (nb:=nb) h2 hT (s:=a) (by omega);rcases Int.lt_or_le (fmtP a).2 0 with h | h
 ·obtain⟨h3,h4,e1⟩:=fmt_good h;obtain⟨j1,j2⟩:=judged (by omega) h;rw[e1]at c2;have c3:=Ju.tokens_ok (W0:=W0) (nb:=nb) (a:=a) (b:=layT a) h2 hT (by omega) (by omega);have c4:=Ju.comments_ok (W0:=W0) (nb:=nb) (a:=a) (b:=layT a) h2 hT (by omega) (by omega);rw[j1]at c3;rw[j2]at c4;simp only[ba_toArray]at c2;generalize layT a=t at *;refine dcalls_end Tryz.func15 rfl (by kernel_rfl) 28 Tryz.ntmps15 #[.tmp 2] rfl (Nat.le_of_ble_eq_true rfl) ?_;simp;refine CallGoal.same c0 ?_;simp;refine CallGoal.same c1 ?_;simp;refine CallGoal.same c2 ?_;simp;refine CallGoal.same c3 ?_;simp;refine CallGoal.same c4 ?_;simp;exact .keep (by simp) (.refl _) (by simp) (by simp) (by simp) (by simp)
 ·generalize (fmtP a).2=f at *;generalize (⟨(fmtP a).1.toArray⟩:ByteArray)=t at *;refine dcalls_end Tryz.func15 rfl (by kernel_rfl) 28 Tryz.ntmps15 #[.tmp 2] rfl (Nat.le_of_ble_eq_true rfl) ?_;simp;refine CallGoal.same c0 ?_;simp;refine CallGoal.same c1 ?_;simp;refine CallGoal.same c2 ?_;simp[h];exact .keep (by simp[h]) (.refl _) (by simp) (by simp[h]) (by simp[h]) (by simp[h])
end Rf
end Go.Proofs.Dm
