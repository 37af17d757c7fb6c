/- Part of the proof: what the walked functions compute. No condition. -/
import Derived.Test.YtmlhdhpjcipcdaaGreatDoorCa
import Derived.Test.YtmlhdhpjcipcdaaGreatDoorYz
import Derived.Test.YtmlhdhpjcipcdaaGreatDoorCc
set_option linter.unusedSimpArgs false
set_option linter.unusedVariables false
set_option maxHeartbeats 4000000
namespace Go.Proofs.Dm
open Go Go.Proofs Go.Proofs.Dm.Sc
open Fo (isO zeroT nlB trimR linesP)
namespace Rf
def refF (s:ByteArray):Int:=
 if decide (0≤(scanP s).2.2)|| !endsNl s then 0 else goR (scanP s).1 (linesP s).dropLast (linesP s).dropLast 0 0
theorem spl_snoc:∀p:List UInt8,Gr.spl (p ++ [10])=Gr.spl p ++ [[]]
 | []=>rfl
 | c::p=>by
  have ih:=spl_snoc p;show Gr.spl (c::(p ++ [10]))=_;unfold Gr.spl;split
  ·rw[ih];rfl
  ·rw[ih];cases hp:Gr.spl p with
   | nil=>exact absurd hp (Gr.spl_ne p)
   | cons h t=>rfl
theorem ends_suffix (s:ByteArray):Lib.hasSuffix s.data.toList [10]=endsNl s:=by
 unfold endsNl;rw[ba_get,ba_size,←List.getLast?_eq_getElem?];generalize s.data.toList=r;rcases List.eq_nil_or_concat r with rfl | ⟨q,b,rfl⟩
 ·rfl
 ·rw[List.concat_eq_append,List.getLast?_append,List.getLast?_singleton];simp only[Option.some_or];rw[Bool.eq_iff_iff,beq_iff_eq];unfold Lib.hasSuffix;simp;exact eq_comm
theorem chop_lines {s:ByteArray} (h:endsNl s=true):(linesP s).dropLast=linesP (La.chop s):=by
 rw[←ends_suffix]at h;apply Gr.map_data_inj;rw[List.map_dropLast,Gr.lines_spl,Gr.lines_spl];unfold La.chop Lib.trimSuffix;rw[if_pos h];have hs:s.data.toList.isSuffixOf [10]=s.data.toList.isSuffixOf [10]:=rfl;obtain⟨p,hp⟩:∃p,s.data.toList=p ++ [10]:=by
  have h':endsNl s=true:=by rw[←ends_suffix];exact h
  unfold endsNl at h';rw[ba_get,ba_size,←List.getLast?_eq_getElem?]at h';generalize s.data.toList=r at h';rcases List.eq_nil_or_concat r with rfl | ⟨q,b,rfl⟩
  ·simp at h'
  ·rw[List.concat_eq_append,List.getLast?_append,List.getLast?_singleton]at h';simp only[Option.some_or,beq_iff_eq]at h';subst h';exact⟨q,by rw[List.concat_eq_append]⟩
 rw[hp,spl_snoc];simp
theorem skip_from (a:Int) (l:List Tok):∀n,n≤l.length→(∀k t,k < n→l[k]? =some t→t.at_ < a)→La.skipD a (l.drop n) n=La.skipD a l 0
 | 0,h,g=>rfl
 | n + 1,h,g=>by
  rw[←skip_from a l n (by omega) (fun k t q=>g k t (by omega))];have hlt:n < l.length:=by omega
  rw[List.drop_eq_getElem_cons hlt];have e:La.skipD a (l[n]::l.drop (n + 1)) n=if(l[n]).at_ < a then La.skipD a (l.drop (n + 1)) (n + 1)else n:=rfl;rw[e,if_pos (g n _ (by omega) (List.getElem?_eq_getElem hlt))]
theorem skip_all (a:Int):∀(r:List Tok) (n:Nat),∀k t,n + k < La.skipD a r n→r[k]? =some t→t.at_ < a
 | [],n,k,t,h,g=>by simp at g
 | u::r,n,k,t,h,g=>by
  unfold La.skipD at h;split at h
  ·rename_i q;cases k with
   | zero=>simp only[List.getElem?_cons_zero,Option.some.injEq]at g;subst g;exact q
   | succ k=>
    rw[List.getElem?_cons_succ]at g;exact skip_all a r (n + 1) k t (by omega) g
  ·omega
theorem skip_le6 (a:Int):∀(r:List Tok) (n:Nat),La.skipD a r n≤n + r.length
 | [],n=>Nat.le_refl _
 | t::r,n=>by
  unfold La.skipD;split
  ·have:=skip_le6 a r (n + 1);simp only[List.length_cons];omega
  ·simp
theorem nines_tw (s:ByteArray):nines s=(s.data.toList.takeWhile (fun b=>b==9)).length:=by
 unfold nines;rw[stop_tw,List.drop_zero,Nat.zero_add]
theorem tl_nines (s:ByteArray):(La.tl9 s).data.toList=s.data.toList.drop (nines s):=by
 rw[nines_tw];show(Lib.trimLeftB s.data.toList 9)=_;unfold Lib.trimLeftB;generalize s.data.toList=r
 induction r with
 | nil=>rfl
 | cons c r ih=>
  rw[List.takeWhile_cons,List.dropWhile_cons];split
  ·rw[List.length_cons,List.drop_succ_cons];exact ih
  ·rfl
theorem nines_lt {s:ByteArray} (h1:(trimR s).toList=s.toList) (h2:s.toList.isEmpty=false):nines s < s.size:=by
 rw[nines_tw,ba_size];rw[Lib.toList_data,Lib.toList_data]at h1;rw[Lib.toList_data]at h2;have e:(trimR s).data.toList=Lib.trimRightS s.data.toList [32,9]:=rfl;rw[e]at h1;generalize s.data.toList=r at *;rcases Nat.lt_or_ge (r.takeWhile (fun b=>b==9)).length r.length with q | q
 ·exact q
 ·exfalso
  have hall:∀b∈r,b=9:=by
   have hp:r.takeWhile (fun b=>b==9)=r:=(List.takeWhile_prefix _).eq_of_length_le q;intro b hb;rw[←hp]at hb;have:=tw_all (p:=fun b:UInt8=>b==9) hb;simpa using this
  unfold Lib.trimRightS at h1;have hn:r.reverse.dropWhile ([32,9].contains ·)= []:=by
   rw[dropWhile_nil];intro b hb;rw[hall b (List.mem_reverse.1 hb)];decide
  rw[hn]at h1;simp only[List.reverse_nil]at h1;rw[←h1]at h2;cases h2
theorem prefix_one (r:List UInt8) (b:UInt8):Lib.hasPrefix r [b]=(r.head?.any (·==b)):=by
 cases r with
 | nil=>rfl
 | cons c r=>
  show [b].isPrefixOf (c::r)=(c==b)
  simp[List.isPrefixOf];rw[Bool.eq_iff_iff];simp only[beq_iff_eq];exact eq_comm
theorem bad_right {l:List Tok} {L:List ByteArray} {i:Nat} {ln:ByteArray} {at_:Int} (hi:i < L.length):La.badL L l i ln (La.skipD at_ l 0)= !rightR l L i ln at_:=by
 unfold La.badL rightR;cases h1:(trimR ln).toList==ln.toList with
 | false=>rfl
 | true=>
  simp only[Bool.not_true,Bool.false_eq_true,if_false];have he:La.emptyB ln=ln.toList.isEmpty:=rfl;rw[he];cases h2:ln.toList.isEmpty with
  | true=>
   simp only[if_true];have e1:(i==0)= !decide (0 < i):=by
    rw[Bool.eq_iff_iff];simp
   have e2:(i + 1==L.length)= !decide (i + 1 < L.length):=by
    rw[Bool.eq_iff_iff];simp;omega
   have e3:La.emptyB ((L[i - 1]?).getD ⟨#[]⟩)=((L[i - 1]?).getD ⟨#[]⟩).toList.isEmpty:=rfl;rw[e1,e2,e3];cases decide (0 < i)<;> cases decide (i + 1 < L.length)<;> cases ((L[i - 1]?).getD ⟨#[]⟩).toList.isEmpty <;> rfl
  | false=>
   simp only[Bool.false_eq_true,if_false];have hlt:=nines_lt (beq_iff_eq.1 h1) h2;have htl:=tl_nines ln;have hsz:((ln.size:Int)-((La.tl9 ln).size:Int))=(nines ln:Int):=by
    rw[ba_size (La.tl9 ln),htl,List.length_drop,←ba_size];omega
   have hhd:(La.tl9 ln).data.toList.head? =ln[nines ln]? :=by
    rw[htl,List.head?_drop,ba_get]
   rw[prefix_one,prefix_one,hhd,hsz,getElem?_pos ln (nines ln) hlt];simp only[Option.any_some,Option.getD_some];generalize ln[nines ln]=b;unfold La.mayS La.tabsS goesL
   by_cases q:b=125
   ·subst q;simp
   ·have q':(b==125)=false:=by simpa using q
    rw[q'];simp only[Bool.false_eq_true,if_false];cases hg:(l.take (La.skipD at_ l 0)).getLast? with
    | none=>
     simp only;cases (b==32)<;> simp
    | some t=>
     simp only;unfold onR;cases (b==32)<;> simp
theorem go_right {l:List Tok} {L:List ByteArray}:∀(r:List ByteArray) (i n:Nat) (at_:Int),L.drop i=r→n≤l.length→(∀k t,k < n→l[k]? =some t→t.at_ < at_)→La.goF L l r i at_ n=goR l L r i at_
 | [],i,n,at_,h,hn,g=>rfl
 | ln::r,i,n,at_,h,hn,g=>by
  have hi:i < L.length:=by
   have:=congrArg List.length h;simp only[List.length_drop,List.length_cons]at this;omega
  unfold La.goF goR;rw[skip_from at_ l n hn g,bad_right hi];have hd:L.drop (i + 1)=r:=by rw[←List.tail_drop,h,List.tail_cons]
  have hle:=skip_le6 at_ l 0;cases hr:rightR l L i ln at_ with
  | false=>rfl
  | true=>
   simp only[Bool.not_true,Bool.false_eq_true,if_false,if_true];refine go_right r (i + 1) _ _ hd (by omega) (fun k t q e=> ?_);have:=skip_all at_ l 0 k t (by omega) e;omega
end Rf
end Go.Proofs.Dm
set_option maxHeartbeats 4000000
namespace Go.Proofs.Dm
open Go Go.Proofs Go.Proofs.Dm.Sc
open Fo (isO zeroT LS nlB spB pad trimR valueT spaceT linesP)
open Pc (Sep GV V Facts Reads isBl)
open Gr (ss0 lastS tokAt isBang noEq keyT canR sameT SemAt LI)
namespace Rf
variable {l l':List Tok} {cs:List Com} {src src':List ByteArray}
theorem ops_shape:ops.all (fun x=> !(x.toList.contains 10)&& !(x.toList.contains 9)&& !(x.toList.contains 32)&&(x.toList.head? !=some 125 || x.toList== [125]))=true:=by kernel_rfl
theorem op_shape {w:List UInt8} (h:isIn ops ⟨w.toArray⟩=true):(10:UInt8)∉w∧(9:UInt8)∉w∧(32:UInt8)∉w∧(w.head? =some 125→w= [125]):=by
 simp only[isIn,List.any_eq_true,eqB,beq_iff_eq]at h;obtain⟨o,ho,he⟩:=h;have h4:=List.all_eq_true.1 ops_shape o ho;rw[←he,Lib.toList_data]at h4;simp at h4;obtain⟨⟨⟨h1,h2⟩,h3⟩,h5⟩:=h4;refine⟨h1,h2,h3,fun q=> ?_⟩;rcases h5 with h5 | h5
 ·exact absurd q (by simpa using h5)
 ·exact h5
def Shape (k:Int) (w:List UInt8):Prop:=∃c r,w=c::r∧c≠9∧c≠32∧(10:UInt8)∉w∧(∀b,w.getLast? =some b→isBl b=false)∧(c=125→w= [125]∧k=4)
theorem shape_all {k:Int} {p:UInt8→Bool} {c:UInt8} {r:List UInt8} (h:(c::r).all p=true) (h1:p 9=false) (h2:p 10=false) (h3:p 32=false) (h4:p 125=false):Shape k (c::r):=by
 rw[List.all_eq_true]at h;have ne:∀b∈c::r,∀d,p d=false→b≠d:=fun b hb d hd q=>by
  have:=h b hb;rw[q,hd]at this;cases this
 refine⟨c,r,rfl,ne c (by simp) 9 h1,ne c (by simp) 32 h3,fun q=>ne 10 q 10 h2 rfl,fun b hb=> ?_,fun q=>absurd q (ne c (by simp) 125 h4)⟩;have hm:=List.mem_of_getLast? hb;have n1:=ne b hm 9 h1;have n2:=ne b hm 32 h3;unfold Pc.isBl;simp[n1,n2]
theorem tok_shape {k:Int} {w:List UInt8} (g:Pc.Good (.tok k w)):Shape k w:=by
 unfold Pc.Good at g;simp only[Pc.bytes]at g;cases w with
 | nil=>cases g
 | cons c r=>
  simp only[Pc.stepQ]at g;split at g
  ·cases g
  split at g
  ·cases g
  split at g
  ·cases g
  split at g
  ·split at g
   ·cases g
   ·simp only[Option.some.injEq,Prod.mk.injEq]at g;exact shape_all (Pc.nil_tw g.2) (by decide) (by decide) (by decide) (by decide)
  split at g
  ·split at g
   ·cases g
   ·simp only[Option.some.injEq,Prod.mk.injEq]at g;exact shape_all (Pc.nil_tw g.2) (by decide) (by decide) (by decide) (by decide)
  split at g
  ·rename_i hq;have hc:c=34:=by
    have:=Pc.nat_eq (n:=34) hq;apply UInt8.toNat_inj.1;exact this
   unfold Pc.textQ at g;simp only at g;split at g
   ·simp only[Option.some.injEq,Prod.mk.injEq,Pc.tok.injEq,List.cons.injEq,true_and]at g;have hall:=Pc.all_takeWhile (fun b:UInt8=>b !=34&&b !=10) r;rw[List.all_eq_true]at hall;obtain⟨⟨_,e⟩,_⟩:=g;generalize r.takeWhile (fun b:UInt8=>b !=34&&b !=10)=v at *;subst hc;refine⟨34,r,rfl,by decide,by decide,fun q=> ?_,fun b hb=> ?_,fun q=>absurd q (by decide)⟩
    ·rw[←e]at q;simp only[List.mem_cons,List.mem_append,List.not_mem_nil,or_false]at q;rcases q with q | q | q
     ·cases q
     ·have:=hall 10 q;simp at this
     ·cases q
    ·rw[←e,List.getLast?_cons,List.getLast?_append,List.getLast?_singleton]at hb;simp at hb;rw[←hb];decide
   ·cases g
  split at g
  ·rename_i hs;have hc:c=59:=by
    have:=Pc.nat_eq (n:=59) hs;apply UInt8.toNat_inj.1;exact this
   simp only[Option.some.injEq,Prod.mk.injEq,Pc.tok.injEq,List.cons.injEq,true_and]at g;rw[hc,←g.1.2];exact⟨59,[],rfl,by decide,by decide,by decide,fun b hb=>by cases hb;decide,fun q=>absurd q (by decide)⟩
  ·have key:∀w:List UInt8,w=c::r→isIn ops ⟨w.toArray⟩=true→k=4→Shape k (c::r):=by
    intro w hw hi h4;obtain⟨s1,s2,s3,s4⟩:=op_shape hi;rw[hw]at s1 s2 s3 s4;refine⟨c,r,rfl,fun q=>s2 (by simp[q]),fun q=>s3 (by simp[q]),s1,fun b hb=> ?_,fun q=>⟨s4 (by rw[q];rfl),h4⟩⟩;have hm:=List.mem_of_getLast? hb;have n1:b≠9:=by rintro rfl;exact s2 hm
    have n2:b≠32:=by rintro rfl;exact s3 hm
    unfold Pc.isBl;simp[n1,n2]
   unfold Pc.opQ at g;split at g
   ·rename_i ho;cases r with
    | nil=>cases ho
    | cons d r=>
     simp only[Option.some.injEq,Prod.mk.injEq,Pc.tok.injEq,List.take_succ_cons,List.take_zero,List.drop_succ_cons,List.drop_zero]at g;exact key [c,d] (by rw[g.1.2]) ho g.1.1.symm
   ·split at g
    ·rename_i hi;simp only[Option.some.injEq,Prod.mk.injEq,Pc.tok.injEq]at g;exact key [c] (by rw[g.1.2]) hi g.1.1.symm
    ·cases g
theorem it_shape (hF:Facts l cs) {p:Option It} {x:It} (h:Lnk l cs p x):∃c r,Pc.bytes (itQ l x)=c::r∧c≠9∧c≠32∧(10:UInt8)∉c::r∧(∀b,(c::r).getLast? =some b→isBl b=false)∧(c==125)=shutR l x:=by
 have g:=(it_gv hF h).1;cases hc:x.com with
 | false=>
  obtain⟨i,t,rfl,hg,h6,h7⟩:=h.tok hc;have e:itQ l (tokI i t)= .tok t.kind t.text.data.toList:=by show Pc.tok (tk l i).kind (tk l i).text.data.toList=_;rw[tk_get hg]
  rw[e]at g⊢;obtain⟨c,r,hw,s1,s2,s3,s4,s5⟩:=tok_shape g;rw[hw]at s3 s4 s5;refine⟨c,r,hw,s1,s2,s3,s4,?_⟩;have es:shutR l (tokI i t)=isO t [125]:=by show isO (tk l i) [125]=_;rw[tk_get hg]
  rw[es];unfold Fo.isO;rw[Lib.toList_data,hw]
  by_cases q:c=125
  ·obtain⟨q1,q2⟩:=s5 q;rw[q1,q2,q];rfl
  ·have:(c::r== [125])=false:=by
    rw[beq_eq_false_iff_ne];intro k;simp only[List.cons.injEq]at k;exact q k.1
   rw[this,Bool.and_false];simpa using q
 | true=>
  obtain⟨c,hm,i,rfl,_⟩:=h.com hc;have e:itQ l (comI c)= .com (trimR c.text).data.toList:=rfl;rw[e]at g⊢;obtain⟨r,hr,h10⟩:=Pc.com_good.1 g;obtain⟨q,_,_,h3⟩:=Pc.trim_split c.text.data.toList;have et:(trimR c.text).data.toList=Lib.trimRightS c.text.data.toList [32,9]:=rfl;refine⟨47,47::r,hr,by decide,by decide,?_,?_,rfl⟩
  ·simp only[List.mem_cons,not_or];exact⟨by decide,by decide,h10⟩
  ·rw[←hr,et];exact h3
def lineQ (l:List Tok) (src:List ByteArray):List UInt8→Option It→List It→List (List UInt8)
 | cur,_,[]=> [cur]
 | cur,none,x::xs=>lineQ l src (cur ++ flat (sepQ l src none x)++ Pc.bytes (itQ l x)) (some x) xs
 | cur,some b,x::xs=>if breaksR l b x then cur::((if gapR l src b x then [[]]else [])++ lineQ l src (flat (tabsP (tabsR l x).toNat)++ Pc.bytes (itQ l x)) (some x) xs)
  else lineQ l src (cur ++ flat (sepQ l src (some b) x)++ Pc.bytes (itQ l x)) (some x) xs
theorem lineQ_ne:∀(xs:List It) (cur:List UInt8) (p:Option It),lineQ l src cur p xs≠ []
 | [],cur,p=>by simp[lineQ]
 | x::xs,cur,none=>by unfold lineQ;exact lineQ_ne xs _ _
 | x::xs,cur,some b=>by
  unfold lineQ;split
  ·simp
  ·exact lineQ_ne xs _ _
theorem no10_rep (n:Nat):(10:UInt8)∉List.replicate n 9:=fun h=>by
 have:=List.eq_of_mem_replicate h;cases this
theorem sep_no10 {p:Option It} {x:It} (h:∀b,p=some b→breaksR l b x=false):(10:UInt8)∉flat (sepQ l src p x):=by
 cases p with
 | none=>rw[sepQ_none,flat_tabs];exact no10_rep _
 | some b=>
  rw[sepQ_some,if_neg (by rw[h b rfl];decide)];split
  ·simp[flat,Pc.bytes]
  ·split
   ·simp[flat,Pc.bytes]
   ·simp[flat]
theorem spl_lines (hF:Facts l cs):∀(xs:List It) (p:Option It) (cur:List UInt8),Lk l cs p xs→(10:UInt8)∉cur→Gr.spl (cur ++ flat (outQ l src p xs ++ [.nl]))=lineQ l src cur p xs ++ [[]]
 | [],p,cur,hk,hc=>by
  have e:flat (outQ l src p [] ++ [Pc.nl])= [10]:=rfl;rw[e,Gr.spl_app _ _ hc];rfl
 | x::xs,p,cur,hk,hc=>by
  obtain⟨c,r,hb,_,_,h10,_⟩:=it_shape hF hk.1;have e:outQ l src p (x::xs)++ [.nl]=sepQ l src p x ++(itQ l x::(outQ l src (some x) xs ++ [.nl])):=by
   show(sepQ l src p x ++ itQ l x::outQ l src (some x) xs)++ [Pc.nl]=_;rw[List.append_assoc];rfl
  have go:∀cur:List UInt8,(10:UInt8)∉cur→Gr.spl (cur ++(Pc.bytes (itQ l x)++ flat (outQ l src (some x) xs ++ [.nl])))=lineQ l src (cur ++ Pc.bytes (itQ l x)) (some x) xs ++ [[]]:=by
   intro cur hcur;rw[←List.append_assoc];refine spl_lines hF xs (some x) _ hk.2 ?_;rw[hb,List.mem_append];rintro(q | q)
   ·exact hcur q
   ·exact h10 q
  have plain:(∀b,p=some b→breaksR l b x=false)→Gr.spl (cur ++ flat (outQ l src p (x::xs)++ [.nl]))=lineQ l src (cur ++ flat (sepQ l src p x)++ Pc.bytes (itQ l x)) (some x) xs ++ [[]]:=by
   intro h;rw[e,flat_app,flat_cons,←List.append_assoc];refine go _ ?_;rw[List.mem_append];rintro(q | q)
   ·exact hc q
   ·exact sep_no10 h q
  cases p with
  | none=>unfold lineQ;exact plain fun b q=>by cases q
  | some b=>
   unfold lineQ;cases hbr:breaksR l b x with
   | false=>
    rw[if_neg (by decide)];exact plain fun b' q=>by cases q;exact hbr
   | true=>
    rw[if_pos rfl,e,flat_app,flat_cons];rw[sepQ_some,if_pos hbr,flat_app];have hn:(10:UInt8)∉flat (tabsP (tabsR l x).toNat):=by rw[flat_tabs];exact no10_rep _
    split
    ·have e2:flat [Pc.nl,Pc.nl]= [10,10]:=rfl;rw[e2];show Gr.spl (cur ++(([10] ++([10] ++ flat (tabsP (tabsR l x).toNat)))++ _))=_;rw[List.append_assoc,List.append_assoc];show Gr.spl (cur ++ 10::([] ++ 10::(flat (tabsP (tabsR l x).toNat)++ _)))=_;rw[Gr.spl_app _ _ hc,Gr.spl_app _ _ (by simp),go _ hn];rfl
    ·have e2:flat [Pc.nl]= [10]:=rfl;rw[e2,List.append_assoc];show Gr.spl (cur ++ 10::(flat (tabsP (tabsR l x).toNat)++ _))=_;rw[Gr.spl_app _ _ hc,go _ hn];rfl
def At (y:SS):Prop:=∀t∈y.l,t.at_≤(y.at_:Int)
theorem at_ap {y:SS} (h:At y) (q:Pc):At (Pc.ap y q)∧y.at_≤(Pc.ap y q).at_∧∃r,(Pc.ap y q).l=y.l ++ r∧∀t∈r,(y.at_:Int)≤t.at_:=by
 have hat:=Pc.ap_at y q;have hs:∃r,(Sc.semi y).l=y.l ++ r∧∀t∈r,t.at_=(y.at_:Int):=by
  rw[semi_def];split
  ·refine⟨_,rfl,fun t ht=> ?_⟩;rw[List.mem_singleton]at ht;subst ht;rfl
  ·exact⟨[],by simp,fun t ht=>by cases ht⟩
 have key:∃r,(Pc.ap y q).l=y.l ++ r∧∀t∈r,t.at_=(y.at_:Int):=by
  cases q with
  | sp b=>exact⟨[],by simp[Pc.ap],fun t ht=>by cases ht⟩
  | nl=>exact hs
  | com w=>exact hs
  | tok k w=>
   refine⟨_,rfl,fun t ht=> ?_⟩;rw[List.mem_singleton]at ht;subst ht;rfl
 obtain⟨r,h1,h2⟩:=key;refine⟨fun t ht=> ?_,by omega,r,h1,fun t ht=>by rw[h2 t ht];exact Int.le_refl _⟩;rw[h1,List.mem_append]at ht;rcases ht with ht | ht
 ·have:=h t ht;omega
 ·have:=h2 t ht;omega
theorem at_fold:∀(qs:List Pc) (y:SS),At y→At (qs.foldl Pc.ap y)∧y.at_≤(qs.foldl Pc.ap y).at_∧∃r,(qs.foldl Pc.ap y).l=y.l ++ r∧∀t∈r,(y.at_:Int)≤t.at_
 | [],y,h=>⟨h,Nat.le_refl _,[],by simp,fun t ht=>by cases ht⟩
 | q::qs,y,h=>by
  obtain⟨a1,a2,r1,a3,a4⟩:=at_ap h q;obtain⟨b1,b2,r2,b3,b4⟩:=at_fold qs _ a1;refine⟨b1,Nat.le_trans a2 b2,r1 ++ r2,by rw[List.foldl_cons,b3,a3,List.append_assoc],fun t ht=> ?_⟩;rw[List.mem_append]at ht;rcases ht with ht | ht
  ·exact a4 t ht
  ·have:=b4 t ht;omega
theorem at_ended {y:SS} (h:At y):∃r,ended y=y.l ++ r∧∀t∈r,(y.at_:Int)≤t.at_:=by
 have ea:(Sc.semi y).at_=y.at_:=by unfold Sc.semi;split <;> rfl
 unfold ended;rw[semi_def,ea];split
 ·refine⟨_,by rw[List.append_assoc],fun t ht=> ?_⟩;simp only[List.mem_append,List.mem_singleton]at ht;rcases ht with rfl | rfl <;> exact Int.le_refl _
 ·refine⟨_,rfl,fun t ht=> ?_⟩;rw[List.mem_singleton]at ht;subst ht;exact Int.le_refl _
theorem skip_at (a:Int) (r:List Tok) (hr:∀t∈r,a≤t.at_):∀(A:List Tok) (n:Nat),(∀t∈A,t.at_ < a)→La.skipD a (A ++ r) n=n + A.length
 | [],n,h=>by
  cases r with
  | nil=>rfl
  | cons t r=>
   show La.skipD a (t::r) n=_;unfold La.skipD;rw[if_neg (by have:=hr t (by simp);omega)];rfl
 | u::A,n,h=>by
  rw[List.cons_append];unfold La.skipD;rw[if_pos (h u (by simp)),skip_at a r hr A (n + 1) fun t ht=>h t (by simp[ht])];simp only[List.length_cons];omega
def Beg (o:Int) (g:Bool) (cur:List UInt8):Prop:=∃(n:Nat) (c:UInt8) (r:List UInt8),cur=List.replicate n 9 ++ c::r∧c≠9∧c≠32∧(∀b,(c::r).getLast? =some b→isBl b=false)∧(if c=125 then(n:Int)=o - 1 else((n:Int)=o∨(g=true∧(n:Int)=o + 1)))
theorem beg_more {o:Int} {g:Bool} {cur a b:List UInt8} (h:Beg o g cur) (hb:b≠ []) (hl:∀c,b.getLast? =some c→isBl c=false):Beg o g (cur ++ a ++ b):=by
 obtain⟨n,c,r,h1,h2,h3,h4,h5⟩:=h;refine⟨n,c,r ++ a ++ b,by rw[h1];simp,h2,h3,fun d hd=> ?_,h5⟩;obtain⟨e,he⟩:∃e,b.getLast? =some e:=by
  cases hq:b.getLast? with
  | none=>exact absurd (List.getLast?_eq_none_iff.1 hq) hb
  | some e=>exact⟨e,rfl⟩
 have:(c::(r ++ a ++ b)).getLast? =some e:=by
  rw[←List.cons_append,List.getLast?_append,he];rfl
 rw[this]at hd;cases hd;exact hl d he
theorem trim_self {w:List UInt8} (h:∀b,w.getLast? =some b→isBl b=false):Lib.trimRightS w [32,9]=w:=by
 unfold Lib.trimRightS;cases hw:w.reverse with
 | nil=>
  have:w= []:=by simpa using hw
  rw[this];rfl
 | cons b r=>
  have hb:=h b (by rw[←List.head?_reverse,hw];rfl);rw[List.dropWhile_cons,if_neg (by unfold Pc.isBl at hb;rw[hb];decide),←hw,List.reverse_reverse]
theorem tw_rep (n:Nat) (c:UInt8) (r:List UInt8) (h:c≠9):((List.replicate n 9 ++ c::r).takeWhile (fun b:UInt8=>b==9)).length=n:=by
 induction n with
 | zero=>
  have:(c==9)=false:=by simpa using h
  simp[this]
 | succ n ih=>
  rw[List.replicate_succ,List.cons_append,List.takeWhile_cons,if_pos (by decide),List.length_cons,ih]
theorem right_beg {L:List ByteArray} {i:Nat} {ln:ByteArray} {a:Int} (h:Beg (La.opens (l.take (La.skipD a l 0))) (goesL (l.take (La.skipD a l 0))) ln.data.toList):rightR l L i ln a=true:=by
 obtain⟨n,c,r,h1,h2,h3,h4,h5⟩:=h;unfold rightR;have hlast:∀b,ln.data.toList.getLast? =some b→isBl b=false:=by
  intro b hb;rw[h1,List.getLast?_append]at hb;cases hq:(c::r).getLast? with
  | none=>simp at hq
  | some d=>
   rw[hq]at hb;cases hb;exact h4 _ hq
 have e1:((trimR ln).toList==ln.toList)=true:=by
  rw[Lib.toList_data,Lib.toList_data,beq_iff_eq];exact trim_self hlast
 have e2:ln.toList.isEmpty=false:=by
  rw[Lib.toList_data,h1];cases n <;> rfl
 have e3:nines ln=n:=by rw[nines_tw,h1,tw_rep n c r h2]
 have e4:(ln[nines ln]?).getD 0=c:=by
  rw[e3,ba_get,h1,List.getElem?_append_right (by simp)];simp
 rw[e1,e2];simp only[Bool.not_true,Bool.false_eq_true,if_false];rw[e4,e3]
 by_cases q:c=125
 ·rw[if_pos q]at h5;rw[if_pos (by simpa using q)];simpa using h5
 ·rw[if_neg q]at h5;rw[if_neg (by simpa using q)];have e5:(c==32)=false:=by simpa using h3
  rw[e5];rcases h5 with h5 | ⟨h5,h6⟩
  ·simp[h5]
  ·rw[h5];simp[h6]
theorem beg_new (hF:Facts l cs) {p:Option It} {x:It} (hk:Lnk l cs p x) (hb:∀j,0≤Gr.ob l j∧Gr.ob l j≤40) {y:SS} {r:List Tok} {a:Int} (hl:l=y.l ++ r) (h1:∀t∈y.l,t.at_ < a) (h2:∀t∈r,a≤t.at_) (hx:x.tok=(y.l.length:Int)):
  Beg (La.opens (l.take (La.skipD a l 0))) (goesL (l.take (La.skipD a l 0))) (flat (tabsP (tabsR l x).toNat)++ Pc.bytes (itQ l x)):=by
 obtain⟨c,w,hw,s1,s2,s3,s4,s5⟩:=it_shape hF hk;have es:La.skipD a l 0=y.l.length:=by
  conv=>lhs;rw[hl]
  rw[skip_at a r h2 y.l 0 h1,Nat.zero_add]
 have et:l.take (La.skipD a l 0)=y.l:=by rw[es,hl,List.take_left]
 have et2:l.take y.l.length=y.l:=by rw[hl,List.take_left]
 have hlen:y.l.length≤l.length:=by rw[hl];simp
 have eg:goesL y.l=(decide (0 < y.l.length)&&onR (tk l (y.l.length - 1))):=by
  unfold goesL;rcases Nat.eq_zero_or_pos y.l.length with q | q
  ·have:y.l= []:=List.length_eq_zero_iff.1 q;rw[this];rfl
  ·have:=take_last (l:=l) q hlen;rw[et2]at this;rw[this,decide_eq_true q];rfl
 have ob1:=(hb y.l.length).1;have eo:Gr.ob l y.l.length=La.opens y.l:=by show La.opens (l.take y.l.length)=_;rw[et2]
 rw[et,flat_tabs,hw,tabs_form hx,et2,eg];cases hs:shutR l x with
 | true=>
  have hc:c=125:=by rw[hs]at s5;simpa using s5
  have ob2:0≤La.opens y.l - 1:=by
   cases hc2:x.com with
   | true=>unfold shutR at hs;rw[hc2]at hs;cases hs
   | false=>
    obtain⟨i,t,rfl,hg,h6,h7⟩:=hk.tok hc2;have ei:i=y.l.length:=by have:((i:Nat):Int)=_:=hx;omega
    have hsh:isO t [125]=true:=by
     have:isO (tk l i) [125]=true:=hs;rw[tk_get hg]at this;exact this
    have:=(hb (i + 1)).1;rw[ob_step hg]at this;unfold La.opT at this;have ho:isO t [123]=false:=by
     unfold Fo.isO at hsh⊢;rw[Bool.and_eq_true,beq_iff_eq,beq_iff_eq]at hsh;rw[hsh.2,Bool.and_eq_false_iff];exact .inr rfl
    rw[ho,hsh,ei,eo]at this;simpa using this
  refine⟨_,c,w,rfl,s1,s2,s4,?_⟩;rw[if_pos hc];simp only[if_true];omega
 | false=>
  have hc:c≠125:=by rw[hs]at s5;simpa using s5
  refine⟨_,c,w,rfl,s1,s2,s4,?_⟩;rw[if_neg hc];simp only[Bool.false_eq_true,if_false];cases hd:(decide (0 < y.l.length)&&onR (tk l (y.l.length - 1)))with
  | true=>
   right;simp only[if_true];exact⟨trivial,by omega⟩
  | false=>
   left;simp only[Bool.false_eq_true,if_false];omega
end Rf
end Go.Proofs.Dm
set_option maxHeartbeats 4000000
namespace Go.Proofs.Dm
open Go Go.Proofs Go.Proofs.Dm.Sc
open Fo (isO zeroT LS nlB spB pad trimR valueT spaceT linesP)
open Pc (Sep GV V Facts Reads isBl)
open Gr (ss0 lastS tokAt isBang noEq keyT canR sameT SemAt LI)
namespace Rf
variable {l l':List Tok} {cs:List Com} {src src':List ByteArray}
theorem fold_at:∀(qs:List Pc) (y:SS),(qs.foldl Pc.ap y).at_=y.at_ +(flat qs).length
 | [],y=>rfl
 | q::qs,y=>by
  rw[List.foldl_cons,fold_at qs,Pc.ap_at,flat_cons,List.length_append];omega
theorem head_it {p:Option It} {x:It} {y:SS} {rest:List Pc} {xs:List It} (hk:Lnk l cs p x) (h:pIt y (itQ l x::rest)=x::xs):pIt (Pc.ap y (itQ l x)) rest=xs∧(x.tok=(y.l.length:Int)∨x.tok=((Sc.semi y).l.length:Int)):=by
 cases hc:x.com with
 | false=>
  obtain⟨i,t,rfl,hg,h6,h7⟩:=hk.tok hc;have eq:itQ l (tokI i t)= .tok t.kind t.text.data.toList:=by show Pc.tok (tk l i).kind (tk l i).text.data.toList=_;rw[tk_get hg]
  rw[eq]at h⊢;have eo:one y (.tok t.kind t.text.data.toList)= [tokI y.l.length ⟨t.kind,⟨t.text.data.toList.toArray⟩,y.at_,y.line,false⟩]:=by
   show(if(t.kind !=6&&t.kind !=7)=true then _ else _)=_;rw[if_pos];rw[Bool.and_eq_true,bne_iff_ne,bne_iff_ne];exact⟨h6,h7⟩
  have h':one y (.tok t.kind t.text.data.toList)++ pIt (Pc.ap y (.tok t.kind t.text.data.toList)) rest=tokI i t::xs:=h;rw[eo,List.singleton_append,List.cons.injEq]at h';exact⟨h'.2,.inl (congrArg It.tok h'.1).symm⟩
 | true=>
  obtain⟨c,hm,i,rfl,_⟩:=hk.com hc;have h':one y (.com (trimR c.text).data.toList)++ pIt (Pc.ap y (.com (trimR c.text).data.toList)) rest=comI c::xs:=h;unfold one at h';rw[List.singleton_append,List.cons.injEq]at h';exact⟨h'.2,.inr (congrArg It.tok h'.1).symm⟩
theorem right_empty {L:List ByteArray} {i:Nat} {ln ln2:ByteArray} {a:Int} (h:ln2.data.toList= []) (hi:L[i]? =some ln) (hn:ln.data.toList≠ []) (hl:i + 1 + 1 < L.length):rightR l L (i + 1) ln2 a=true:=by
 have e:ln2=⟨#[]⟩:=ba_ext h;subst e;unfold rightR;have e1:((trimR ⟨#[]⟩).toList==(⟨#[]⟩:ByteArray).toList)=true:=by
  rw[Lib.toList_data,Lib.toList_data];rfl
 have e2:(⟨#[]⟩:ByteArray).toList.isEmpty=true:=by rw[Lib.toList_data];rfl
 have e3:((L[i + 1 - 1]?).getD ⟨#[]⟩).toList.isEmpty=false:=by
  rw[Nat.add_sub_cancel,hi,Lib.toList_data];cases hq:ln.data.toList with
  | nil=>exact absurd hq hn
  | cons b r=>show(ln.data.toList).isEmpty=false;rw[hq];rfl
 rw[e1,e2,e3];simp[hl]
theorem map_cons_inv {r:List ByteArray} {c:List UInt8} {t:List (List UInt8)} (h:r.map (·.data.toList)=c::t):∃ln r2,r=ln::r2∧ln.data.toList=c∧r2.map (·.data.toList)=t:=by
 cases r with
 | nil=>cases h
 | cons ln r2=>
  rw[List.map_cons,List.cons.injEq]at h;exact⟨ln,r2,rfl,h.1,h.2⟩
theorem beg_ne {o:Int} {g:Bool} {cur:List UInt8} (h:Beg o g cur):cur≠ []:=by
 obtain⟨n,c,r,h1,_⟩:=h;rw[h1];simp
theorem new_line (hF:Facts l cs) (hb:∀j,0≤Gr.ob l j∧Gr.ob l j≤40) {p:Option It} {x:It} {yn:SS} {rest:List Pc} {xs:List It} (hk:Lnk l cs p x) (hat:At yn) (hlt:∀t∈yn.l,t.at_ <(yn.at_:Int)) (he:lastE yn=false)
  (hp:pIt yn (tabsP (tabsR l x).toNat ++(itQ l x::rest))=x::xs) (hl:l=ended ((tabsP (tabsR l x).toNat ++(itQ l x::rest)).foldl Pc.ap yn)):
  let y2:=Pc.ap ((tabsP (tabsR l x).toNat).foldl Pc.ap yn) (itQ l x)
  let new:=flat (tabsP (tabsR l x).toNat)++ Pc.bytes (itQ l x)
  At y2∧pIt y2 rest=xs∧l=ended (rest.foldl Pc.ap y2)∧(y2.at_:Int)=yn.at_ + new.length∧Beg (La.opens (l.take (La.skipD yn.at_ l 0))) (goesL (l.take (La.skipD yn.at_ l 0))) new:=by
 intro y2 new;obtain⟨a1,a2,ra,a3,a4⟩:=at_fold (tabsP (tabsR l x).toNat ++(itQ l x::rest)) yn hat;obtain⟨re,b1,b2⟩:=at_ended a1;have hl2:l=yn.l ++(ra ++ re):=by rw[←List.append_assoc,←a3,←b1];exact hl
 have hr:∀t∈ra ++ re,(yn.at_:Int)≤t.at_:=fun t ht=>by
  rw[List.mem_append]at ht;rcases ht with ht | ht
  ·exact a4 t ht
  ·have:=b2 t ht;omega
 rw[pIt_blanks _ _ _ (tabs_blank _)]at hp;obtain⟨h1,h2⟩:=head_it hk hp;have eyl:((tabsP (tabsR l x).toNat).foldl Pc.ap yn).l=yn.l:=by rw[fold_tabs]
 have hx:x.tok=(yn.l.length:Int):=by
  rcases h2 with h2 | h2
  ·rw[h2,eyl]
  ·rw[h2,semi_def,lastE_l eyl,he,eyl];rfl
 refine⟨(at_ap (at_fold _ yn hat).1 _).1,h1,?_,?_,beg_new hF hk hb hl2 hlt hr hx⟩
 ·rw[List.foldl_append,List.foldl_cons]at hl;exact hl
 ·show((Pc.ap ((tabsP (tabsR l x).toNat).foldl Pc.ap yn) (itQ l x)).at_:Int)=yn.at_ +(flat (tabsP (tabsR l x).toNat)++ Pc.bytes (itQ l x)).length;rw[Pc.ap_at,fold_at,List.length_append];omega
theorem it_ends (hF:Facts l cs) {p:Option It} {x:It} (h:Lnk l cs p x):Pc.bytes (itQ l x)≠ []∧∀c,(Pc.bytes (itQ l x)).getLast? =some c→isBl c=false:=by
 obtain⟨c,r,hb,_,_,_,h4,_⟩:=it_shape hF h;rw[hb];exact⟨by simp,h4⟩
theorem out_cons (p:Option It) (x:It) (xs:List It):outQ l src p (x::xs)++ [.nl]=sepQ l src p x ++(itQ l x::(outQ l src (some x) xs ++ [.nl])):=by
 show(sepQ l src p x ++ itQ l x::outQ l src (some x) xs)++ [Pc.nl]=_;rw[List.append_assoc];rfl
theorem go_lines (hF:Facts l cs) (hb:∀j,0≤Gr.ob l j∧Gr.ob l j≤40) {L:List ByteArray}:∀(xs:List It) (b:It) (y:SS) (cur:List UInt8) (r:List ByteArray) (i:Nat) (a:Int),Lk l cs (some b) xs→At y→pIt y (outQ l src (some b) xs ++ [.nl])=xs→
  l=ended ((outQ l src (some b) xs ++ [Pc.nl]).foldl Pc.ap y)→L.drop i=r→r.map (·.data.toList)=lineQ l src cur (some b) xs→(y.at_:Int)=a + cur.length→Beg (La.opens (l.take (La.skipD a l 0))) (goesL (l.take (La.skipD a l 0))) cur→goR l L r i a= -1
 | [],b,y,cur,r,i,a,hk,hat,hp,hl,hd,hr,ha,hbeg=>by
  obtain⟨ln,r2,rfl,h1,h2⟩:=map_cons_inv (c:=cur) (t:= []) hr;have:r2= []:=by simpa using h2
  subst this;unfold goR;rw[if_pos (right_beg (by rw[h1];exact hbeg))];rfl
 | x::xs,b,y,cur,r,i,a,hk,hat,hp,hl,hd,hr,ha,hbeg=>by
  rw[out_cons]at hp hl;cases hbr:breaksR l b x with
  | false=>
   rw[pIt_blanks _ _ _ (sep_blank l src (some b) x)]at hp;obtain⟨h1,_⟩:=head_it hk.1 hp;rw[List.foldl_append,List.foldl_cons]at hl;have e:lineQ l src cur (some b) (x::xs)=lineQ l src (cur ++ flat (sepQ l src (some b) x)++ Pc.bytes (itQ l x)) (some x) xs:=by
    conv=>lhs;unfold lineQ
    rw[hbr];rfl
   rw[e]at hr;obtain⟨s1,s2⟩:=it_ends hF hk.1;refine go_lines hF hb xs x _ _ r i a hk.2 (at_ap (at_fold _ y hat).1 _).1 h1 hl hd hr ?_ (beg_more hbeg s1 s2);rw[Pc.ap_at,fold_at];simp only[List.length_append];omega
  | true=>
   have e:lineQ l src cur (some b) (x::xs)=cur::((if gapR l src b x then [[]]else [])++ lineQ l src (flat (tabsP (tabsR l x).toNat)++ Pc.bytes (itQ l x)) (some x) xs):=by
    conv=>lhs;unfold lineQ
    rw[if_pos hbr]
   rw[e]at hr;rw[sepQ_some,if_pos hbr,List.append_assoc]at hp hl;obtain⟨ln,r2,rfl,h1,h2⟩:=map_cons_inv hr;obtain⟨g1,g2⟩:=Gr.drop_one hd;have hsz:(ln.size:Int)=cur.length:=by rw[ba_size,h1]
   have hright:rightR l L i ln a=true:=right_beg (by rw[h1];exact hbeg);cases hg:gapR l src b x with
   | false=>
    rw[hg]at hp hl h2;simp only[Bool.false_eq_true,if_false,List.nil_append]at hp hl h2;have hp':pIt (Pc.ap y .nl) (tabsP (tabsR l x).toNat ++(itQ l x::(outQ l src (some x) xs ++ [.nl])))=x::xs:=hp;have hl':l=ended ((tabsP (tabsR l x).toNat ++(itQ l x::(outQ l src (some x) xs ++ [Pc.nl]))).foldl Pc.ap (Pc.ap y .nl)):=hl;have en:(Pc.ap y .nl).l=(Sc.semi y).l:=rfl;have ena:(Pc.ap y .nl).at_=y.at_ + 1:=rfl;obtain⟨k1,k2,k3,k4,k5⟩:=new_line hF hb (yn:=Pc.ap y .nl) (rest:=outQ l src (some x) xs ++ [.nl]) hk.1 (at_ap hat .nl).1 (fun t ht=>by
     have:=(at_ap hat .nl).1;rw[ena];have h3:t.at_≤(y.at_:Int):=by
      rw[en,semi_def]at ht;split at ht
      ·simp only[List.mem_append,List.mem_singleton]at ht;rcases ht with ht | rfl
       ·exact hat t ht
       ·exact Int.le_refl _
      ·exact hat t ht
     omega) (by rw[lastE_l en,semi_last]) hp' hl'
    unfold goR;rw[if_pos hright];have eat:a +((ln.size:Int)+ 1)=((Pc.ap y .nl).at_:Int):=by rw[ena,hsz];omega
    rw[eat];exact go_lines hF hb xs x _ _ r2 (i + 1) _ hk.2 k1 k2 k3 g2 h2 k4 k5
   | true=>
    rw[hg]at hp hl h2;simp only[if_true,List.singleton_append]at hp hl h2;obtain⟨ln2,r3,rfl,h3,h4⟩:=map_cons_inv h2;obtain⟨g3,g4⟩:=Gr.drop_one g2;have hp':pIt (Pc.ap (Pc.ap y .nl) .nl) (tabsP (tabsR l x).toNat ++(itQ l x::(outQ l src (some x) xs ++ [.nl])))=x::xs:=hp;have hl':l=ended ((tabsP (tabsR l x).toNat ++(itQ l x::(outQ l src (some x) xs ++ [Pc.nl]))).foldl Pc.ap (Pc.ap (Pc.ap y .nl) .nl)):=hl;have en:(Pc.ap (Pc.ap y .nl) .nl).l=(Sc.semi y).l:=semi2 (y:=y) (z:=Pc.ap y .nl) rfl;have ena:(Pc.ap (Pc.ap y .nl) .nl).at_=y.at_ + 2:=rfl;obtain⟨k1,k2,k3,k4,k5⟩:=new_line hF hb (yn:=Pc.ap (Pc.ap y .nl) .nl) (rest:=outQ l src (some x) xs ++ [.nl]) hk.1 (at_ap (at_ap hat .nl).1 .nl).1 (fun t ht=>by
     rw[ena];have h3:t.at_≤(y.at_:Int):=by
      rw[en,semi_def]at ht;split at ht
      ·simp only[List.mem_append,List.mem_singleton]at ht;rcases ht with ht | rfl
       ·exact hat t ht
       ·exact Int.le_refl _
      ·exact hat t ht
     omega) (by rw[lastE_l en,semi_last]) hp' hl'
    have hsz2:(ln2.size:Int)=0:=by rw[ba_size,h3];rfl
    have hlen:i + 1 + 1 < L.length:=by
     rcases Nat.lt_or_ge (i + 1 + 1) L.length with q | q
     ·exact q
     ·rw[List.drop_eq_nil_of_le q]at g4;rw[←g4]at h4;exact absurd h4.symm (lineQ_ne _ _ _)
    unfold goR;rw[if_pos hright];unfold goR;rw[if_pos (right_empty h3 g1 (by rw[h1];exact beg_ne hbeg) hlen)];have eat:a +((ln.size:Int)+ 1)+((ln2.size:Int)+ 1)=((Pc.ap (Pc.ap y .nl) .nl).at_:Int):=by rw[ena,hsz,hsz2];omega
    rw[eat];exact go_lines hF hb xs x _ _ r3 (i + 1 + 1) _ hk.2 k1 k2 k3 g4 h4 k4 k5
theorem items_ne {s:ByteArray} (h:Gr.Parsed s):itemsG (scanP s).1 0 (scanP s).2.1≠ []:=by
 intro q;have hk:=lk_scan (Gr.scanned h.scan);rw[q]at hk;obtain⟨n,hn,h7,_,hs⟩:=hk;obtain⟨x,b,ha,_⟩:=h.ans;unfold Gr.answer Gr.fileS Gr.fileG at ha;obtain⟨_,_,h1,_⟩:=Gr.bind_ok ha;obtain⟨_,hw⟩:=Gr.want_ok h1;have hk0:(tk (scanP s).1 0).kind=6∨(tk (scanP s).1 0).kind=7:=by
  rcases Nat.eq_zero_or_pos n with q | q
  ·subst q;exact .inr h7
  ·exact .inl (hs 0 (Nat.zero_le _) q)
 have e:tokAt (scanP s).1 0=tk (scanP s).1 0:=by
  unfold Gr.tokAt tk;rw[List.getElem?_eq_getElem (by omega)];rfl
 rw[e]at hw;unfold Pp.word at hw;rw[Bool.and_eq_true,Bool.or_eq_true,beq_iff_eq,beq_iff_eq]at hw;rcases hk0 with k | k <;> rw[k]at hw <;> exact absurd hw.1 (by decide)
theorem laid_right {s:ByteArray} (h:Gr.Parsed s) (hb:∀j,0≤Gr.ob (scanP s).1 j∧Gr.ob (scanP s).1 j≤40) (hl:layT s=s):refF s= -1:=by
 obtain⟨hr,_⟩:=laid_reads h;rw[hl]at hr;have hF:=Pc.scan_facts h.scan;have hk:=lk_scan (Gr.scanned h.scan);have hlast:lastS s=(layP s).foldl Pc.ap ss0:=by
  unfold lastS;rw[Pc.reads_last hr]
 obtain⟨e1,e2,_⟩:=Gr.scan_last h.scan;have hit:=scan_items h.scan hlast;have hended:(scanP s).1=ended ((layP s).foldl Pc.ap ss0):=by rw[e1,hlast]
 have hbytes:s.data.toList=flat (layP s):=by
  conv=>lhs;rw[←hl]
  exact lay_bytes _ _ _
 have hne:=items_ne h;unfold layP layQ at hit hended hbytes;have htb:∀t∈(scanP s).1,0≤t.at_:=fun t ht=>(Gr.scan_tb t ht).1
 generalize itemsG (scanP s).1 0 (scanP s).2.1=xs at *;have hends:endsNl s=true:=by
  unfold endsNl;rw[ba_get,ba_size,←List.getLast?_eq_getElem?,hbytes,flat_app];have e10:flat [Pc.nl]= [10]:=rfl;rw[e10,List.getLast?_append];rfl
 unfold refF;have hd:decide (0≤(scanP s).2.2)=false:=by have:=h.scan;simp;omega
 rw[hd,hends];simp only[Bool.not_true,Bool.or_self,Bool.false_eq_true,if_false];have hmap:(linesP s).dropLast.map (·.data.toList)=lineQ (scanP s).1 (linesP s) [] none xs:=by
  rw[List.map_dropLast,Gr.lines_spl,hbytes];have:=spl_lines (src:=linesP s) hF xs none [] hk (by simp);rw[List.nil_append]at this;rw[this,List.dropLast_concat]
 cases xs with
 | nil=>exact absurd rfl hne
 | cons x xs=>
  have e:lineQ (scanP s).1 (linesP s) [] none (x::xs)=lineQ (scanP s).1 (linesP s) (flat (tabsP (tabsR (scanP s).1 x).toNat)++ Pc.bytes (itQ (scanP s).1 x)) (some x) xs:=rfl;rw[e]at hmap;rw[out_cons,sepQ_none]at hit hended;obtain⟨k1,k2,k3,k4,k5⟩:=new_line hF hb (yn:=ss0) (rest:=outQ (scanP s).1 (linesP s) (some x) xs ++ [.nl]) hk.1 (fun t ht=>by cases ht) (fun t ht=>by cases ht) rfl hit.symm hended;exact go_lines hF hb xs x _ _ _ 0 0 hk.2 k1 k2 k3 rfl hmap (by rw[k4];rfl) k5
end Rf
end Go.Proofs.Dm
