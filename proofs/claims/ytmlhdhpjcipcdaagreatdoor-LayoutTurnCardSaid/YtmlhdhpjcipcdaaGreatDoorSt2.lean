/- Part of the proof: what the walked functions compute. No condition. -/
import Derived.Test.YtmlhdhpjcipcdaaGreatDoorSt1
import Derived.Test.YtmlhdhpjcipcdaaGreatDoorYyx
import Derived.Test.YtmlhdhpjcipcdaaGreatDoorLFy
import Derived.Test.YtmlhdhpjcipcdaaGreatDoorTe
set_option linter.unusedSimpArgs false
set_option linter.unusedVariables false
set_option maxHeartbeats 16000000
set_option maxRecDepth 100000
namespace Go.Proofs.Dm
open Go Go.Proofs Go.Proofs.Tryz Go.Proofs.Dm.Sc
namespace Rf
attribute [local simp] encT encC takes handsOn isTmp Op.operands Call.operands
theorem kX {s:ByteArray} (h:(eP s).2 < 0):(Gr.textP s).2.2 < 0/\(bY s).size<=2000/\eP s=((bY s).data.toList,-1):=by
 unfold eP at h|-;split at h
 ·omega
 ·rename_i h1;split at h
  ·exact absurd h (by decide)
  ·rename_i h2;rw[if_neg h1,if_neg h2];exact⟨by omega,by unfold bY;omega,rfl⟩
theorem oZ {W0 nb} {s:ByteArray} (h2:2<=nb) (hT:Lib.Utf8Tabs 0 1 W0) (hs:s.size < 100000):
 DCalls ⟨Tryz.prog,W0,nb⟩ 29 [.p (.str s)] [] (.tup [.p (.str ⟨(eP s).1.toArray⟩),i64 (eP s).2]) []:=Fo.fmt_eval h2 hT hs (np hs)
def fS (s:ByteArray) (n:Nat):ByteArray:=if n < s.size then s.extract 0 n else s
theorem oY (s:ByteArray) (n:Nat):(fS s n).size<=n:=by
 unfold fS;split
 ·simp;omega
 ·omega
theorem mP {W0 nb s} {n:Nat} (hn:n < 1000000):DCalls ⟨Tryz.prog,W0,nb⟩ 22 [.p (.str s),i64 (n:Nat)] [] (.p (.str (fS s n))) []:=by
 refine dcalls_end Tryz.func22 rfl (by kernel_rfl) 13 Tryz.ntmps22 #[.tmp 4] rfl (bh rfl) ?_;simp
 by_cases h:n < s.size
 ·simp[h,fS,Nat.le_of_lt h];exact .keep (by simp) (.refl _) (by simp) (by simp) (by simp) (by simp)
 ·simp[h,fS];exact .keep (by simp) (.refl _) (by simp) (by simp) (by simp) (by simp)
end Rf
end Go.Proofs.Dm
set_option maxHeartbeats 4000000
namespace Go.Proofs.Dm
open Go Go.Proofs Go.Proofs.Dm.Sc
open Fo (isO zeroT nlB trimR linesP)
namespace Rf
def cX (s:ByteArray):Int:=
 if decide (0<=(scanP s).2.2)|| !b9 s then 0 else goR (scanP s).1 (linesP s).dropLast (linesP s).dropLast 0 0
theorem ja:∀p:List UInt8,Gr.spl (p ++ [10])=Gr.spl p ++ [[]]
 | []=>rfl
 | c::p=>by
  have ih:=ja p;show Gr.spl (c::(p ++ [10]))=_;unfold Gr.spl;split
  ·rw[ih];rfl
  ·rw[ih];cases hp:Gr.spl p with
   | nil=>exact absurd hp (Gr.dD p)
   | cons h t=>rfl
theorem j4 (s:ByteArray):Lib.hasSuffix s.data.toList [10]=b9 s:=by
 unfold b9;rw[ba_get,ba_size,<-aH];generalize s.data.toList=r;rcases cE r with rfl | ⟨q,b,rfl⟩
 ·rfl
 ·rw[bX,ar,aO];simp only[Option.some_or];rw[bf,beq_iff_eq];unfold Lib.hasSuffix;simp;exact eq_comm
theorem pU {s:ByteArray} (h:b9 s=true):(linesP s).dropLast=linesP (La.chop s):=by
 rw[<-j4]at h;apply Gr.j7;rw[c7,Gr.dZ,Gr.dZ];unfold La.chop Lib.trimSuffix;rw[if_pos h];have hs:s.data.toList.isSuffixOf [10]=s.data.toList.isSuffixOf [10]:=rfl;obtain⟨p,hp⟩:∃p,s.data.toList=p ++ [10]:=by
  have h':b9 s=true:=by rw[<-j4];exact h
  unfold b9 at h';rw[ba_get,ba_size,<-aH]at h';generalize s.data.toList=r at h';rcases cE r with rfl | ⟨q,b,rfl⟩
  ·simp at h'
  ·rw[bX,ar,aO]at h';simp only[Option.some_or,beq_iff_eq]at h';subst h';exact⟨q,by rw[bX]⟩
 rw[hp,ja];simp
theorem lP (a:Int) (l:List Tok):∀n,n<=l.length->(∀k t,k < n->l[k]? =some t->t.at_ < a)->La.skipD a (l.drop n) n=La.skipD a l 0
 | 0,h,g=>rfl
 | n + 1,h,g=>by
  rw[<-lP a l n (by omega) (fun k t q=>g k t (by omega))];have hlt:n < l.length:=by omega
  rw[aK hlt];have e:La.skipD a (l[n]::l.drop (n + 1)) n=if(l[n]).at_ < a then La.skipD a (l.drop (n + 1)) (n + 1)else n:=rfl;rw[e,if_pos (g n _ (by omega) (ah hlt))]
theorem kW (a:Int):∀(r:List Tok) (n:Nat),∀k t,n + k < La.skipD a r n->r[k]? =some t->t.at_ < a
 | [],n,k,t,h,g=>by simp at g
 | u::r,n,k,t,h,g=>by
  unfold La.skipD at h;split at h
  ·rename_i q;cases k with
   | zero=>simp only[cj,ak]at g;subst g;exact q
   | succ k=>
    rw[ck]at g;exact kW a r (n + 1) k t (by omega) g
  ·omega
theorem kV (a:Int):∀(r:List Tok) (n:Nat),La.skipD a r n<=n + r.length
 | [],n=>au _
 | t::r,n=>by
  unfold La.skipD;split
  ·have:=kV a r (n + 1);simp only[av];omega
  ·simp
theorem fZ (s:ByteArray):bU s=(s.data.toList.takeWhile (fun b=>b==9)).length:=by
 unfold bU;rw[stop_tw,cI,c9]
theorem nL (s:ByteArray):(La.tl9 s).data.toList=s.data.toList.drop (bU s):=by
 rw[fZ];show(Lib.trimLeftB s.data.toList 9)=_;unfold Lib.trimLeftB;generalize s.data.toList=r
 induction r with
 | nil=>rfl
 | cons c r ih=>
  rw[aA,bg];split
  ·rw[av,dw];exact ih
  ·rfl
theorem kU {s:ByteArray} (h1:(trimR s).toList=s.toList) (h2:s.toList.isEmpty=false):bU s < s.size:=by
 rw[fZ,ba_size];rw[Lib.toList_data,Lib.toList_data]at h1;rw[Lib.toList_data]at h2;have e:(trimR s).data.toList=Lib.trimRightS s.data.toList [32,9]:=rfl;rw[e]at h1;generalize s.data.toList=r at *;rcases al (r.takeWhile (fun b=>b==9)).length r.length with q | q
 ·exact q
 ·exfalso
  have hall:∀b∈r,b=9:=by
   have hp:r.takeWhile (fun b=>b==9)=r:=(eS _).eq_of_length_le q;intro b hb;rw[<-hp]at hb;have:=eK (p:=fun b:UInt8=>b==9) hb;simpa using this
  unfold Lib.trimRightS at h1;have hn:r.reverse.dropWhile ([32,9].contains ·)= []:=by
   rw[gj];intro b hb;rw[hall b (eB.1 hb)];decide
  rw[hn]at h1;simp only[List.reverse_nil]at h1;rw[<-h1]at h2;cases h2
theorem ma (r:List UInt8) (b:UInt8):Lib.hasPrefix r [b]=(r.head?.any (·==b)):=by
 cases r with
 | nil=>rfl
 | cons c r=>
  show [b].isPrefixOf (c::r)=(c==b)
  simp[List.isPrefixOf];rw[bf];simp only[beq_iff_eq];exact eq_comm
theorem oX {l:List Tok} {L:List ByteArray} {i:Nat} {ln:ByteArray} {at_:Int} (hi:i < L.length):La.badL L l i ln (La.skipD at_ l 0)= !bE l L i ln at_:=by
 unfold La.badL bE;cases h1:(trimR ln).toList==ln.toList with
 | false=>rfl
 | true=>
  simp only[cF,aa,if_false];have he:La.emptyB ln=ln.toList.isEmpty:=rfl;rw[he];cases h2:ln.toList.isEmpty with
  | true=>
   simp only[if_true];have e1:(i==0)= !decide (0 < i):=by
    rw[bf];simp
   have e2:(i + 1==L.length)= !decide (i + 1 < L.length):=by
    rw[bf];simp;omega
   have e3:La.emptyB ((L[i - 1]?).getD ⟨#[]⟩)=((L[i - 1]?).getD ⟨#[]⟩).toList.isEmpty:=rfl;rw[e1,e2,e3];cases decide (0 < i)<;> cases decide (i + 1 < L.length)<;> cases ((L[i - 1]?).getD ⟨#[]⟩).toList.isEmpty <;> rfl
  | false=>
   simp only[aa,if_false];have hlt:=kU (beq_iff_eq.1 h1) h2;have htl:=nL ln;have hsz:((ln.size:Int)-((La.tl9 ln).size:Int))=(bU ln:Int):=by
    rw[ba_size (La.tl9 ln),htl,aL,<-ba_size];omega
   have hhd:(La.tl9 ln).data.toList.head? =ln[bU ln]? :=by
    rw[htl,bT,ba_get]
   rw[ma,ma,hhd,hsz,getElem?_pos ln (bU ln) hlt];simp only[eR,bB];generalize ln[bU ln]=b;unfold La.mayS La.tabsS cL
   by_cases q:b=125
   ·subst q;simp
   ·have q':(b==125)=false:=by simpa using q
    rw[q'];simp only[aa,if_false];cases hg:(l.take (La.skipD at_ l 0)).getLast? with
    | none=>
     simp only;cases (b==32)<;> simp
    | some t=>
     simp only;unfold onR;cases (b==32)<;> simp
theorem kT {l:List Tok} {L:List ByteArray}:∀(r:List ByteArray) (i n:Nat) (at_:Int),L.drop i=r->n<=l.length->(∀k t,k < n->l[k]? =some t->t.at_ < at_)->La.goF L l r i at_ n=goR l L r i at_
 | [],i,n,at_,h,hn,g=>rfl
 | ln::r,i,n,at_,h,hn,g=>by
  have hi:i < L.length:=by
   have:=congrArg List.length h;simp only[aL,av]at this;omega
  unfold La.goF goR;rw[lP at_ l n hn g,oX hi];have hd:L.drop (i + 1)=r:=by rw[<-dI,h,dJ]
  have hle:=kV at_ l 0;cases hr:bE l L i ln at_ with
  | false=>rfl
  | true=>
   simp only[cF,aa,if_false,if_true];refine kT r (i + 1) _ _ hd (by omega) (fun k t q e=> ?_);have:=kW at_ l 0 k t (by omega) e;omega
end Rf
end Go.Proofs.Dm
namespace Go.Proofs.Dm
open Go Go.Proofs Go.Proofs.Dm.Sc
open Fo (isO zeroT LS nlB spB pad trimR valueT spaceT linesP)
open Pc (Sep GV V Facts Reads cQ)
open Gr (ss0 aR tokAt bL cP bA bq bm cq LI)
namespace Rf
variable {l l':List Tok} {cs:List Com} {src src':List ByteArray}
theorem oW:ops.all (fun x=> !(x.toList.contains 10)&& !(x.toList.contains 9)&& !(x.toList.contains 32)&&(x.toList.head? !=some 125 || x.toList== [125]))=true:=by kernel_rfl
theorem nK {w:List UInt8} (h:isIn ops ⟨w.toArray⟩=true):(10:UInt8)∉w/\(9:UInt8)∉w/\(32:UInt8)∉w/\(w.head? =some 125->w= [125]):=by
 simp only[isIn,bO,eqB,beq_iff_eq]at h;obtain⟨o,ho,he⟩:=h;have h4:=aF.1 oW o ho;rw[<-he,Lib.toList_data]at h4;simp at h4;obtain⟨⟨⟨h1,h2⟩,h3⟩,h5⟩:=h4;refine⟨h1,h2,h3,fun q=> ?_⟩;rcases h5 with h5 | h5
 ·exact absurd q (by simpa using h5)
 ·exact h5
def Shape (k:Int) (w:List UInt8):Prop:=∃c r,w=c::r/\c≠9/\c≠32/\(10:UInt8)∉w/\(∀b,w.getLast? =some b->cQ b=false)/\(c=125->w= [125]/\k=4)
theorem lO {k:Int} {p:UInt8->Bool} {c:UInt8} {r:List UInt8} (h:(c::r).all p=true) (h1:p 9=false) (h2:p 10=false) (h3:p 32=false) (h4:p 125=false):Shape k (c::r):=by
 rw[aF]at h;have ne:∀b∈c::r,∀d,p d=false->b≠d:=fun b hb d hd q=>by
  have:=h b hb;rw[q,hd]at this;cases this
 refine⟨c,r,rfl,ne c (by simp) 9 h1,ne c (by simp) 32 h3,fun q=>ne 10 q 10 h2 rfl,fun b hb=> ?_,fun q=>absurd q (ne c (by simp) 125 h4)⟩;have hm:=cd hb;have n1:=ne b hm 9 h1;have n2:=ne b hm 32 h3;unfold Pc.cQ;simp[n1,n2]
theorem gZ {k:Int} {w:List UInt8} (g:Pc.Good (.tok k w)):Shape k w:=by
 unfold Pc.Good at g;simp only[Pc.bytes]at g;cases w with
 | nil=>cases g
 | cons c r=>
  simp only[Pc.bI]at g;split at g
  ·cases g
  split at g
  ·cases g
  split at g
  ·cases g
  split at g
  ·split at g
   ·cases g
   ·simp only[ak,aD]at g;exact lO (Pc.dE g.2) (by decide) (by decide) (by decide) (by decide)
  split at g
  ·split at g
   ·cases g
   ·simp only[ak,aD]at g;exact lO (Pc.dE g.2) (by decide) (by decide) (by decide) (by decide)
  split at g
  ·rename_i hq;have hc:c=34:=by
    have:=Pc.nat_eq (n:=34) hq;apply be.1;exact this
   unfold Pc.dH at g;simp only at g;split at g
   ·simp only[ak,aD,Pc.tok.injEq,aY,true_and]at g;have hall:=Pc.fO (fun b:UInt8=>b !=34&&b !=10) r;rw[aF]at hall;obtain⟨⟨_,e⟩,_⟩:=g;generalize r.takeWhile (fun b:UInt8=>b !=34&&b !=10)=v at *;subst hc;refine⟨34,r,rfl,by decide,by decide,fun q=> ?_,fun b hb=> ?_,fun q=>absurd q (by decide)⟩
    ·rw[<-e]at q;simp only[az,ao,bW,or_false]at q;rcases q with q | q | q
     ·cases q
     ·have:=hall 10 q;simp at this
     ·cases q
    ·rw[<-e,List.getLast?_cons,ar,aO]at hb;simp at hb;rw[<-hb];decide
   ·cases g
  split at g
  ·rename_i hs;have hc:c=59:=by
    have:=Pc.nat_eq (n:=59) hs;apply be.1;exact this
   simp only[ak,aD,Pc.tok.injEq,aY,true_and]at g;rw[hc,<-g.1.2];exact⟨59,[],rfl,by decide,by decide,by decide,fun b hb=>by cases hb;decide,fun q=>absurd q (by decide)⟩
  ·have key:∀w:List UInt8,w=c::r->isIn ops ⟨w.toArray⟩=true->k=4->Shape k (c::r):=by
    intro w hw hi h4;obtain⟨s1,s2,s3,s4⟩:=nK hi;rw[hw]at s1 s2 s3 s4;refine⟨c,r,rfl,fun q=>s2 (by simp[q]),fun q=>s3 (by simp[q]),s1,fun b hb=> ?_,fun q=>⟨s4 (by rw[q];rfl),h4⟩⟩;have hm:=cd hb;have n1:b≠9:=by rintro rfl;exact s2 hm
    have n2:b≠32:=by rintro rfl;exact s3 hm
    unfold Pc.cQ;simp[n1,n2]
   unfold Pc.opQ at g;split at g
   ·rename_i ho;cases r with
    | nil=>cases ho
    | cons d r=>
     simp only[ak,aD,Pc.tok.injEq,bG,fy,dw,cI]at g;exact key [c,d] (by rw[g.1.2]) ho g.1.1.symm
   ·split at g
    ·rename_i hi;simp only[ak,aD,Pc.tok.injEq]at g;exact key [c] (by rw[g.1.2]) hi g.1.1.symm
    ·cases g
theorem iZ (hF:Facts l cs) {p:Option It} {x:It} (h:Lnk l cs p x):∃c r,Pc.bytes (itQ l x)=c::r/\c≠9/\c≠32/\(10:UInt8)∉c::r/\(∀b,(c::r).getLast? =some b->cQ b=false)/\(c==125)=bN l x:=by
 have g:=(fD hF h).1;cases hc:x.com with
 | false=>
  obtain⟨i,t,rfl,hg,h6,h7⟩:=h.tok hc;have e:itQ l (aJ i t)= .tok t.kind t.text.data.toList:=by show Pc.tok (tk l i).kind (tk l i).text.data.toList=_;rw[bk hg]
  rw[e]at g|-;obtain⟨c,r,hw,s1,s2,s3,s4,s5⟩:=gZ g;rw[hw]at s3 s4 s5;refine⟨c,r,hw,s1,s2,s3,s4,?_⟩;have es:bN l (aJ i t)=isO t [125]:=by show isO (tk l i) [125]=_;rw[bk hg]
  rw[es];unfold Fo.isO;rw[Lib.toList_data,hw]
  by_cases q:c=125
  ·obtain⟨q1,q2⟩:=s5 q;rw[q1,q2,q];rfl
  ·have:(c::r== [125])=false:=by
    rw[beq_eq_false_iff_ne];intro k;simp only[aY]at k;exact q k.1
   rw[this,cK];simpa using q
 | true=>
  obtain⟨c,hm,i,rfl,_⟩:=h.com hc;have e:itQ l (aV c)= .com (trimR c.text).data.toList:=rfl;rw[e]at g|-;obtain⟨r,hr,h10⟩:=Pc.fG.1 g;obtain⟨q,_,_,h3⟩:=Pc.iu c.text.data.toList;have et:(trimR c.text).data.toList=Lib.trimRightS c.text.data.toList [32,9]:=rfl;refine⟨47,47::r,hr,by decide,by decide,?_,?_,rfl⟩
  ·simp only[az,not_or];exact⟨by decide,by decide,h10⟩
  ·rw[<-hr,et];exact h3
def b8 (l:List Tok) (src:List ByteArray):List UInt8->Option It->List It->List (List UInt8)
 | cur,_,[]=> [cur]
 | cur,none,x::xs=>b8 l src (cur ++ flat (bP l src none x)++ Pc.bytes (itQ l x)) (some x) xs
 | cur,some b,x::xs=>if aC l b x then cur::((if cH l src b x then [[]]else [])++ b8 l src (flat (bw (aW l x).toNat)++ Pc.bytes (itQ l x)) (some x) xs)
  else b8 l src (cur ++ flat (bP l src (some b) x)++ Pc.bytes (itQ l x)) (some x) xs
theorem iY:∀(xs:List It) (cur:List UInt8) (p:Option It),b8 l src cur p xs≠ []
 | [],cur,p=>by simp[b8]
 | x::xs,cur,none=>by unfold b8;exact iY xs _ _
 | x::xs,cur,some b=>by
  unfold b8;split
  ·simp
  ·exact iY xs _ _
theorem kS (n:Nat):(10:UInt8)∉List.replicate n 9:=fun h=>by
 have:=List.eq_of_mem_replicate h;cases this
theorem nJ {p:Option It} {x:It} (h:∀b,p=some b->aC l b x=false):(10:UInt8)∉flat (bP l src p x):=by
 cases p with
 | none=>rw[ig,fK];exact kS _
 | some b=>
  rw[eH,if_neg (by rw[h b rfl];decide)];split
  ·simp[flat,Pc.bytes]
  ·split
   ·simp[flat,Pc.bytes]
   ·simp[flat]
theorem lN (hF:Facts l cs):∀(xs:List It) (p:Option It) (cur:List UInt8),Lk l cs p xs->(10:UInt8)∉cur->Gr.spl (cur ++ flat (bF l src p xs ++ [.nl]))=b8 l src cur p xs ++ [[]]
 | [],p,cur,hk,hc=>by
  have e:flat (bF l src p [] ++ [Pc.nl])= [10]:=rfl;rw[e,Gr.eF _ _ hc];rfl
 | x::xs,p,cur,hk,hc=>by
  obtain⟨c,r,hb,_,_,h10,_⟩:=iZ hF hk.1;have e:bF l src p (x::xs)++ [.nl]=bP l src p x ++(itQ l x::(bF l src (some x) xs ++ [.nl])):=by
   show(bP l src p x ++ itQ l x::bF l src (some x) xs)++ [Pc.nl]=_;rw[ai];rfl
  have go:∀cur:List UInt8,(10:UInt8)∉cur->Gr.spl (cur ++(Pc.bytes (itQ l x)++ flat (bF l src (some x) xs ++ [.nl])))=b8 l src (cur ++ Pc.bytes (itQ l x)) (some x) xs ++ [[]]:=by
   intro cur hcur;rw[<-ai];refine lN hF xs (some x) _ hk.2 ?_;rw[hb,ao];rintro(q | q)
   ·exact hcur q
   ·exact h10 q
  have plain:(∀b,p=some b->aC l b x=false)->Gr.spl (cur ++ flat (bF l src p (x::xs)++ [.nl]))=b8 l src (cur ++ flat (bP l src p x)++ Pc.bytes (itQ l x)) (some x) xs ++ [[]]:=by
   intro h;rw[e,eZ,cU,<-ai];refine go _ ?_;rw[ao];rintro(q | q)
   ·exact hc q
   ·exact nJ h q
  cases p with
  | none=>unfold b8;exact plain fun b q=>by cases q
  | some b=>
   unfold b8;cases hbr:aC l b x with
   | false=>
    rw[if_neg (by decide)];exact plain fun b' q=>by cases q;exact hbr
   | true=>
    rw[if_pos rfl,e,eZ,cU];rw[eH,if_pos hbr,eZ];have hn:(10:UInt8)∉flat (bw (aW l x).toNat):=by rw[fK];exact kS _
    split
    ·have e2:flat [Pc.nl,Pc.nl]= [10,10]:=rfl;rw[e2];show Gr.spl (cur ++(([10] ++([10] ++ flat (bw (aW l x).toNat)))++ _))=_;rw[ai,ai];show Gr.spl (cur ++ 10::([] ++ 10::(flat (bw (aW l x).toNat)++ _)))=_;rw[Gr.eF _ _ hc,Gr.eF _ _ (by simp),go _ hn];rfl
    ·have e2:flat [Pc.nl]= [10]:=rfl;rw[e2,ai];show Gr.spl (cur ++ 10::(flat (bw (aW l x).toNat)++ _))=_;rw[Gr.eF _ _ hc,go _ hn];rfl
def At (y:SS):Prop:=∀t∈y.l,t.at_<=(y.at_:Int)
theorem dT {y:SS} (h:At y) (q:Pc):At (Pc.ap y q)/\y.at_<=(Pc.ap y q).at_/\∃r,(Pc.ap y q).l=y.l ++ r/\∀t∈r,(y.at_:Int)<=t.at_:=by
 have hat:=Pc.dU y q;have hs:∃r,(Sc.semi y).l=y.l ++ r/\∀t∈r,t.at_=(y.at_:Int):=by
  rw[cN];split
  ·refine⟨_,rfl,fun t ht=> ?_⟩;rw[aj]at ht;subst ht;rfl
  ·exact⟨[],by simp,fun t ht=>by cases ht⟩
 have key:∃r,(Pc.ap y q).l=y.l ++ r/\∀t∈r,t.at_=(y.at_:Int):=by
  cases q with
  | sp b=>exact⟨[],by simp[Pc.ap],fun t ht=>by cases ht⟩
  | nl=>exact hs
  | com w=>exact hs
  | tok k w=>
   refine⟨_,rfl,fun t ht=> ?_⟩;rw[aj]at ht;subst ht;rfl
 obtain⟨r,h1,h2⟩:=key;refine⟨fun t ht=> ?_,by omega,r,h1,fun t ht=>by rw[h2 t ht];exact cM _⟩;rw[h1,ao]at ht;rcases ht with ht | ht
 ·have:=h t ht;omega
 ·have:=h2 t ht;omega
theorem eW:∀(qs:List Pc) (y:SS),At y->At (qs.foldl Pc.ap y)/\y.at_<=(qs.foldl Pc.ap y).at_/\∃r,(qs.foldl Pc.ap y).l=y.l ++ r/\∀t∈r,(y.at_:Int)<=t.at_
 | [],y,h=>⟨h,au _,[],by simp,fun t ht=>by cases ht⟩
 | q::qs,y,h=>by
  obtain⟨a1,a2,r1,a3,a4⟩:=dT h q;obtain⟨b1,b2,r2,b3,b4⟩:=eW qs _ a1;refine⟨b1,Nat.le_trans a2 b2,r1 ++ r2,by rw[bM,b3,a3,ai],fun t ht=> ?_⟩;rw[ao]at ht;rcases ht with ht | ht
  ·exact a4 t ht
  ·have:=b4 t ht;omega
theorem kR {y:SS} (h:At y):∃r,ended y=y.l ++ r/\∀t∈r,(y.at_:Int)<=t.at_:=by
 have ea:(Sc.semi y).at_=y.at_:=by unfold Sc.semi;split <;> rfl
 unfold ended;rw[cN,ea];split
 ·refine⟨_,by rw[ai],fun t ht=> ?_⟩;simp only[ao,aj]at ht;rcases ht with rfl | rfl <;> exact cM _
 ·refine⟨_,rfl,fun t ht=> ?_⟩;rw[aj]at ht;subst ht;exact cM _
theorem iP (a:Int) (r:List Tok) (hr:∀t∈r,a<=t.at_):∀(A:List Tok) (n:Nat),(∀t∈A,t.at_ < a)->La.skipD a (A ++ r) n=n + A.length
 | [],n,h=>by
  cases r with
  | nil=>rfl
  | cons t r=>
   show La.skipD a (t::r) n=_;unfold La.skipD;rw[if_neg (by have:=hr t (by simp);omega)];rfl
 | u::A,n,h=>by
  rw[aw];unfold La.skipD;rw[if_pos (h u (by simp)),iP a r hr A (n + 1) fun t ht=>h t (by simp[ht])];simp only[av];omega
def Beg (o:Int) (g:Bool) (cur:List UInt8):Prop:=∃(n:Nat) (c:UInt8) (r:List UInt8),cur=List.replicate n 9 ++ c::r/\c≠9/\c≠32/\(∀b,(c::r).getLast? =some b->cQ b=false)/\(if c=125 then(n:Int)=o - 1 else((n:Int)=o\/(g=true/\(n:Int)=o + 1)))
theorem nI {o:Int} {g:Bool} {cur a b:List UInt8} (h:Beg o g cur) (hb:b≠ []) (hl:∀c,b.getLast? =some c->cQ c=false):Beg o g (cur ++ a ++ b):=by
 obtain⟨n,c,r,h1,h2,h3,h4,h5⟩:=h;refine⟨n,c,r ++ a ++ b,by rw[h1];simp,h2,h3,fun d hd=> ?_,h5⟩;obtain⟨e,he⟩:∃e,b.getLast? =some e:=by
  cases hq:b.getLast? with
  | none=>exact absurd (List.getLast?_eq_none_iff.1 hq) hb
  | some e=>exact⟨e,rfl⟩
 have:(c::(r ++ a ++ b)).getLast? =some e:=by
  rw[<-aw,ar,he];rfl
 rw[this]at hd;cases hd;exact hl d he
theorem oV {w:List UInt8} (h:∀b,w.getLast? =some b->cQ b=false):Lib.trimRightS w [32,9]=w:=by
 unfold Lib.trimRightS;cases hw:w.reverse with
 | nil=>
  have:w= []:=by simpa using hw
  rw[this];rfl
 | cons b r=>
  have hb:=h b (by rw[<-List.head?_reverse,hw];rfl);rw[bg,if_neg (by unfold Pc.cQ at hb;rw[hb];decide),<-hw,fj]
theorem j8 (n:Nat) (c:UInt8) (r:List UInt8) (h:c≠9):((List.replicate n 9 ++ c::r).takeWhile (fun b:UInt8=>b==9)).length=n:=by
 induction n with
 | zero=>
  have:(c==9)=false:=by simpa using h
  simp[this]
 | succ n ih=>
  rw[dr,aw,aA,if_pos (by decide),av,ih]
theorem lM {L:List ByteArray} {i:Nat} {ln:ByteArray} {a:Int} (h:Beg (La.opens (l.take (La.skipD a l 0))) (cL (l.take (La.skipD a l 0))) ln.data.toList):bE l L i ln a=true:=by
 obtain⟨n,c,r,h1,h2,h3,h4,h5⟩:=h;unfold bE;have hlast:∀b,ln.data.toList.getLast? =some b->cQ b=false:=by
  intro b hb;rw[h1,ar]at hb;cases hq:(c::r).getLast? with
  | none=>simp at hq
  | some d=>
   rw[hq]at hb;cases hb;exact h4 _ hq
 have e1:((trimR ln).toList==ln.toList)=true:=by
  rw[Lib.toList_data,Lib.toList_data,beq_iff_eq];exact oV hlast
 have e2:ln.toList.isEmpty=false:=by
  rw[Lib.toList_data,h1];cases n <;> rfl
 have e3:bU ln=n:=by rw[fZ,h1,j8 n c r h2]
 have e4:(ln[bU ln]?).getD 0=c:=by
  rw[e3,ba_get,h1,bV (by simp)];simp
 rw[e1,e2];simp only[cF,aa,if_false];rw[e4,e3]
 by_cases q:c=125
 ·rw[if_pos q]at h5;rw[if_pos (by simpa using q)];simpa using h5
 ·rw[if_neg q]at h5;rw[if_neg (by simpa using q)];have e5:(c==32)=false:=by simpa using h3
  rw[e5];rcases h5 with h5 | ⟨h5,h6⟩
  ·simp[h5]
  ·rw[h5];simp[h6]
theorem mO (hF:Facts l cs) {p:Option It} {x:It} (hk:Lnk l cs p x) (hb:∀j,0<=Gr.ob l j/\Gr.ob l j<=40) {y:SS} {r:List Tok} {a:Int} (hl:l=y.l ++ r) (h1:∀t∈y.l,t.at_ < a) (h2:∀t∈r,a<=t.at_) (hx:x.tok=(y.l.length:Int)):
  Beg (La.opens (l.take (La.skipD a l 0))) (cL (l.take (La.skipD a l 0))) (flat (bw (aW l x).toNat)++ Pc.bytes (itQ l x)):=by
 obtain⟨c,w,hw,s1,s2,s3,s4,s5⟩:=iZ hF hk;have es:La.skipD a l 0=y.l.length:=by
  conv=>lhs;rw[hl]
  rw[iP a r h2 y.l 0 h1,c9]
 have et:l.take (La.skipD a l 0)=y.l:=by rw[es,hl,bZ]
 have et2:l.take y.l.length=y.l:=by rw[hl,bZ]
 have hlen:y.l.length<=l.length:=by rw[hl];simp
 have eg:cL y.l=(decide (0 < y.l.length)&&onR (tk l (y.l.length - 1))):=by
  unfold cL;rcases bt y.l.length with q | q
  ·have:y.l= []:=List.length_eq_zero_iff.1 q;rw[this];rfl
  ·have:=fk (l:=l) q hlen;rw[et2]at this;rw[this,decide_eq_true q];rfl
 have ob1:=(hb y.l.length).1;have eo:Gr.ob l y.l.length=La.opens y.l:=by show La.opens (l.take y.l.length)=_;rw[et2]
 rw[et,fK,hw,jC hx,et2,eg];cases hs:bN l x with
 | true=>
  have hc:c=125:=by rw[hs]at s5;simpa using s5
  have ob2:0<=La.opens y.l - 1:=by
   cases hc2:x.com with
   | true=>unfold bN at hs;rw[hc2]at hs;cases hs
   | false=>
    obtain⟨i,t,rfl,hg,h6,h7⟩:=hk.tok hc2;have ei:i=y.l.length:=by have:((i:Nat):Int)=_:=hx;omega
    have hsh:isO t [125]=true:=by
     have:isO (tk l i) [125]=true:=hs;rw[bk hg]at this;exact this
    have:=(hb (i + 1)).1;rw[iU hg]at this;unfold La.opT at this;have ho:isO t [123]=false:=by
     unfold Fo.isO at hsh|-;rw[ae,beq_iff_eq,beq_iff_eq]at hsh;rw[hsh.2,aB];exact .inr rfl
    rw[ho,hsh,ei,eo]at this;simpa using this
  refine⟨_,c,w,rfl,s1,s2,s4,?_⟩;rw[if_pos hc];simp only[if_true];omega
 | false=>
  have hc:c≠125:=by rw[hs]at s5;simpa using s5
  refine⟨_,c,w,rfl,s1,s2,s4,?_⟩;rw[if_neg hc];simp only[aa,if_false];cases hd:(decide (0 < y.l.length)&&onR (tk l (y.l.length - 1)))with
  | true=>
   right;simp only[if_true];exact⟨trivial,by omega⟩
  | false=>
   left;simp only[aa,if_false];omega
end Rf
end Go.Proofs.Dm
namespace Go.Proofs.Dm
open Go Go.Proofs Go.Proofs.Dm.Sc
open Fo (isO zeroT LS nlB spB pad trimR valueT spaceT linesP)
open Pc (Sep GV V Facts Reads cQ)
open Gr (ss0 aR tokAt bL cP bA bq bm cq LI)
namespace Rf
variable {l l':List Tok} {cs:List Com} {src src':List ByteArray}
theorem gF:∀(qs:List Pc) (y:SS),(qs.foldl Pc.ap y).at_=y.at_ +(flat qs).length
 | [],y=>rfl
 | q::qs,y=>by
  rw[bM,gF qs,Pc.dU,cU,aE];omega
theorem kj {p:Option It} {x:It} {y:SS} {rest:List Pc} {xs:List It} (hk:Lnk l cs p x) (h:pIt y (itQ l x::rest)=x::xs):pIt (Pc.ap y (itQ l x)) rest=xs/\(x.tok=(y.l.length:Int)\/x.tok=((Sc.semi y).l.length:Int)):=by
 cases hc:x.com with
 | false=>
  obtain⟨i,t,rfl,hg,h6,h7⟩:=hk.tok hc;have eq:itQ l (aJ i t)= .tok t.kind t.text.data.toList:=by show Pc.tok (tk l i).kind (tk l i).text.data.toList=_;rw[bk hg]
  rw[eq]at h|-;have eo:one y (.tok t.kind t.text.data.toList)= [aJ y.l.length ⟨t.kind,⟨t.text.data.toList.toArray⟩,y.at_,y.line,false⟩]:=by
   show(if(t.kind !=6&&t.kind !=7)=true then _ else _)=_;rw[if_pos];rw[ae,bne_iff_ne,bne_iff_ne];exact⟨h6,h7⟩
  have h':one y (.tok t.kind t.text.data.toList)++ pIt (Pc.ap y (.tok t.kind t.text.data.toList)) rest=aJ i t::xs:=h;rw[eo,da,aY]at h';exact⟨h'.2,.inl (congrArg It.tok h'.1).symm⟩
 | true=>
  obtain⟨c,hm,i,rfl,_⟩:=hk.com hc;have h':one y (.com (trimR c.text).data.toList)++ pIt (Pc.ap y (.com (trimR c.text).data.toList)) rest=aV c::xs:=h;unfold one at h';rw[da,aY]at h';exact⟨h'.2,.inr (congrArg It.tok h'.1).symm⟩
theorem qd {L:List ByteArray} {i:Nat} {ln ln2:ByteArray} {a:Int} (h:ln2.data.toList= []) (hi:L[i]? =some ln) (hn:ln.data.toList≠ []) (hl:i + 1 + 1 < L.length):bE l L (i + 1) ln2 a=true:=by
 have e:ln2=⟨#[]⟩:=ba_ext h;subst e;unfold bE;have e1:((trimR ⟨#[]⟩).toList==(⟨#[]⟩:ByteArray).toList)=true:=by
  rw[Lib.toList_data,Lib.toList_data];rfl
 have e2:(⟨#[]⟩:ByteArray).toList.isEmpty=true:=by rw[Lib.toList_data];rfl
 have e3:((L[i + 1 - 1]?).getD ⟨#[]⟩).toList.isEmpty=false:=by
  rw[aU,hi,Lib.toList_data];cases hq:ln.data.toList with
  | nil=>exact absurd hq hn
  | cons b r=>show(ln.data.toList).isEmpty=false;rw[hq];rfl
 rw[e1,e2,e3];simp[hl]
theorem j6 {r:List ByteArray} {c:List UInt8} {t:List (List UInt8)} (h:r.map (·.data.toList)=c::t):∃ln r2,r=ln::r2/\ln.data.toList=c/\r2.map (·.data.toList)=t:=by
 cases r with
 | nil=>cases h
 | cons ln r2=>
  rw[bR,aY]at h;exact⟨ln,r2,rfl,h.1,h.2⟩
theorem kg {o:Int} {g:Bool} {cur:List UInt8} (h:Beg o g cur):cur≠ []:=by
 obtain⟨n,c,r,h1,_⟩:=h;rw[h1];simp
theorem iX (hF:Facts l cs) (hb:∀j,0<=Gr.ob l j/\Gr.ob l j<=40) {p:Option It} {x:It} {yn:SS} {rest:List Pc} {xs:List It} (hk:Lnk l cs p x) (hat:At yn) (hlt:∀t∈yn.l,t.at_ <(yn.at_:Int)) (he:bo yn=false)
  (hp:pIt yn (bw (aW l x).toNat ++(itQ l x::rest))=x::xs) (hl:l=ended ((bw (aW l x).toNat ++(itQ l x::rest)).foldl Pc.ap yn)):
  let y2:=Pc.ap ((bw (aW l x).toNat).foldl Pc.ap yn) (itQ l x)
  let new:=flat (bw (aW l x).toNat)++ Pc.bytes (itQ l x)
  At y2/\pIt y2 rest=xs/\l=ended (rest.foldl Pc.ap y2)/\(y2.at_:Int)=yn.at_ + new.length/\Beg (La.opens (l.take (La.skipD yn.at_ l 0))) (cL (l.take (La.skipD yn.at_ l 0))) new:=by
 intro y2 new;obtain⟨a1,a2,ra,a3,a4⟩:=eW (bw (aW l x).toNat ++(itQ l x::rest)) yn hat;obtain⟨re,b1,b2⟩:=kR a1;have hl2:l=yn.l ++(ra ++ re):=by rw[<-ai,<-a3,<-b1];exact hl
 have hr:∀t∈ra ++ re,(yn.at_:Int)<=t.at_:=fun t ht=>by
  rw[ao]at ht;rcases ht with ht | ht
  ·exact a4 t ht
  ·have:=b2 t ht;omega
 rw[il _ _ _ (jX _)]at hp;obtain⟨h1,h2⟩:=kj hk hp;have eyl:((bw (aW l x).toNat).foldl Pc.ap yn).l=yn.l:=by rw[hJ]
 have hx:x.tok=(yn.l.length:Int):=by
  rcases h2 with h2 | h2
  ·rw[h2,eyl]
  ·rw[h2,cN,dy eyl,he,eyl];rfl
 refine⟨(dT (eW _ yn hat).1 _).1,h1,?_,?_,mO hF hk hb hl2 hlt hr hx⟩
 ·rw[cg,bM]at hl;exact hl
 ·show((Pc.ap ((bw (aW l x).toNat).foldl Pc.ap yn) (itQ l x)).at_:Int)=yn.at_ +(flat (bw (aW l x).toNat)++ Pc.bytes (itQ l x)).length;rw[Pc.dU,gF,aE];omega
theorem mN (hF:Facts l cs) {p:Option It} {x:It} (h:Lnk l cs p x):Pc.bytes (itQ l x)≠ []/\∀c,(Pc.bytes (itQ l x)).getLast? =some c->cQ c=false:=by
 obtain⟨c,r,hb,_,_,_,h4,_⟩:=iZ hF h;rw[hb];exact⟨by simp,h4⟩
theorem kQ (p:Option It) (x:It) (xs:List It):bF l src p (x::xs)++ [.nl]=bP l src p x ++(itQ l x::(bF l src (some x) xs ++ [.nl])):=by
 show(bP l src p x ++ itQ l x::bF l src (some x) xs)++ [Pc.nl]=_;rw[ai];rfl
theorem gR (hF:Facts l cs) (hb:∀j,0<=Gr.ob l j/\Gr.ob l j<=40) {L:List ByteArray}:∀(xs:List It) (b:It) (y:SS) (cur:List UInt8) (r:List ByteArray) (i:Nat) (a:Int),Lk l cs (some b) xs->At y->pIt y (bF l src (some b) xs ++ [.nl])=xs->
  l=ended ((bF l src (some b) xs ++ [Pc.nl]).foldl Pc.ap y)->L.drop i=r->r.map (·.data.toList)=b8 l src cur (some b) xs->(y.at_:Int)=a + cur.length->Beg (La.opens (l.take (La.skipD a l 0))) (cL (l.take (La.skipD a l 0))) cur->goR l L r i a= -1
 | [],b,y,cur,r,i,a,hk,hat,hp,hl,hd,hr,ha,hbeg=>by
  obtain⟨ln,r2,rfl,h1,h2⟩:=j6 (c:=cur) (t:= []) hr;have:r2= []:=by simpa using h2
  subst this;unfold goR;rw[if_pos (lM (by rw[h1];exact hbeg))];rfl
 | x::xs,b,y,cur,r,i,a,hk,hat,hp,hl,hd,hr,ha,hbeg=>by
  rw[kQ]at hp hl;cases hbr:aC l b x with
  | false=>
   rw[il _ _ _ (ie l src (some b) x)]at hp;obtain⟨h1,_⟩:=kj hk.1 hp;rw[cg,bM]at hl;have e:b8 l src cur (some b) (x::xs)=b8 l src (cur ++ flat (bP l src (some b) x)++ Pc.bytes (itQ l x)) (some x) xs:=by
    conv=>lhs;unfold b8
    rw[hbr];rfl
   rw[e]at hr;obtain⟨s1,s2⟩:=mN hF hk.1;refine gR hF hb xs x _ _ r i a hk.2 (dT (eW _ y hat).1 _).1 h1 hl hd hr ?_ (nI hbeg s1 s2);rw[Pc.dU,gF];simp only[aE];omega
  | true=>
   have e:b8 l src cur (some b) (x::xs)=cur::((if cH l src b x then [[]]else [])++ b8 l src (flat (bw (aW l x).toNat)++ Pc.bytes (itQ l x)) (some x) xs):=by
    conv=>lhs;unfold b8
    rw[if_pos hbr]
   rw[e]at hr;rw[eH,if_pos hbr,ai]at hp hl;obtain⟨ln,r2,rfl,h1,h2⟩:=j6 hr;obtain⟨g1,g2⟩:=Gr.eG hd;have hsz:(ln.size:Int)=cur.length:=by rw[ba_size,h1]
   have hright:bE l L i ln a=true:=lM (by rw[h1];exact hbeg);cases hg:cH l src b x with
   | false=>
    rw[hg]at hp hl h2;simp only[aa,if_false,aP]at hp hl h2;have hp':pIt (Pc.ap y .nl) (bw (aW l x).toNat ++(itQ l x::(bF l src (some x) xs ++ [.nl])))=x::xs:=hp;have hl':l=ended ((bw (aW l x).toNat ++(itQ l x::(bF l src (some x) xs ++ [Pc.nl]))).foldl Pc.ap (Pc.ap y .nl)):=hl;have en:(Pc.ap y .nl).l=(Sc.semi y).l:=rfl;have ena:(Pc.ap y .nl).at_=y.at_ + 1:=rfl;obtain⟨k1,k2,k3,k4,k5⟩:=iX hF hb (yn:=Pc.ap y .nl) (rest:=bF l src (some x) xs ++ [.nl]) hk.1 (dT hat .nl).1 (fun t ht=>by
     have:=(dT hat .nl).1;rw[ena];have h3:t.at_<=(y.at_:Int):=by
      rw[en,cN]at ht;split at ht
      ·simp only[ao,aj]at ht;rcases ht with ht | rfl
       ·exact hat t ht
       ·exact cM _
      ·exact hat t ht
     omega) (by rw[dy en,fb]) hp' hl'
    unfold goR;rw[if_pos hright];have eat:a +((ln.size:Int)+ 1)=((Pc.ap y .nl).at_:Int):=by rw[ena,hsz];omega
    rw[eat];exact gR hF hb xs x _ _ r2 (i + 1) _ hk.2 k1 k2 k3 g2 h2 k4 k5
   | true=>
    rw[hg]at hp hl h2;simp only[if_true,da]at hp hl h2;obtain⟨ln2,r3,rfl,h3,h4⟩:=j6 h2;obtain⟨g3,g4⟩:=Gr.eG g2;have hp':pIt (Pc.ap (Pc.ap y .nl) .nl) (bw (aW l x).toNat ++(itQ l x::(bF l src (some x) xs ++ [.nl])))=x::xs:=hp;have hl':l=ended ((bw (aW l x).toNat ++(itQ l x::(bF l src (some x) xs ++ [Pc.nl]))).foldl Pc.ap (Pc.ap (Pc.ap y .nl) .nl)):=hl;have en:(Pc.ap (Pc.ap y .nl) .nl).l=(Sc.semi y).l:=iL (y:=y) (z:=Pc.ap y .nl) rfl;have ena:(Pc.ap (Pc.ap y .nl) .nl).at_=y.at_ + 2:=rfl;obtain⟨k1,k2,k3,k4,k5⟩:=iX hF hb (yn:=Pc.ap (Pc.ap y .nl) .nl) (rest:=bF l src (some x) xs ++ [.nl]) hk.1 (dT (dT hat .nl).1 .nl).1 (fun t ht=>by
     rw[ena];have h3:t.at_<=(y.at_:Int):=by
      rw[en,cN]at ht;split at ht
      ·simp only[ao,aj]at ht;rcases ht with ht | rfl
       ·exact hat t ht
       ·exact cM _
      ·exact hat t ht
     omega) (by rw[dy en,fb]) hp' hl'
    have hsz2:(ln2.size:Int)=0:=by rw[ba_size,h3];rfl
    have hlen:i + 1 + 1 < L.length:=by
     rcases al (i + 1 + 1) L.length with q | q
     ·exact q
     ·rw[aI q]at g4;rw[<-g4]at h4;exact absurd h4.symm (iY _ _ _)
    unfold goR;rw[if_pos hright];unfold goR;rw[if_pos (qd h3 g1 (by rw[h1];exact kg hbeg) hlen)];have eat:a +((ln.size:Int)+ 1)+((ln2.size:Int)+ 1)=((Pc.ap (Pc.ap y .nl) .nl).at_:Int):=by rw[ena,hsz,hsz2];omega
    rw[eat];exact gR hF hb xs x _ _ r3 (i + 1 + 1) _ hk.2 k1 k2 k3 g4 h4 k4 k5
theorem nH {s:ByteArray} (h:Gr.Parsed s):bQ (scanP s).1 0 (scanP s).2.1≠ []:=by
 intro q;have hk:=gL (Gr.cW h.scan);rw[q]at hk;obtain⟨n,hn,h7,_,hs⟩:=hk;obtain⟨x,b,ha,_⟩:=h.ans;unfold Gr.answer Gr.fileS Gr.fileG at ha;obtain⟨_,_,h1,_⟩:=Gr.aN ha;obtain⟨_,hw⟩:=Gr.want_ok h1;have hk0:(tk (scanP s).1 0).kind=6\/(tk (scanP s).1 0).kind=7:=by
  rcases bt n with q | q
  ·subst q;exact .inr h7
  ·exact .inl (hs 0 (br _) q)
 have e:tokAt (scanP s).1 0=tk (scanP s).1 0:=by
  unfold Gr.tokAt tk;rw[ah (by omega)];rfl
 rw[e]at hw;unfold Pp.word at hw;rw[ae,aG,beq_iff_eq,beq_iff_eq]at hw;rcases hk0 with k | k <;> rw[k]at hw <;> exact absurd hw.1 (by decide)
theorem pT {s:ByteArray} (h:Gr.Parsed s) (hb:∀j,0<=Gr.ob (scanP s).1 j/\Gr.ob (scanP s).1 j<=40) (hl:bY s=s):cX s= -1:=by
 obtain⟨hr,_⟩:=jW h;rw[hl]at hr;have hF:=Pc.jZ h.scan;have hk:=gL (Gr.cW h.scan);have hlast:aR s=(fg s).foldl Pc.ap ss0:=by
  unfold aR;rw[Pc.iv hr]
 obtain⟨e1,e2,_⟩:=Gr.eJ h.scan;have hit:=mc h.scan hlast;have hended:(scanP s).1=ended ((fg s).foldl Pc.ap ss0):=by rw[e1,hlast]
 have hbytes:s.data.toList=flat (fg s):=by
  conv=>lhs;rw[<-hl]
  exact lR _ _ _
 have hne:=nH h;unfold fg iD at hit hended hbytes;have htb:∀t∈(scanP s).1,0<=t.at_:=fun t ht=>(Gr.scan_tb t ht).1
 generalize bQ (scanP s).1 0 (scanP s).2.1=xs at *;have hends:b9 s=true:=by
  unfold b9;rw[ba_get,ba_size,<-aH,hbytes,eZ];have e10:flat [Pc.nl]= [10]:=rfl;rw[e10,ar];rfl
 unfold cX;have hd:decide (0<=(scanP s).2.2)=false:=by have:=h.scan;simp;omega
 rw[hd,hends];simp only[cF,Bool.or_self,aa,if_false];have hmap:(linesP s).dropLast.map (·.data.toList)=b8 (scanP s).1 (linesP s) [] none xs:=by
  rw[c7,Gr.dZ,hbytes];have:=lN (src:=linesP s) hF xs none [] hk (by simp);rw[aP]at this;rw[this,List.dropLast_concat]
 cases xs with
 | nil=>exact absurd rfl hne
 | cons x xs=>
  have e:b8 (scanP s).1 (linesP s) [] none (x::xs)=b8 (scanP s).1 (linesP s) (flat (bw (aW (scanP s).1 x).toNat)++ Pc.bytes (itQ (scanP s).1 x)) (some x) xs:=rfl;rw[e]at hmap;rw[kQ,ig]at hit hended;obtain⟨k1,k2,k3,k4,k5⟩:=iX hF hb (yn:=ss0) (rest:=bF (scanP s).1 (linesP s) (some x) xs ++ [.nl]) hk.1 (fun t ht=>by cases ht) (fun t ht=>by cases ht) rfl hit.symm hended;exact gR hF hb xs x _ _ _ 0 0 hk.2 k1 k2 k3 rfl hmap (by rw[k4];rfl) k5
end Rf
end Go.Proofs.Dm
namespace Go.Proofs.Dm
open Go Go.Proofs Go.Proofs.Dm.Sc
open Fo (isO zeroT nlB trimR linesP)
namespace Rf
theorem oU (s:ByteArray):La.faultS s=cX s:=by
 unfold La.faultS cX;rw[j4];cases h1:decide (0<=(scanP s).2.2)with
 | true=>rfl
 | false=>
  cases h2:b9 s with
  | false=>rfl
  | true=>
   simp only[Bool.or_self,cF,aa,if_false];rw[pU h2];exact kT _ 0 0 0 rfl (br _) (fun k t q=>by omega)
end Rf
end Go.Proofs.Dm
set_option maxHeartbeats 16000000
namespace Go.Proofs.Dm
open Go Go.Proofs Go.Proofs.Tryz Go.Proofs.Dm.Sc
open Fo (linesP)
namespace Rf
attribute [local simp] encT encC takes handsOn isTmp Op.operands Call.operands
theorem oT {s:ByteArray} (hs:s.size < 10000000) (h:(eP s).2 < 0):cX (bY s)= -1:=by
 obtain⟨h1,h2,_⟩:=kX h;obtain⟨g1,g2,g3,g4⟩:=mQ (Gr.fw hs h1) h2;obtain⟨k1,_⟩:=Gr.qf hs (t:=bY s) (by omega) h1 g1 (.inr g2);have hn:(Gr.textP (bY s)).2.2 < 0:=by rw[k1];decide
 obtain⟨_,_,hb⟩:=Gr.ju (s:=bY s) (by omega) hn;exact pT (Gr.fw (by omega) hn) hb g4
theorem l9 {W0 nb} {s:ByteArray} (h2:2<=nb) (hT:Lib.Utf8Tabs 0 1 W0) (hs:s.size < 100000):DCalls ⟨Tryz.prog,W0,nb⟩ 41 [.p (.str s)] [] (i64 (cX s)) []:=by
 rw[<-oU];have hc:=La.chop_size s;refine La.fault_ok h2 hT hs ?_ ?_ (fun x hx=> ?_)
 ·rcases eU (scanP s).2.2 0 with h | h
  ·obtain⟨_,_,hl⟩:=Gr.scan_good (s:=s) (by omega) h;omega
  ·have:(scanP s).1= []:=by
    unfold scanP at h|-;dsimp only at h|-;split at h
    ·rename_i q;rw[if_pos q]
    ·exact absurd h (by simp only;omega)
   rw[this];simp
 ·have:=Gr.gh (La.chop s);have hcount:(La.chop s).data.toList.count 10<=(La.chop s).size:=by rw[ba_size];exact dk
  omega
 ·have:=iC (La.chop s) x hx;omega
theorem pS {W0 nb} {s:ByteArray} (h2:2<=nb) (hT:Lib.Utf8Tabs 0 1 W0) (hs:s.size < 100000):DCalls ⟨Tryz.prog,W0,nb⟩ 42 [.p (.str s)] [] (.p (.bool (cX s== -1))) []:=by
 have c:=l9 (W0:=W0) (nb:=nb) h2 hT hs;refine dcalls_end Tryz.func42 rfl (by kernel_rfl) 6 Tryz.ntmps42 #[.tmp 2] rfl (bh rfl) ?_;simp;refine CallGoal.same c ?_;simp;exact .keep (by simp) (.refl _) (by simp) (by simp) (by simp) (by simp)
end Rf
end Go.Proofs.Dm
set_option maxHeartbeats 8000000
namespace Go.Proofs.Dm
open Go Go.Proofs Go.Proofs.Tryz Go.Proofs.Dm.Sc
open Fo (isO zeroT nlB spB pad trimR linesP)
namespace Rf
attribute [local simp] encT encC takes handsOn isTmp Op.operands Call.operands
theorem gq {W0 nb t} {x:ByteArray}:DCalls ⟨Tryz.prog,W0,nb⟩ 99 [.agg ((encT t).map .p),.p (.str x)] [] (.p (.bool (isO t x.toList))) []:=by
 refine dcalls_end Tryz.func99 rfl (by kernel_rfl) 14 Tryz.ntmps99 #[.tmp 4] rfl (bh rfl) ?_;simp;cases h:t.kind==4 with
 | true=>
  simp[isO,h];exact .keep (by simp) (.refl _) (by simp) (by simp) (by simp) (by simp)
 | false=>
  simp[isO,h];exact .keep (by simp) (.refl _) (by simp) (by simp) (by simp) (by simp)
theorem mE (l cs:List UInt8) (b:UInt8):Lib.trimRightS (l ++ [b]) cs=if cs.contains b then Lib.trimRightS l cs else l ++ [b]:=by
 simp only[Lib.trimRightS,List.reverse_append,List.reverse_cons,List.reverse_nil,aP,da,bg];split <;> simp
theorem nG {W0 nb s} (hs:s.size < 1099511627776):DCalls ⟨Tryz.prog,W0,nb⟩ 98 [.p (.str s)] [] (.p (.str (trimR s))) []:=by
 obtain⟨R,hR⟩:∃R,trimR s=R:=⟨_,rfl⟩
 rw[hR];refine dcalls_end Tryz.func98 rfl (by kernel_rfl) 28 Tryz.ntmps98 #[.tmp 2] rfl (bh rfl) ?_;simp;refine⟨fun m st=>∃t,trimR t=R/\m=t.size/\t.size < 1099511627776/\st.hp= []/\st.tm 0= .p (.str t),s.size,.here ⟨s,hR,rfl,hs,by simp,by simp⟩,?_⟩;rintro m ⟨tm,hp⟩ ⟨t,h,rfl,ht,h0,g0⟩;simp only at h0 g0;subst h0;rcases bt t.size with hz | hz
 ·have ht0:t=⟨#[]⟩:=by
   apply ba_ext;have:t.data.toList.length=0:=by rw[<-ba_size];exact hz
   exact iO this
  have hR0:R=t:=by rw[<-h,ht0];rfl
  simp[g0,hz];rw[hR0];exact .keep (by simp[g0]) (.refl _) (by simp) (by simp[g0]) (by simp[g0]) (by simp[g0])
 ·have hb:t[t.size - 1]? =some t[t.size - 1]:=by simp
  have hw:=w64_id (n:=(t.size:Int)- 1) (by omega) (by omega);simp only[w64]at hw;have hk:((t.size:Int)- 1).toNat=t.size - 1:=by omega
  have hsp:t.data.toList=(t.extract 0 (t.size - 1)).data.toList ++ [t[t.size - 1]]:=by
   have hd:=drop_next t hb;rw[ext_list,cI,Nat.sub_zero];have:=bj (t.size - 1) t.data.toList;rw[hd.2,aI (by rw[<-ba_size];omega)]at this;exact this.symm
  have h1:(1:Int)<=t.size:=by omega
  have h2:(t.size:Int)- 1 < t.size:=by omega
  have hlt:t.size - 1 < t.size:=by omega
  have h4:(t.size:Int)- 1<=t.size:=by omega
  simp[g0,hz,hw,hk,h1,h2,hlt];generalize hb':t[t.size - 1]=b at *;have e32:((b.toNat:Int)==32)=(b==32):=by
   rw[bf];simp only[beq_iff_eq];constructor
   ·intro e;exact be.1 (by simp;omega)
   ·rintro rfl;rfl
  have e9:((b.toNat:Int)==9)=(b==9):=by
   rw[bf];simp only[beq_iff_eq];constructor
   ·intro e;exact be.1 (by simp;omega)
   ·rintro rfl;rfl
  have hstep:([32,9]:List UInt8).contains b=true->trimR (t.extract 0 (t.size - 1))=R:=by
   intro hc;rw[<-h];simp only[trimR];rw[hsp,mE,if_pos hc]
  have hstop:([32,9]:List UInt8).contains b=false->t=R:=by
   intro hc;rw[<-h];apply ba_ext;simp only[trimR];rw[hsp,mE,hc];simp
  rw[e32];cases q:b==32 with
  | true=>
   simp[g0,hw,hk,h1,h4];exact .same (t.size - 1) (by omega) ⟨t.extract 0 (t.size - 1),hstep (by simp at q;subst q;rfl),by simp,by simp;omega,by simp,by simp⟩
  | false=>
   simp[g0,hw,hk,h1,h2,hlt,hb'];rw[e9];cases q9:b==9 with
   | true=>
    simp[g0,hw,hk,h1,h4];exact .same (t.size - 1) (by omega) ⟨t.extract 0 (t.size - 1),hstep (by simp at q9;subst q9;rfl),by simp,by simp;omega,by simp,by simp⟩
   | false=>
    have hR2:=hstop (by simp at q q9|-;exact⟨q,q9⟩);subst hR2;simp[g0];exact .keep (by simp) (.refl _) (by simp) (by simp) (by simp) (by simp)
def de (s:ByteArray):Nat->Nat->Nat->List ByteArray
 | 0,i,a=> [s.extract a s.size]
 | n + 1,i,a=>match s[i]? with
  | some b=>if(b.toNat:Int)==10 then s.extract a i::de s n (i + 1) (i + 1)else de s n (i + 1) a
  | none=> [s.extract a s.size]
theorem kP (s:ByteArray) {a i:Nat} (h:a<=i):s.data.toList.drop a=(s.data.toList.drop a).take (i - a)++ s.data.toList.drop i:=by
 have:=(bj (i - a) (s.data.toList.drop a)).symm
 rwa [cu,show a +(i - a)=i by omega]at this
theorem jU (s:ByteArray):∀(n i a:Nat),s.size=i + n->a<=i->(10:UInt8)∉(s.data.toList.drop a).take (i - a)->(de s n i a).map (·.data.toList)=Gr.spl (s.data.toList.drop a)
 | 0,i,a,hn,ha,hno=>by
  have e:=kP s ha;have e2:s.data.toList.drop i= []:=aI (by rw[<-ba_size];omega);rw[e2,aZ]at e;rw[<-e]at hno;rw[Gr.jz _ hno];show [(s.extract a s.size).data.toList]=_;rw[ext_list,cZ];rw[aL,<-ba_size];omega
 | n + 1,i,a,hn,ha,hno=>by
  have hlt:i < s.size:=by omega
  have hg:s[i]? =some s[i]:=by simp[hlt]
  have e:=kP s ha;obtain⟨_,hd⟩:=drop_next s hg;unfold de;rw[hg];simp only;split
  ·rename_i hc;have h10:s[i]=10:=by
    rw[beq_iff_eq]at hc;apply be.1;show(s[i]).toNat=10;omega
   rw[h10]at hd;rw[bR,jU s n (i + 1) (i + 1) (by omega) (au _) (by simp),ext_list]
   conv=>rhs;rw[e,hd]
   rw[Gr.eF _ _ hno]
  ·rename_i hc;have h10:s[i]≠10:=by
    intro q;rw[q]at hc;exact hc rfl
   refine jU s n (i + 1) a (by omega) (by omega) ?_;have e3:i + 1 - a=(i - a)+ 1:=by omega
   rw[e3,bH,ao];rintro(q | q)
   ·exact hno q
   ·rw[cR,show a +(i - a)=i by omega,<-ba_get,hg]at q;simp at q;exact h10 q.symm
theorem oS (s:ByteArray):de s s.size 0 0=linesP s:=by
 apply Gr.j7;rw[jU s s.size 0 0 (by omega) (au _) (by simp),cI,Gr.dZ]
def lnI (s:ByteArray) (m:Nat) (st:St):Prop:=∃(i a:Nat) (L:List ByteArray),m=s.size - i/\i<=s.size/\a<=i/\L.length<=i/\L ++ de s (s.size - i) i a=linesP s/\
 st.hp= []/\st.tm 0= .p (.str s)/\st.tm 3= .own 9 1 (rowsS L)/\st.tm 4=i64 (a:Nat)/\st.tm 5=i64 (i:Nat)
theorem lL {W0 nb s} (hs:s.size < 100000000):DCalls ⟨Tryz.prog,W0,nb⟩ 43 [.p (.str s)] [] (.p (.sl 1 (rowsS (linesP s)))) []:=by
 refine dcalls_end Tryz.func43 rfl (by kernel_rfl) 31 Tryz.ntmps43 #[.tmp 2] rfl (bh rfl) ?_;simp;refine⟨lnI s,s.size,.here ⟨0,0,[],by simp,by simp,by simp,by simp,by simp[oS],by simp,by simp,by simp[rowsS],by simp,by simp⟩,?_⟩;rintro m ⟨tm,hp⟩ ⟨i,a,L,rfl,hi,ha,hL,h,h0,g0,g3,g4,g5⟩;simp only at h0 g0 g3 g4 g5;subst h0;have hRl:(rowsS L).length=L.length:=by simp[rowsS]
 have ha1:(L.length + 1)* 16<=140737488355328:=by omega
 have ha2:L.length<=9223372036854775806:=by omega
 have hap:∀x:ByteArray,rowsS (L ++ [x])=rowsS L ++ [[.str x]]:=fun x=>by simp[rowsS]
 simp[g0,g5];rcases al i s.size with hlt | hge
 ·have hw:=w64_id (n:=(i:Int)+ 1) (by omega) (by omega);simp only[w64]at hw;have hg:s[i]? =some s[i]:=by simp[hlt]
  have hn:s.size - i=(s.size -(i + 1))+ 1:=by omega
  rw[hn]at h;unfold de at h;rw[hg]at h;simp only at h;have hai:(a:Int)<=i:=by omega
  have his:(i:Int)<=s.size:=by omega
  simp[hlt,g0,g5];cases hq:((s[i]).toNat:Int)==10 with
  | true=>
   rw[hq,if_pos rfl]at h;have h2:(L ++ [s.extract a i])++ de s (s.size -(i + 1)) (i + 1) (i + 1)=linesP s:=by rw[<-h];simp
   have hr:=hap (s.extract a i);generalize rowsS L=RL at *;simp[g0,g3,g4,g5,hw,hRl,ha1,ha2,hai,his,ha,hi];exact .same (s.size -(i + 1)) (by omega) ⟨i + 1,i + 1,L ++ [s.extract a i],rfl,by omega,by omega,by simp;omega,h2,by simp,by simp[g0],by simp[hr],by simp[hw],by simp[hw]⟩
  | false=>
   rw[hq]at h;simp only[aa,if_false]at h;simp[g5,hw];exact .same (s.size -(i + 1)) (by omega) ⟨i + 1,a,L,rfl,by omega,by omega,by omega,h,by simp,by simp[g0],by simp[g3],by simp[g4],by simp[hw]⟩
 ·have hil:i=s.size:=by omega
  subst hil;rw[iF]at h;have h2:linesP s=L ++ [s.extract a s.size]:=h.symm;have hr:=hap (s.extract a s.size);rw[h2,hr];have has:(a:Int)<=s.size:=by omega
  generalize rowsS L=RL at *;simp[g0,g3,g4,hRl,ha1,ha2,has,ha];exact .keep (by simp;rfl) (.fr _ _ _) (by simp) (by simp) (by simp) (by simp)
end Rf
end Go.Proofs.Dm
set_option maxHeartbeats 16000000
namespace Go.Proofs.Dm
open Go Go.Proofs Go.Proofs.Tryz Go.Proofs.Dm.Sc
open Fo (isO zeroT nlB spB pad trimR linesP)
namespace Rf
attribute [local simp] encT encC takes handsOn isTmp Op.operands Call.operands
theorem mK:(⟨#[123]⟩:ByteArray).toList= [123]:=by rw[Lib.toList_data]
theorem mJ:(⟨#[125]⟩:ByteArray).toList= [125]:=by rw[Lib.toList_data]
theorem nF {l:List Tok} {i:Nat} (h:i < l.length):∃t,l[i]? =some t/\l[i]=t:=⟨l[i],ah h,rfl⟩
theorem mM {t:Tok} (h:isO t [123]=true):isO t [125]=false:=by
 unfold isO at h|-;rw[ae,beq_iff_eq,beq_iff_eq]at h;rw[h.2,aB];right;decide
def rnI (l:List Tok) (L:List ByteArray) (i:Nat) (at_:Int) (ln:ByteArray) (m:Nat) (st:St):Prop:=∃n:Nat,m=ln.size - n/\n<=ln.size/\stop ln (fun b=>b==9) n=bU ln/\
 st.hp= []/\st.tm 0= .p (.sl 5 (l.map encT))/\st.tm 3=i64 at_/\st.tm 9= .p (.str ln)/\st.tm 10=i64 (n:Nat)
def rnJ (l:List Tok) (at_:Int) (ln:ByteArray) (st:St):Prop:=st.hp= []/\st.tm 0= .p (.sl 5 (l.map encT))/\st.tm 3=i64 at_/\st.tm 9= .p (.str ln)/\st.tm 10=i64 (bU ln:Nat)
def roI (l:List Tok) (at_:Int) (ln:ByteArray) (N m:Nat) (st:St):Prop:=∃k:Nat,m=l.length - k/\k<=l.length/\La.skipD at_ (l.drop k) k=N/\
 st.hp= []/\st.tm 0= .p (.sl 5 (l.map encT))/\st.tm 3=i64 at_/\st.tm 9= .p (.str ln)/\st.tm 10=i64 (bU ln:Nat)/\st.tm 11=i64 (La.opens (l.take k))/\st.tm 12= .p (.bool (cL (l.take k)))/\st.tm 13=i64 (k:Nat)
def roJ (l:List Tok) (ln:ByteArray) (N:Nat) (st:St):Prop:=N<=l.length/\st.hp= []/\st.tm 9= .p (.str ln)/\st.tm 10=i64 (bU ln:Nat)/\st.tm 11=i64 (La.opens (l.take N))/\st.tm 12= .p (.bool (cL (l.take N)))
theorem oR {l:List Tok} {k:Nat} {t:Tok} (h:l[k]? =some t):cL (l.take (k + 1))=onR t:=by
 unfold cL;rw[bH,h,ar];rfl
theorem oQ {W0 nb l L} {i:Nat} {ln:ByteArray} {at_:Int} (hl:l.length < 100000000) (hL:L.length < 100000000) (hi:L[i]? =some ln) (hz:ln.size < 100000000):
  DCalls ⟨Tryz.prog,W0,nb⟩ 76 [.p (.sl 5 (l.map encT)),.p (.sl 1 (rowsS L)),i64 (i:Nat),i64 at_] [] (.p (.bool (bE l L i ln at_))) []:=by
 have hil:i < L.length:=by
  rcases al i L.length with q | q
  ·exact q
  ·rw[aq q]at hi;cases hi
 have hti:L[i]=ln:=by
  have:=ah hil;rw[hi]at this;injection this with this
  exact this.symm
 have d:=nG (W0:=W0) (nb:=nb) (s:=ln) (by omega);obtain⟨R,hR⟩:∃R,bE l L i ln at_=R:=⟨_,rfl⟩
 rw[hR];unfold bE at hR;refine dcalls_end Tryz.func76 rfl (by kernel_rfl) 130 Tryz.ntmps76 #[.tmp 8] rfl (bh rfl) ?_;simp[hil,hi,hti,rowsS];refine CallGoal.same d ?_;cases h1:(trimR ln).toList==ln.toList with
 | false=>
  have hne:((trimR ln).toList !=ln.toList)=true:=by simp[bne,h1]
  simp[h1]at hR;simp[h1,hne];exact .keep (by simp[hR]) (.refl _) (by simp) (by simp[hR]) (by simp[hR]) (by simp[hR])
 | true=>
 have hne:((trimR ln).toList !=ln.toList)=false:=by simp[bne,h1]
 simp only[h1,cF,aa,if_false]at hR;simp[h1,hne];cases h2:ln.toList.isEmpty with
 | true=>
  simp only[h2,if_true]at hR;rcases bt i with hz0 | hp0
  ·subst hz0;simp at hR;simp[h2];exact .keep (by simp[hR]) (.refl _) (by simp) (by simp[hR]) (by simp[hR]) (by simp[hR])
  ·obtain⟨j,rfl⟩:∃j,i=j + 1:=⟨i - 1,by omega⟩
   have hjl:j < L.length:=by omega
   obtain⟨pv,hpv,hpj⟩:∃pv,L[j]? =some pv/\L[j]=pv:=⟨L[j],ah hjl,rfl⟩
   have hw1:=w64_id (n:=(j:Int)) (by omega) (by omega);have hw2:=w64_id (n:=(j:Int)+ 1 + 1) (by omega) (by omega);simp only[w64]at hw1 hw2;have hc:((j + 1:Nat):Int)- 1=(j:Int):=by omega
   have hpos:(0:Int)<((j + 1:Nat):Int):=by omega
   have hpos2:(0:Int)<(j:Int)+ 1:=by omega
   have hdj:decide (0 < j + 1)=true:=by simp
   rw[aU,hpv,hdj]at hR;simp only[bB,cm]at hR;cases h3:pv.toList.isEmpty with
   | true=>
    simp[h3]at hR;simp[h2,h3,hc,hw1,hjl,hpv,hpj,rowsS,hpos2];exact .keep (by simp[hR,h3]) (.refl _) (by simp) (by simp[hR,h3]) (by simp[hR,h3]) (by simp[hR,h3])
   | false=>
    simp only[h3,fB,cm]at hR;simp[h2,h3,hc,hw1,hw2,hjl,hpv,hpj,rowsS,hpos2];have hR':decide ((j:Int)+ 1 + 1 <(L.length:Int))=R:=by
     rw[<-hR]
     congr 1
     exact propext ⟨fun q=>by omega,fun q=>by omega⟩
    exact .keep (by simp[hR',h3]) (.refl _) (by simp) (by simp[hR',h3]) (by simp[hR',h3]) (by simp[hR',h3])
 | false=>
 simp only[h2,aa,if_false]at hR;simp[h2];have hlt:=kU (beq_iff_eq.1 h1) h2;refine LoopGoal.cut (rnJ l at_ ln) ?_ ?_
 ·refine⟨rnI l L i at_ ln,ln.size,.here ⟨0,by simp,by simp,rfl,by simp,by simp,by simp,by simp,by simp⟩,?_⟩;rintro m ⟨tm,hp⟩ ⟨n,rfl,hn,hs,e,e0,e3,e9,e10⟩;simp only at e e0 e3 e9 e10;subst e;rw[stop_eq]at hs;simp[e9,e10];rcases al n ln.size with hnl | hng
  ·have hg:ln[n]? =some ln[n]:=by simp[hnl]
   rw[hg]at hs;simp only at hs;have hw:=w64_id (n:=(n:Int)+ 1) (by omega) (by omega);simp only[w64]at hw;have e9b:(((ln[n]).toNat:Int)==9)=(ln[n]==9):=by
    rw[bf];simp only[beq_iff_eq];constructor
    ·intro e;exact be.1 (by simp;omega)
    ·intro e;rw[e];rfl
   simp[hnl,e9,e10,e9b];cases q:ln[n]==9 with
   | true=>
    rw[q,if_pos rfl]at hs;simp[q,e10,hw];exact .same (ln.size -(n + 1)) (by omega) ⟨n + 1,rfl,by omega,hs,by simp,by simp[e0],by simp[e3],by simp[e9],by simp[hw]⟩
   | false=>
    rw[q]at hs;simp only[aa,if_false]at hs;simp[q];exact⟨by simp,by simp[e0],by simp[e3],by simp[e9],by simp[e10,hs]⟩
  ·have:n=ln.size:=by omega
   subst this;have hg:ln[ln.size]? =none:=by simp
   rw[hg]at hs;simp only at hs;simp;exact⟨by simp,by simp[e0],by simp[e3],by simp[e9],by simp[e10,hs]⟩
 rintro⟨tm,hp⟩ ⟨e,e0,e3,e9,e10⟩;simp only at e e0 e3 e9 e10;subst e;obtain⟨N,hN⟩:∃N,La.skipD at_ l 0=N:=⟨_,rfl⟩
 rw[hN]at hR;simp;refine LoopGoal.cut (roJ l ln N) ?_ ?_
 ·refine⟨roI l at_ ln N,l.length,.here ⟨0,by simp,by simp,by simpa using hN,by simp,by simp[e0],by simp[e3],by simp[e9],by simp[e10],by simp[La.opens],by simp[cL],by simp⟩,?_⟩;clear e0 e3 e9 e10 hN;rintro m ⟨tm,hp⟩ ⟨k,rfl,hk,hN,e,e0,e3,e9,e10,e11,e12,e13⟩;simp only at e e0 e3 e9 e10 e11 e12 e13;subst e;simp[e0,e13];rcases al k l.length with hkl | hkg
  rotate_left
  ·have:k=l.length:=by omega
   subst this;simp[La.skipD]at hN;subst hN;simp;exact⟨au _,by simp,by simp[e9],by simp[e10],by simp[e11],by simp[e12]⟩
  obtain⟨t,ht,hti2⟩:=nF hkl;have hd:l.drop k=t::l.drop (k + 1):=by rw[aK hkl,hti2]
  rw[hd]at hN;unfold La.skipD at hN;have hg:=oR ht;have hop:=La.opens_le l k;have hos:=La.opens_take l k t ht;have hw:=w64_id (n:=(k:Int)+ 1) (by omega) (by omega);have hw2:=w64_id (n:=La.opens (l.take k)+ 1) (by omega) (by omega);have hw3:=w64_id (n:=La.opens (l.take k)- 1) (by omega) (by omega);simp only[w64]at hw hw2 hw3;unfold La.opT at hos;obtain⟨o,ho⟩:∃o,La.opens (l.take k)=o:=⟨_,rfl⟩
  rw[ho]at hop hos hw2 hw3 e11
  by_cases hat:t.at_ < at_
  ·rw[if_pos hat]at hN;have c1:=gq (W0:=W0) (nb:=nb) (t:=t) (x:=⟨#[123]⟩);have c2:=gq (W0:=W0) (nb:=nb) (t:=t) (x:=⟨#[125]⟩);rw[mK]at c1;rw[mJ]at c2;simp only[encT,bR,List.map_nil]at c1 c2;have h66:(t.kind !=6)= !(t.kind==6):=rfl;simp[hkl,e0,e3,e13,ht,hti2,hat];refine CallGoal.same c1 ?_;unfold onR at hg;cases g1:isO t [123]with
   | true=>
    rw[g1,if_pos rfl]at hos;have g2:=mM g1;simp[hkl,e0,e11,e13,ht,hti2,hw2];refine CallGoal.same c2 ?_;simp[g2,hkl,e0,e13,ht,hti2,h66];cases g6:t.kind==6 with
    | true=>
     simp[h66,g6]at hg;simp[e13,hw];exact .same (l.length -(k + 1)) (by omega) ⟨k + 1,rfl,by omega,hN,by simp,by simp[e0],by simp[e3],by simp[e9],by simp[e10],by simp[hos,hw2],by simp[hg],by simp[hw]⟩
    | false=>
     simp[h66,g6,g1]at hg;simp[hkl,e0,e13,ht,hti2];refine CallGoal.same c1 ?_;simp[g1,e13,hw];exact .same (l.length -(k + 1)) (by omega) ⟨k + 1,rfl,by omega,hN,by simp,by simp[e0],by simp[e3],by simp[e9],by simp[e10],by simp[hos,hw2],by simp[hg],by simp[hw]⟩
   | false=>
    simp only[g1,aa,if_false]at hos;simp[hkl,e0,e13,ht,hti2];refine CallGoal.same c2 ?_;cases g2:isO t [125]with
    | true=>
     rw[g2,if_pos rfl]at hos;simp[hkl,e0,e11,e13,ht,hti2,hw3,h66];cases g6:t.kind==6 with
     | true=>
      simp[h66,g6]at hg;simp[e13,hw];exact .same (l.length -(k + 1)) (by omega) ⟨k + 1,rfl,by omega,hN,by simp,by simp[e0],by simp[e3],by simp[e9],by simp[e10],by simp[hos,hw3],by simp[hg],by simp[hw]⟩
     | false=>
      simp[h66,g6,g1,g2]at hg;simp[hkl,e0,e13,ht,hti2];refine CallGoal.same c1 ?_;simp[g1,hkl,e0,e13,ht,hti2];refine CallGoal.same c2 ?_;simp[g2,e13,hw];exact .same (l.length -(k + 1)) (by omega) ⟨k + 1,rfl,by omega,hN,by simp,by simp[e0],by simp[e3],by simp[e9],by simp[e10],by simp[hos,hw3],by simp[hg],by simp[hw]⟩
    | false=>
     simp only[g2,aa,if_false]at hos;simp[hkl,e0,e13,ht,hti2,h66];cases g6:t.kind==6 with
     | true=>
      simp[h66,g6]at hg;simp[e13,hw];exact .same (l.length -(k + 1)) (by omega) ⟨k + 1,rfl,by omega,hN,by simp,by simp[e0],by simp[e3],by simp[e9],by simp[e10],by simp[hos,e11],by simp[hg],by simp[hw]⟩
     | false=>
      simp[h66,g6,g1,g2]at hg;simp[hkl,e0,e13,ht,hti2];refine CallGoal.same c1 ?_;simp[g1,hkl,e0,e13,ht,hti2];refine CallGoal.same c2 ?_;simp[g2,e13,hw];exact .same (l.length -(k + 1)) (by omega) ⟨k + 1,rfl,by omega,hN,by simp,by simp[e0],by simp[e3],by simp[e9],by simp[e10],by simp[hos,e11],by simp[hg],by simp[hw]⟩
  ·rw[if_neg hat]at hN;subst hN;simp[hkl,e0,e3,e13,ht,hti2,hat];exact⟨hk,by simp,by simp[e9],by simp[e10],by simp[e11,ho],by simp[e12]⟩
 clear e0 e3 e9 e10 hN;rintro⟨tm,hp⟩ ⟨hNl,e,e9,e10,e11,e12⟩;simp only at e e9 e10 e11 e12;subst e;have hop:=La.opens_le l N;have hwp:=w64_id (n:=La.opens (l.take N)+ 1) (by omega) (by omega);have hwm:=w64_id (n:=La.opens (l.take N)- 1) (by omega) (by omega);simp only[w64]at hwp hwm;generalize La.opens (l.take N)=o at *;generalize cL (l.take N)=g at *;have hb:ln[bU ln]? =some ln[bU ln]:=by simp[hlt]
 rw[hb]at hR;simp only[bB]at hR;generalize hn:bU ln=n at *;simp[e9,e10,hlt];obtain⟨b,hbb⟩:∃b,ln[n]=b:=⟨_,rfl⟩
 rw[hbb]at hR;have b1:((b.toNat:Int)==125)=(b==125):=by
  rw[bf];simp only[beq_iff_eq];constructor
  ·intro e;exact be.1 (by simp;omega)
  ·intro e;rw[e];rfl
 have b2:((b.toNat:Int)==32)=(b==32):=by
  rw[bf];simp only[beq_iff_eq];constructor
  ·intro e;exact be.1 (by simp;omega)
  ·intro e;rw[e];rfl
 have b3:((b.toNat:Int) !=32)= !(b==32):=by rw[<-b2];rfl
 simp[hbb,b1];cases q1:b==125 with
 | true=>
  simp only[q1,if_true]at hR;simp[e10,e11,hwm];exact .keep (by simp[hR,hwm]) (.refl _) (by simp) (by simp[hR,hwm]) (by simp[hR,hwm]) (by simp[hR,hwm])
 | false=>
  simp only[q1,aa,if_false]at hR;simp[e9,e10,hlt,hbb,b3];cases q2:b==32 with
  | true=>
   simp[q2]at hR;simp;exact .keep (by simp[hR]) (.refl _) (by simp) (by simp[hR]) (by simp[hR]) (by simp[hR])
  | false=>
   simp only[q2,fB,cm]at hR;simp[e10,e11];cases q3:(n:Int)==o with
   | true=>
    simp[q3]at hR;simp[q3];exact .keep (by simp[hR,q3]) (.refl _) (by simp) (by simp[hR,q3]) (by simp[hR,q3]) (by simp[hR,q3])
   | false=>
    simp only[q3,dm]at hR;cases g with
    | true=>
     simp only[cm]at hR;simp[q3,e10,e11,e12,hwp];exact .keep (by simp[hR,q3,hwp]) (.refl _) (by simp) (by simp[hR,q3,hwp]) (by simp[hR,q3,hwp]) (by simp[hR,q3,hwp])
    | false=>
     simp at hR;simp[q3,e12];exact .keep (by simp[hR,q3]) (.refl _) (by simp) (by simp[hR,q3]) (by simp[hR,q3]) (by simp[hR,q3])
end Rf
end Go.Proofs.Dm
namespace Go.Proofs.Dm
open Go Go.Proofs Go.Proofs.Tryz Go.Proofs.Dm.Sc
open Fo (isO zeroT nlB spB pad trimR linesP)
namespace Rf
attribute [local simp] encT encC takes handsOn isTmp Op.operands Call.operands
def rfI (l:List Tok) (L:List ByteArray) (R:Int) (m:Nat) (st:St):Prop:=∃(i:Nat) (a:Int),m=L.length - i/\i<=L.length/\0<=a/\a<=i * 300001/\goR l L (L.drop i) i a=R/\
 st.hp= []/\st.tm 3= .p (.sl 5 (l.map encT))/\st.tm 6= .p (.sl 1 (rowsS L))/\st.tm 7=i64 a/\st.tm 8=i64 (i:Nat)
theorem qo (L:List ByteArray):(rowsS L).take ((rowsS L).length - 1)=rowsS L.dropLast:=by
 rw[<-List.dropLast_eq_take];simp[rowsS]
theorem oP {W0 nb} {s:ByteArray} (h2:2<=nb) (hT:Lib.Utf8Tabs 0 1 W0) (hs:s.size < 100000):DCalls ⟨Tryz.prog,W0,nb⟩ 40 [.p (.str s)] [] (i64 (cX s)) []:=by
 have c1:=Rs.scan_ok (W0:=W0) (nb:=nb) (s:=s) (by omega);have c2:=lL (W0:=W0) (nb:=nb) (s:=s) (by omega);have hll:=Gr.gh s;have hcount:s.data.toList.count 10<=s.size:=by rw[ba_size];exact dk
 have hl2:(scanP s).1.length < 100000000:=Gr.scan_len s (by omega);have hz:∀x∈linesP s,x.size<=300000:=fun x hx=>by have:=iC s x hx;omega
 obtain⟨R,hR⟩:∃R,cX s=R:=⟨_,rfl⟩
 rw[hR];unfold cX at hR;obtain⟨L0,hL0⟩:∃L0,linesP s=L0:=⟨_,rfl⟩
 rw[hL0]at c2 hll hz hR;obtain⟨S,hS⟩:∃S,scanP s=S:=⟨_,rfl⟩
 rw[hS]at c1 hl2 hR;obtain⟨l,cs,f⟩:=S;simp only[toks,coms]at c1 hl2 hR;refine dcalls_end Tryz.func40 rfl (by kernel_rfl) 58 Tryz.ntmps40 #[.tmp 2] rfl (bh rfl) ?_;simp;refine CallGoal.same c1 ?_;cases hf:decide (0<=f)with
 | true=>
  have hf':=of_decide_eq_true hf;simp[hf']at hR;simp[hf'];exact .keep (by simp[hR]) (.refl _) (by simp) (by simp[hR]) (by simp[hR]) (by simp[hR])
 | false=>
 have hf':=of_decide_eq_false hf;simp only[hf,dm]at hR;simp[hf'];rcases bt s.size with hz0 | hz0
 ·have hs0:s=⟨#[]⟩:=by
   apply ba_ext;have:s.data.toList.length=0:=by rw[<-ba_size];exact hz0
   exact iO this
  subst hs0;have he:b9 ⟨#[]⟩=false:=rfl;simp[he]at hR;simp;exact .keep (by simp[hR]) (.refl _) (by simp) (by simp[hR]) (by simp[hR]) (by simp[hR])
 ·have hb:s[s.size - 1]? =some s[s.size - 1]:=by simp
  have he:s.toList.isEmpty=false:=by
   rw[Lib.toList_data];cases hq:s.data.toList with
   | nil=>have:=ba_size s;rw[hq,aQ]at this;omega
   | cons c r=>rfl
  have hen:b9 s=(s[s.size - 1]==10):=by unfold b9;rw[hb]
  rw[hen]at hR;have hw:=w64_id (n:=(s.size:Int)- 1) (by omega) (by omega);simp only[w64]at hw;have hk:((s.size:Int)- 1).toNat=s.size - 1:=by omega
  have h1:(1:Int)<=s.size:=by omega
  have h3:(s.size:Int)- 1 < s.size:=by omega
  have hlt:s.size - 1 < s.size:=by omega
  simp[he,hw,hk,h1,h3,hlt];generalize hb':s[s.size - 1]=b at *;have e10:((b.toNat:Int) !=10)= !(b==10):=by
   have:((b.toNat:Int)==10)=(b==10):=by
    rw[bf];simp only[beq_iff_eq];constructor
    ·intro e;exact be.1 (by simp;omega)
    ·rintro rfl;rfl
   rw[<-this];rfl
  rw[e10];cases q:b==10 with
  | false=>
   simp[q]at hR;simp;exact .keep (by simp[hR]) (.refl _) (by simp) (by simp[hR]) (by simp[hR]) (by simp[hR])
  | true=>
   simp only[q,cF,aa,if_false]at hR;simp;refine CallGoal.same c2 ?_;have hrl:(rowsS L0).length=L0.length:=by simp[rowsS]
   have hdl:=qo L0;rw[hrl]at hdl;have hlen1:L0.dropLast.length=L0.length - 1:=by simp
   have hzd:∀x∈L0.dropLast,x.size<=300000:=fun x hx=>hz x (List.dropLast_subset _ hx)
   have hwl:=w64_id (n:=(L0.length:Int)- 1) (by omega) (by omega);simp only[w64]at hwl;have hkl:((L0.length:Int)- 1).toNat=L0.length - 1:=by omega
   have hl1:(1:Int)<=L0.length:=by omega
   have hl3:(L0.length:Int)- 1<=L0.length:=by omega
   generalize hLD:L0.dropLast=L at *;simp[hrl,hwl,hkl,hl1,hl3,hdl];refine⟨rfI l L R,L.length,.here ⟨0,0,by simp,by simp,by simp,by simp,by simpa using hR,by simp,by simp,by simp,by simp,by simp⟩,?_⟩;rintro m ⟨tm,hp⟩ ⟨i,a,rfl,hi,ha0,ha,h,e,e3,e6,e7,e8⟩;simp only at e e3 e6 e7 e8;subst e;have hrL:(rowsS L).length=L.length:=by simp[rowsS]
   simp[e6,e8,hrL];rcases al i L.length with hil | hig
   ·obtain⟨ln,hln,hti⟩:∃ln,L[i]? =some ln/\L[i]=ln:=⟨L[i],ah hil,rfl⟩
    have hzl:=hzd ln (bz hln);have hd:L.drop i=ln::L.drop (i + 1):=by rw[aK hil,hti]
    rw[hd]at h;unfold goR at h;have cr:=oQ (W0:=W0) (nb:=nb) (l:=l) (L:=L) (i:=i) (ln:=ln) (at_:=a) hl2 (by omega) hln (by omega);have hwi:=w64_id (n:=(i:Int)+ 1) (by omega) (by omega);have hwa:=w64_id (n:=(ln.size:Int)+ 1) (by omega) (by omega);have hwb:=w64_id (n:=a +((ln.size:Int)+ 1)) (by omega) (by omega);simp only[w64]at hwi hwa hwb;simp[hil,e3,e6,e7,e8];refine CallGoal.same cr ?_;cases hr:bE l L i ln a with
    | false=>
     rw[hr]at h;simp only[aa,if_false]at h;simp[e8,hwi];exact .keep (by simp[h]) (.refl _) (by simp) (by simp[h]) (by simp[h]) (by simp[h])
    | true=>
     rw[hr,if_pos rfl]at h;simp[e6,e7,e8,hil,hln,hti,rowsS,hwi,hwa,hwb];exact .same (L.length -(i + 1)) (by omega) ⟨i + 1,a +((ln.size:Int)+ 1),rfl,by omega,by omega,by omega,h,by simp,by simp[e3],by simp[e6,rowsS],by simp[hwb],by simp[hwi]⟩
   ·have hil:i=L.length:=by omega
    subst hil;simp[goR]at h;simp;exact .keep (by simp[h]) (.refl _) (by simp) (by simp[h]) (by simp[h]) (by simp[h])
end Rf
end Go.Proofs.Dm
set_option maxHeartbeats 4000000
namespace Go.Proofs.Dm
open Go Go.Proofs Go.Proofs.Dm.Sc
open Fo (isO zeroT LS nlB spB pad trimR valueT spaceT linesP)
open Pc (Sep GV V Facts Reads cQ)
open Gr (ss0 aR tokAt bL cP bA bq bm cq LI)
namespace Rf
variable {l l':List Tok}
def off:List ByteArray->Nat->Int
 | _,0=>0
 | [],_=>0
 | x::r,n + 1=>(x.size:Int)+ 1 + off r n
theorem fx (l:List Tok) (L:List ByteArray):∀(r:List ByteArray) (i:Nat) (a:Int),goR l L r i a= -1->∀(j:Nat) (x:ByteArray),r[j]? =some x->bE l L (i + j) x (a + off r j)=true
 | [],i,a,h,j,x,hx=>by cases hx
 | ln::r,i,a,h,j,x,hx=>by
  unfold goR at h;split at h
  ·rename_i hr;cases j with
   | zero=>
    simp only[cj,ak]at hx;subst hx;show bE l L i ln (a + 0)=true;rw[Int.add_zero];exact hr
   | succ j=>
    rw[ck]at hx;have:=fx l L r (i + 1) _ h j x hx;have e1:i +(j + 1)=i + 1 + j:=by omega
    have e2:a + off (ln::r) (j + 1)=a +((ln.size:Int)+ 1)+ off r j:=by
     show a +((ln.size:Int)+ 1 + off r j)=_;omega
    rw[e1,e2];exact this
  ·omega
def join (xs:List (List UInt8)):List UInt8:=xs.flatMap fun x=>x ++ [10]
theorem eY (a b:List (List UInt8)):join (a ++ b)=join a ++ join b:=List.flatMap_append ..
theorem fH (x:List UInt8) (b:List (List UInt8)):join (x::b)=x ++ 10::join b:=by
 show(x ++ [10])++ join b=_;rw[ai];rfl
theorem gl:∀xs:List (List UInt8),(∀x∈xs,(10:UInt8)∉x)->Gr.spl (join xs)=xs ++ [[]]
 | [],h=>rfl
 | x::xs,h=>by
  rw[fH,Gr.eF _ _ (h x (by simp)),gl xs fun y hy=>h y (by simp[hy])];rfl
theorem gm:∀(r:List UInt8),∀x∈Gr.spl r,(10:UInt8)∉x
 | [],x,h=>by
  simp only[Gr.spl,aj]at h;subst h;simp
 | c::r,x,h=>by
  have ih:=gm r
  by_cases hc:c=10
  ·subst hc;rw[dC]at h;rcases az.1 h with rfl | h
   ·simp
   ·exact ih x h
  ·rw[hH hc]at h;cases hr:Gr.spl r with
   | nil=>exact absurd hr (Gr.dD r)
   | cons g t=>
    rw[hr]at h ih;rcases az.1 h with rfl | h
    ·rw[az];rintro(q | q)
     ·exact hc q.symm
     ·exact ih g (by simp) q
    ·exact ih x (by simp[h])
theorem kO:∀r:List UInt8,r=join (Gr.spl r).dropLast ++((Gr.spl r).getLast?).getD []
 | []=>rfl
 | c::r=>by
  have ih:=kO r
  by_cases hc:c=10
  ·subst hc;rw[dC];cases hr:Gr.spl r with
   | nil=>exact absurd hr (Gr.dD r)
   | cons g t=>
    rw[hr]at ih;rw[List.dropLast_cons_of_ne_nil (by simp),fH,ch];show 10::r=10::(_ ++ _);rw[<-ih]
  ·rw[hH hc];cases hr:Gr.spl r with
   | nil=>exact absurd hr (Gr.dD r)
   | cons g t=>
    rw[hr]at ih;cases t with
    | nil=>
     have:r=g:=ih;rw[this];rfl
    | cons g2 t=>
     have e1:((c::g)::g2::t).dropLast=(c::g)::(g2::t).dropLast:=rfl;have e2:(g::g2::t).dropLast=g::(g2::t).dropLast:=rfl;have e3:((c::g)::g2::t).getLast? =(g::g2::t).getLast? :=by rw[ch,ch]
     show c::r=join ((c::g)::g2::t).dropLast ++(((c::g)::g2::t).getLast?).getD [];rw[e1,e3,fH];rw[e2,fH]at ih;show c::r=c::(g ++ 10::join (g2::t).dropLast ++ _);rw[<-ih]
theorem oO (xs:List (List UInt8)) (h:xs≠ []):∃r,join xs=r ++ [10]:=by
 rcases cE xs with q | ⟨a,b,q⟩
 ·exact absurd q h
 ·rw[bX]at q;exact⟨join a ++ b,by rw[q,eY,ai];simp[join]⟩
theorem pR {u:ByteArray} {xs:List (List UInt8)} (hu:u.data.toList=join xs) (hx:∀x∈xs,(10:UInt8)∉x):(linesP u).dropLast.map (·.data.toList)=xs:=by
 rw[c7,Gr.dZ,hu,gl xs hx,List.dropLast_concat]
theorem kN:∀(L:List ByteArray) (k:Nat),k<=L.length->off L k=((join ((L.take k).map (·.data.toList))).length:Int)
 | L,0,h=>by
  have:off L 0=0:=by cases L <;> rfl
  rw[this];rfl
 | [],k + 1,h=>by simp at h
 | x::L,k + 1,h=>by
  rw[bG,bR,fH];show(x.size:Int)+ 1 + off L k=_;rw[kN L k (by simpa using h),ba_size];simp only[aE,av];omega
theorem jA:∀(n:Nat) (a b:List UInt8) (ps:List Pc),ps.length<=n->(a= []\/a.getLast? =some 10)->Reads (a ++ b) ps->∃p1 p2,ps=p1 ++ p2/\flat p1=a/\Reads b p2
 | n,[],b,ps,hn,ha,h=>⟨[],ps,rfl,rfl,h⟩
 | 0,c::a,b,ps,hn,ha,h=>by
  have:ps= []:=by cases ps with | nil=>rfl | cons p ps=>simp at hn
  subst this;cases h
 | n + 1,c::a,b,ps,hn,ha,h=>by
  have hgood:=Pc.gi h;generalize hr:c::a ++ b=r at h;cases h with
  | nil=>cases hr
  | @cons _ p r' ps' hq hr'=>
   have hb:=(Pc.ef hq).1;rcases al (c::a).length (Pc.bytes p).length with q | q
   ·exfalso
    have hpre:(c::a)=(Pc.bytes p).take (c::a).length:=by
     have e:=congrArg (List.take (c::a).length) (hr.trans hb);rw[bZ,iM (by omega)]at e;exact e
    have h10:(10:UInt8)∈Pc.bytes p:=by
     rcases ha with ha | ha
     ·cases ha
     ·have:=cd ha;rw[hpre]at this;exact List.mem_of_mem_take this
    have g:=hgood p (by simp);cases p with
    | nl=>
     simp only[Pc.bytes,av,aQ]at q;omega
    | sp d=>
     simp only[Pc.bytes,av,aQ]at q;omega
    | com w=>
     obtain⟨r2,hr2,hn10⟩:=Pc.fG.1 g;simp only[Pc.bytes]at h10;rw[hr2]at h10;simp only[az]at h10;rcases h10 with h10 | h10 | h10
     ·cases h10
     ·cases h10
     ·exact hn10 h10
    | tok k w=>
     obtain⟨_,_,_,_,_,hn10,_⟩:=gZ g;exact hn10 h10
   ·have e1:(c::a).take (Pc.bytes p).length=Pc.bytes p:=by
     have e:=congrArg (List.take (Pc.bytes p).length) (hr.trans hb);rw[bZ,iM q]at e;exact e
    have e2:(c::a).drop (Pc.bytes p).length ++ b=r':=by
     have e:=congrArg (List.drop (Pc.bytes p).length) (hr.trans hb);rw[fA,dh q]at e;exact e
    have e3:c::a=Pc.bytes p ++(c::a).drop (Pc.bytes p).length:=by
     conv=>lhs;rw[<-bj (Pc.bytes p).length (c::a),e1]
    have ha2:(c::a).drop (Pc.bytes p).length= []\/((c::a).drop (Pc.bytes p).length).getLast? =some 10:=by
     cases hd:(c::a).drop (Pc.bytes p).length with
     | nil=>exact .inl rfl
     | cons d ds=>
      right;rcases ha with ha | ha
      ·cases ha
      ·rw[e3,hd,ar]at ha;cases hl:(d::ds).getLast? with
       | none=>simp at hl
       | some z=>rw[hl]at ha;exact ha
    rw[<-e2]at hr';obtain⟨p1,p2,k1,k2,k3⟩:=jA n _ b ps' (by simpa using hn) ha2 hr';exact⟨p::p1,p2,by rw[k1];rfl,by rw[cU,k2];exact e3.symm,k3⟩
theorem l8:∀(p1 q1 p2 q2:List Pc) (b b':List UInt8),Reads (flat p1 ++ b) (p1 ++ p2)->Reads (flat q1 ++ b') (q1 ++ q2)->flat p1=flat q1->(flat p1= []\/(flat p1).getLast? =some 10)->p1=q1
 | [],[],p2,q2,b,b',h,g,e,ha=>rfl
 | [],q::q1,p2,q2,b,b',h,g,e,ha=>by
  exfalso
  obtain⟨c,r,hb⟩:=fF (Pc.gi g q (by simp));rw[cU,hb]at e;cases e
 | p::p1,[],p2,q2,b,b',h,g,e,ha=>by
  exfalso
  obtain⟨c,r,hb⟩:=fF (Pc.gi h p (by simp));rw[cU,hb]at e;cases e
 | p::p1,q::q1,p2,q2,b,b',h,g,e,ha=>by
  have gp:=Pc.gi h p (by simp);rw[aw]at h g;have hq:p=q:=by
   generalize hr:flat (p::p1)++ b=r at h;generalize hs:flat (q::q1)++ b'=s at g;cases h with
   | @cons _ _ r' _ h1 h2=>
    cases g with
    | @cons _ _ s' _ g1 g2=>
     have u1:=Pc.fp h1;have hr':r'=flat p1 ++ b:=by
      have:=(Pc.ef h1).1;rw[<-hr,cU,ai]at this;exact(cS this).symm
     have key:Pc.bI (Pc.bytes p ++(flat p1 ++ b'))=some (p,flat p1 ++ b'):=by
      refine Pc.glue gp ?_;cases hf:flat p1 with
      | nil=>
       have hlast:(Pc.bytes p).getLast? =some 10:=by
        rcases ha with ha | ha
        ·obtain⟨c,r,hb⟩:=fF gp;rw[cU,hb]at ha;cases ha
        ·rw[cU,hf,aZ]at ha;exact ha
       have hm:=cd hlast;cases p with
       | nl=>exact True.intro
       | sp d=>exact True.intro
       | com w=>
        exfalso
        obtain⟨r2,hr2,hn10⟩:=Pc.fG.1 gp;simp only[Pc.bytes]at hm;rw[hr2]at hm;simp only[az]at hm;rcases hm with hm | hm | hm
        ·cases hm
        ·cases hm
        ·exact hn10 hm
       | tok k w=>
        exfalso
        obtain⟨_,_,_,_,_,hn10,_⟩:=gZ gp;exact hn10 hm
      | cons d ds=>
       have:=u1.2;rw[hr',hf]at this;exact this
     rw[<-ai,<-cU,e,hs,g1]at key;simp only[ak,aD]at key;exact key.1.symm
  subst hq;rw[cU,cU]at e;have e':=cS e;rw[cU,ai]at h g;have h2:Reads (flat p1 ++ b) (p1 ++ p2):=by
   generalize hr:Pc.bytes p ++(flat p1 ++ b)=r at h;cases h with
   | @cons _ _ r' _ h1 h2=>
    have:=(Pc.ef h1).1;rw[<-hr]at this;rw[cS this];exact h2
  have g2:Reads (flat q1 ++ b') (q1 ++ q2):=by
   generalize hr:Pc.bytes p ++(flat q1 ++ b')=r at g;cases g with
   | @cons _ _ r' _ h1 h2=>
    have:=(Pc.ef h1).1;rw[<-hr]at this;rw[cS this];exact h2
  refine congrArg (p::·) (l8 p1 q1 p2 q2 b b' h2 g2 e' ?_);cases hf:flat p1 with
  | nil=>exact .inl rfl
  | cons d ds=>
   right;rcases ha with ha | ha
   ·obtain⟨c,r,hb⟩:=fF gp;rw[cU,hb]at ha;cases ha
   ·rw[cU,hf,ar]at ha;cases hl:(d::ds).getLast? with
    | none=>simp at hl
    | some z=>rw[hl]at ha;exact ha
theorem oN {s u:ByteArray} {a b b':List UInt8} (h1:(scanP s).2.2 < 0) (h2:(scanP u).2.2 < 0) (hs:s.data.toList=a ++ b) (hu:u.data.toList=a ++ b') (ha:a= []\/a.getLast? =some 10):
  (scanP u).1.take (La.skipD (a.length:Int) (scanP u).1 0)=(scanP s).1.take (La.skipD (a.length:Int) (scanP s).1 0):=by
 have one:∀{s:ByteArray} {b:List UInt8} {p1 p2:List Pc},(scanP s).2.2 < 0->s.data.toList=a ++ b->Reads s.data.toList (p1 ++ p2)->flat p1=a->(scanP s).1.take (La.skipD (a.length:Int) (scanP s).1 0)=(p1.foldl Pc.ap ss0).l:=by
  intro s b p1 p2 h1 hs hr hf;obtain⟨e1,_,_⟩:=Gr.eJ h1;have el:aR s=(p1 ++ p2).foldl Pc.ap ss0:=by unfold aR;rw[Pc.iv hr]
  have a0:At ss0:=fun t ht=>by cases ht
  have hat:(p1.foldl Pc.ap ss0).at_=a.length:=by
   rw[gF,hf];show 0 + _=_;omega
  obtain⟨b1,_,_⟩:=eW p1 ss0 a0;obtain⟨c1,_,ra,c2,c3⟩:=eW p2 _ b1;obtain⟨re,d1,d2⟩:=kR c1;have hl:(scanP s).1=(p1.foldl Pc.ap ss0).l ++(ra ++ re):=by rw[e1,el,cg,d1,c2,ai]
  have hlt:∀t∈(p1.foldl Pc.ap ss0).l,t.at_ <(a.length:Int):=by
   rcases cE p1 with q | ⟨p0,z,q⟩
   ·subst q;intro t ht;cases ht
   ·rw[bX]at q;subst q;have hz:z= .nl:=by
     rw[eZ]at hf;have hz0:flat [z]=Pc.bytes z:=by rw[cU];show _ ++ []=_;rw[aZ]
     rw[hz0]at hf;have gz:=Pc.gi hr z (by simp);obtain⟨c,r,hb⟩:=fF gz;have hlast:(Pc.bytes z).getLast? =some 10:=by
      rcases ha with ha | ha
      ·rw[ha,hb]at hf;simp at hf
      ·rw[<-hf,ar]at ha;cases hl:(Pc.bytes z).getLast? with
       | none=>rw[hb]at hl;simp at hl
       | some w=>rw[hl]at ha;exact ha
     have hm:=cd hlast;cases z with
     | nl=>rfl
     | sp d=>
      exfalso
      simp only[Pc.bytes,aj]at hm;unfold Pc.Good at gz;simp only[Pc.bytes,Pc.bI]at gz;rw[<-hm,if_pos (by decide)]at gz;cases gz
     | com w=>
      exfalso
      obtain⟨r2,hr2,hn10⟩:=Pc.fG.1 gz;simp only[Pc.bytes]at hm;rw[hr2]at hm;simp only[az]at hm;rcases hm with hm | hm | hm
      ·cases hm
      ·cases hm
      ·exact hn10 hm
     | tok k w=>
      exfalso
      obtain⟨_,_,_,_,_,hn10,_⟩:=gZ gz;exact hn10 hm
    subst hz;intro t ht;rw[cg]at ht hat;obtain⟨f1,_,_⟩:=eW p0 ss0 a0;generalize p0.foldl Pc.ap ss0=y at *;have hat':y.at_ + 1=a.length:=hat;have ht':t∈(Sc.semi y).l:=ht;have:t.at_<=(y.at_:Int):=by
     rw[cN]at ht';split at ht'
     ·simp only[ao,aj]at ht';rcases ht' with ht' | rfl
      ·exact f1 t ht'
      ·exact cM _
     ·exact f1 t ht'
    omega
  have hge:∀t∈ra ++ re,(a.length:Int)<=t.at_:=by
   intro t ht;rw[ao]at ht;rcases ht with ht | ht
   ·have:=c3 t ht;omega
   ·have:=d2 t ht;have h3:(p1.foldl Pc.ap ss0).at_<=(p2.foldl Pc.ap (p1.foldl Pc.ap ss0)).at_:=(eW p2 _ b1).2.1;omega
  have esk:La.skipD (a.length:Int) (scanP s).1 0=(p1.foldl Pc.ap ss0).l.length:=by
   conv=>lhs;rw[hl]
   rw[iP _ _ hge _ 0 hlt,c9]
  rw[esk,hl,bZ]
 obtain⟨ps,r1,_,_⟩:=Pc.j5 h1;obtain⟨qs,r2,_,_⟩:=Pc.j5 h2;have r1':=r1;have r2':=r2;rw[hs]at r1';rw[hu]at r2';obtain⟨p1,p2,k1,k2,k3⟩:=jA ps.length a b ps (au _) ha r1';obtain⟨q1,q2,m1,m2,m3⟩:=jA qs.length a b' qs (au _) ha r2';have e:p1=q1:=l8 p1 q1 p2 q2 b b' (by rw[k2,<-k1];exact r1') (by rw[m2,<-m1];exact r2') (by rw[k2,m2]) (by rw[k2];exact ha);rw[one h2 hu (by rw[<-m1];exact r2) m2,one h1 hs (by rw[<-k1];exact r1) k2,e]
end Rf
end Go.Proofs.Dm
namespace Go.Proofs.Dm
open Go Go.Proofs Go.Proofs.Dm.Sc
open Fo (isO zeroT LS nlB spB pad trimR valueT spaceT linesP)
open Pc (Sep GV V Facts Reads cQ)
open Gr (ss0 aR)
namespace Rf
variable {l l':List Tok}
theorem eM {s:ByteArray} (h:cX s= -1):(scanP s).2.2 < 0/\b9 s=true/\goR (scanP s).1 (linesP s).dropLast (linesP s).dropLast 0 0= -1:=by
 unfold cX at h;split at h
 ·exact absurd h (by decide)
 ·rename_i q;rw[aG,not_or]at q;refine⟨?_,by simpa using q.2,h⟩;have:=q.1;simp at this;omega
theorem dS {u:ByteArray} {j:Nat} {x:ByteArray} (hx:(linesP u).dropLast[j]? =some x) (hb:(scanP u).2.2 < 0->bE (scanP u).1 (linesP u).dropLast j x (off (linesP u).dropLast j)=false):cX u≠ -1:=by
 intro h;obtain⟨h1,_,h2⟩:=eM h;have:=fx _ _ _ 0 0 h2 j x hx;rw[c9,Int.zero_add,hb h1]at this;cases this
theorem j3 {L:List ByteArray} {i:Nat} {ln:ByteArray} {a:Int} {b:UInt8} (h:ln.data.toList.getLast? =some b) (hb:cQ b=true):bE l L i ln a=false:=by
 unfold bE;have:((trimR ln).toList==ln.toList)=false:=by
  rw[beq_eq_false_iff_ne,Lib.toList_data,Lib.toList_data];intro q;obtain⟨_,_,_,h3⟩:=Pc.iu ln.data.toList;have e:(trimR ln).data.toList=Lib.trimRightS ln.data.toList [32,9]:=rfl;rw[e]at q;rw[q]at h3;have:=h3 b h;rw[hb]at this;cases this
 rw[this];rfl
theorem oM {L:List ByteArray} {i:Nat} {ln l1:ByteArray} {a:Int} (h:ln.data.toList= []) (h1:L[i]? =some l1) (h2:l1.data.toList= []):bE l L (i + 1) ln a=false:=by
 have e:ln=⟨#[]⟩:=ba_ext h;have e2:l1=⟨#[]⟩:=ba_ext h2;subst e;subst e2;unfold bE;have e1:((trimR ⟨#[]⟩).toList==(⟨#[]⟩:ByteArray).toList)=true:=by
  rw[Lib.toList_data,Lib.toList_data];rfl
 have e2:(⟨#[]⟩:ByteArray).toList.isEmpty=true:=by rw[Lib.toList_data];rfl
 rw[e1,e2,aU,h1];show(decide _&& !(⟨#[]⟩:ByteArray).toList.isEmpty&&_)=false;rw[e2];simp
theorem pQ {L L':List ByteArray} {i i':Nat} {ln ln2:ByteArray} {a:Int} (h:bE l L i ln a=true) (hne:ln.data.toList≠ []) (h2:ln2.data.toList=9::9::ln.data.toList) (hs:l'.take (La.skipD a l' 0)=l.take (La.skipD a l 0)):bE l' L' i' ln2 a=false:=by
 have en:bU ln2=bU ln + 2:=by
  rw[fZ,fZ,h2];rw[aA,if_pos (by decide),aA,if_pos (by decide)];simp only[av]
 have eb:(ln2[bU ln2]?).getD 0=(ln[bU ln]?).getD 0:=by
  rw[en,ba_get,ba_get,h2,ck,ck]
 have e0:ln.toList.isEmpty=false:=by
  rw[Lib.toList_data];cases hq:ln.data.toList with
  | nil=>exact absurd hq hne
  | cons b r=>rfl
 have e1:ln2.toList.isEmpty=false:=by rw[Lib.toList_data,h2];rfl
 unfold bE at h|-;cases ht:(trimR ln2).toList==ln2.toList with
 | false=>rfl
 | true=>
  cases ht0:(trimR ln).toList==ln.toList with
  | false=>rw[ht0]at h;cases h
  | true=>
   rw[ht0,e0]at h;rw[e1,hs,eb,en];simp only[cF,aa,if_false]at h|-;generalize (ln[bU ln]?).getD 0=c at *;generalize La.opens (l.take (La.skipD a l 0))=o at *;generalize cL (l.take (La.skipD a l 0))=g at *;generalize bU ln=n at *
   by_cases q:(c==125)=true
   ·rw[if_pos q]at h|-;rw[beq_iff_eq]at h;rw[beq_eq_false_iff_ne];omega
   ·rw[if_neg q]at h|-;rw[ae,aG,ae,beq_iff_eq,beq_iff_eq]at h;rw[aB];right;rw[Bool.or_eq_false_iff,aB,beq_eq_false_iff_ne,beq_eq_false_iff_ne];omega
theorem lK {s:ByteArray} (h:b9 s=true):s.data.toList=join ((linesP s).dropLast.map (·.data.toList)):=by
 have e:=kO s.data.toList;have hl:((Gr.spl s.data.toList).getLast?).getD []= []:=by
  unfold b9 at h;rw[ba_get,ba_size,<-aH]at h;generalize s.data.toList=r at h;rcases cE r with q | ⟨p,b,q⟩
  ·rw[q]at h;cases h
  ·rw[bX]at q;rw[q,ar]at h;have hb:b=10:=by simpa using h
   rw[q,hb,ja,ar];rfl
 rw[hl,aZ]at e;rw[c7,Gr.dZ];exact e
def dp (w:Int) (x:List UInt8):List (List UInt8):=if w==0 then [x ++ [32]]else if w==1 then [x ++ [9]]else if w==2 then [9::9::x]else [x,[],[]]
theorem mL {T u:ByteArray} (hT:cX T= -1) {A B:List (List UInt8)} {x:List UInt8} (w:Int) (hxs:(linesP T).dropLast.map (·.data.toList)=A ++ x::B) (hu:u.data.toList=join (A ++(dp w x ++ B))):cX u≠ -1:=by
 obtain⟨t1,t2,t3⟩:=eM hT;have hTj:=lK t2;rw[hxs]at hTj;have hno:∀z∈A ++ x::B,(10:UInt8)∉z:=by
  intro z hz;rw[<-hxs,c7,Gr.dZ]at hz;exact gm _ z ((List.dropLast_sublist _).subset hz)
 have hA:∀z∈A,(10:UInt8)∉z:=fun z hz=>hno z (by simp[hz])
 have hx:(10:UInt8)∉x:=hno x (by simp);have hB:∀z∈B,(10:UInt8)∉z:=fun z hz=>hno z (by simp[hz])
 have hM:∀z∈dp w x,(10:UInt8)∉z:=by
  unfold dp;intro z hz
  repeat' split at hz
  all_goals simp only[az,bW,or_false]at hz
  ·subst hz;simp[hx]
  ·subst hz;simp[hx]
  ·subst hz;simp[hx]
  ·rcases hz with rfl | rfl | rfl
   ·exact hx
   ·simp
   ·simp
 have hall:∀z∈A ++(dp w x ++ B),(10:UInt8)∉z:=by
  intro z hz;rw[ao,ao]at hz;rcases hz with hz | hz | hz
  ·exact hA z hz
  ·exact hM z hz
  ·exact hB z hz
 have hlu:=pR hu hall;have get:∀(j:Nat) (z:List UInt8),(dp w x ++ B)[j]? =some z->∃ln,(linesP u).dropLast[A.length + j]? =some ln/\ln.data.toList=z:=by
  intro j z hz;have e:=congrArg (fun y=>y[A.length + j]?) hlu;simp only[dO]at e;rw[bV (by omega),ba,hz]at e;cases hq:(linesP u).dropLast[A.length + j]? with
  | none=>rw[hq]at e;cases e
  | some ln=>
   rw[hq]at e;simp only[cB,ak]at e;exact⟨ln,rfl,e⟩
 have last32:∀b:UInt8,(x ++ [b]).getLast? =some b:=fun b=>by rw[ar];rfl
 by_cases w0:w=0
 ·obtain⟨ln,g1,g2⟩:=get 0 (x ++ [32]) (by unfold dp;rw[w0];rfl);exact dS g1 fun _=>j3 (b:=32) (by rw[g2];exact last32 32) rfl
 by_cases w1:w=1
 ·obtain⟨ln,g1,g2⟩:=get 0 (x ++ [9]) (by unfold dp;rw[w1];rfl);exact dS g1 fun _=>j3 (b:=9) (by rw[g2];exact last32 9) rfl
 by_cases w2:w=2
 ·obtain⟨ln,g1,g2⟩:=get 0 (9::9::x) (by unfold dp;rw[w2];rfl);rw[dG]at g1
  by_cases hxe:x= []
  ·refine dS g1 fun _=>j3 (b:=9) (by rw[g2,hxe];rfl) rfl
  ·refine dS g1 fun hsc=> ?_
   obtain⟨z,gz,ez⟩:∃z,(linesP T).dropLast[A.length]? =some z/\z.data.toList=x:=by
    have e:=congrArg (fun y=>y[A.length]?) hxs;simp only[dO]at e;rw[bV (au _),iF]at e;cases hq:(linesP T).dropLast[A.length]? with
    | none=>rw[hq]at e;cases e
    | some z=>
     rw[hq]at e;simp only[cB,cj,ak]at e;exact⟨z,rfl,e⟩
   have hr:=fx _ _ _ 0 0 t3 A.length z gz;rw[c9,Int.zero_add]at hr;have lt:∀(L:List ByteArray) (C:List (List UInt8)),L.map (·.data.toList)=A ++ C->off L A.length=((join A).length:Int):=by
    intro L C h;have hlen:A.length<=L.length:=by
     have:=congrArg List.length h;simp only[List.length_map,aE]at this;omega
    rw[kN L A.length hlen,List.map_take,h,bZ]
   rw[lt _ _ hxs]at hr;rw[lt _ _ hlu];have ha:join A= []\/(join A).getLast? =some 10:=by
    by_cases q:A= []
    ·left;rw[q];rfl
    ·right;obtain⟨r,e⟩:=oO A q;rw[e,ar];rfl
   have hsk:=oN t1 hsc (a:=join A) (by rw[hTj,eY]) (by rw[hu,eY]) ha;exact pQ hr (by rw[ez];exact hxe) (by rw[g2,ez]) hsk
 ·have em:dp w x= [x,[],[]]:=by
   unfold dp;rw[if_neg (by simpa using w0),if_neg (by simpa using w1),if_neg (by simpa using w2)]
  obtain⟨l1,g1,g2⟩:=get 1 [] (by rw[em];rfl);obtain⟨ln,k1,k2⟩:=get 2 [] (by rw[em];rfl);exact dS k1 fun _=>oM k2 g1 g2
def db (w:Int) (x:ByteArray):ByteArray:=if w==0 then x ++ ⟨#[32]⟩else if w==1 then x ++ ⟨#[9]⟩else if w==2 then⟨#[9,9]⟩ ++ x else x ++ ⟨#[10,10]⟩
theorem oL (w:Int) (x:ByteArray):(db w x).data.toList ++ [10]=join (dp w x.data.toList):=by
 unfold db dp
 repeat' split
 all_goals rw[dP]
 all_goals simp[join]
theorem oK (w:Int) (x:ByteArray):(db w x).size<=x.size + 2:=by
 have z1:(⟨#[32]⟩:ByteArray).size=1:=rfl;have z2:(⟨#[9]⟩:ByteArray).size=1:=rfl;have z3:(⟨#[9,9]⟩:ByteArray).size=2:=rfl;have z4:(⟨#[10,10]⟩:ByteArray).size=2:=rfl;unfold db
 repeat' split
 all_goals rw[eV]
 all_goals omega
def tuS (L:List ByteArray) (k:Nat) (w:Int):Nat->ByteArray
 | 0=>⟨#[]⟩
 | i + 1=>tuS L k w i ++((if i=k then db w ((L[i]?).getD ⟨#[]⟩)else(L[i]?).getD ⟨#[]⟩)++ ⟨#[10]⟩)
theorem kM (L:List ByteArray) (k:Nat) (w:Int):∀n:Nat,n<=k->n<=L.length->(tuS L k w n).data.toList=join ((L.take n).map (·.data.toList))
 | 0,h,g=>rfl
 | n + 1,h,g=>by
  have hg:L[n]? =some L[n]:=ah (by omega);show(tuS L k w n ++((if n=k then db w ((L[n]?).getD ⟨#[]⟩)else(L[n]?).getD ⟨#[]⟩)++ ⟨#[10]⟩)).data.toList=_;rw[if_neg (by omega),dP,dP,kM L k w n (by omega) (by omega),hg,bH,hg,bu,eY];simp[join]
theorem fq (L:List ByteArray) (k:Nat) (w:Int) {x:ByteArray} (hx:L[k]? =some x):∀m:Nat,k + 1 + m<=L.length->(tuS L k w (k + 1 + m)).data.toList=join ((L.take k).map (·.data.toList))++(join (dp w x.data.toList)++ join (((L.drop (k + 1)).take m).map (·.data.toList)))
 | 0,h=>by
  show(tuS L k w k ++((if k=k then db w ((L[k]?).getD ⟨#[]⟩)else(L[k]?).getD ⟨#[]⟩)++ ⟨#[10]⟩)).data.toList=_;rw[if_pos rfl,dP,dP,kM L k w k (au _) (by omega),hx];show _ ++((db w x).data.toList ++ [10])=_;rw[oL];simp[join]
 | m + 1,h=>by
  have hg:L[k + 1 + m]? =some L[k + 1 + m]:=ah (by omega);show(tuS L k w (k + 1 + m)++((if k + 1 + m=k then db w ((L[k + 1 + m]?).getD ⟨#[]⟩)else(L[k + 1 + m]?).getD ⟨#[]⟩)++ ⟨#[10]⟩)).data.toList=_;rw[if_neg (by omega),dP,dP,fq L k w hx m (by omega),hg,bH,cR,hg,bu,eY];simp[join]
theorem mF {T:ByteArray} (hT:cX T= -1) {k:Nat} (hk:k <(linesP T).dropLast.length) (w:Int):cX (tuS (linesP T).dropLast k w (linesP T).dropLast.length)≠ -1:=by
 have hx:(linesP T).dropLast[k]? =some (linesP T).dropLast[k]:=ah hk;have e:=fq _ k w hx ((linesP T).dropLast.length -(k + 1)) (by omega);rw[show k + 1 +((linesP T).dropLast.length -(k + 1))=(linesP T).dropLast.length by omega,cZ (l:=(linesP T).dropLast.drop (k + 1)) (by rw[aL];exact au _)]at e;refine mL (x:=(linesP T).dropLast[k].data.toList) (A:=((linesP T).dropLast.take k).map (·.data.toList)) (B:=((linesP T).dropLast.drop (k + 1)).map (·.data.toList)) hT w ?_ (by rw[e,eY,eY])
 conv=>lhs;rw[<-bj k (linesP T).dropLast,aK hk]
 rw[bu,bR]
theorem nE {T:ByteArray} (hT:cX T= -1) {k:Nat} (hk:k <(linesP T).dropLast.length) (w:Int):(tuS (linesP T).dropLast k w (linesP T).dropLast.length).size<=T.size + 2:=by
 have hx:(linesP T).dropLast[k]? =some (linesP T).dropLast[k]:=ah hk;have e:=fq _ k w hx ((linesP T).dropLast.length -(k + 1)) (by omega);rw[show k + 1 +((linesP T).dropLast.length -(k + 1))=(linesP T).dropLast.length by omega,cZ (l:=(linesP T).dropLast.drop (k + 1)) (by rw[aL];exact au _)]at e;have hTj:=lK (eM hT).2.1;have hL:(linesP T).dropLast=(linesP T).dropLast.take k ++(linesP T).dropLast[k]::(linesP T).dropLast.drop (k + 1):=by
  conv=>lhs;rw[<-bj k (linesP T).dropLast,aK hk]
 have h1:=congrArg List.length hTj;rw[hL,bu,bR,eY,fH]at h1;have h2:=congrArg List.length e;rw[ba_size,ba_size,h1,h2];generalize (linesP T).dropLast[k].data.toList=x;have h3:(join (dp w x)).length<=x.length + 3:=by
  unfold dp
  repeat' split
  all_goals simp[join]
 simp only[aE,av];omega
theorem ki (L:List ByteArray) (k:Nat) (w:Int) {S:Nat} (hS:∀x∈L,x.size<=S):∀n:Nat,(tuS L k w n).size<=n *(S + 3)
 | 0=>br _
 | n + 1=>by
  have z:(⟨#[10]⟩:ByteArray).size=1:=rfl;have hx:((L[n]?).getD ⟨#[]⟩).size<=S:=by
   cases h:L[n]? with
   | none=>exact br _
   | some x=>exact hS x (bz h)
  have ih:=ki L k w hS n;show(tuS L k w n ++(_ ++ _)).size<=_;rw[eV,eV,z,Nat.add_mul];have ht:=oK w ((L[n]?).getD ⟨#[]⟩);split <;> omega
end Rf
end Go.Proofs.Dm
set_option maxHeartbeats 16000000
namespace Go.Proofs.Dm
open Go Go.Proofs Go.Proofs.Tryz Go.Proofs.Dm.Sc
open Fo (linesP)
namespace Rf
attribute [local simp] encT encC takes handsOn isTmp Op.operands Call.operands
def ltI (L0 L:List ByteArray) (k:Nat) (w:Int) (which:Int) (m:Nat) (st:St):Prop:=∃i:Nat,m=L.length - i/\i<=L.length/\st.hp= []/\st.tm 2=i64 which/\st.tm 10= .p (.sl 1 (rowsS L0))/\st.tm 11=i64 (k:Nat)/\st.tm 12= .p (.str (tuS L k w i))/\st.tm 13=i64 (i:Nat)
def ltJ (u:ByteArray) (st:St):Prop:=st.hp= []/\st.tm 12= .p (.str u)
def df (which:Int):Int:=IntKind.i64.wrap (((which% 2 ^ IntKind.i64.bits).toNat&&&3% 2 ^ IntKind.i64.bits:Nat):Int)
theorem layoutTurn_ok {W0 nb} (h2:2<=nb) (hT:Lib.Utf8Tabs 0 1 W0) {s:ByteArray} {at_ which:Int}:DCalls ⟨Tryz.prog,W0,nb⟩ 18 [.p (.str s),i64 at_,i64 which] [] (.p (.bool true)) []:=by
 have c0:=La.begun18_ok (W0:=W0) (nb:=nb) h2 hT;have c1:=mP (W0:=W0) (nb:=nb) (s:=s) (n:=400) (by decide);have hz:=oY s 400;generalize fS s 400=a at *;have c2:=oZ (W0:=W0) (nb:=nb) h2 hT (s:=a) (by omega);refine dcalls_end Tryz.func18 rfl (by kernel_rfl) 81 Tryz.ntmps18 #[.tmp 6] rfl (bh rfl) ?_;simp;refine CallGoal.same c0 ?_;simp;refine CallGoal.same c1 ?_;simp;refine CallGoal.same c2 ?_;rcases eU (eP a).2 0 with h | h
 rotate_left
 ·simp[h];exact .keep (by simp[h]) (.refl _) (by simp) (by simp[h]) (by simp[h]) (by simp[h])
 obtain⟨h3,h4,e1⟩:=kX h;have hr:=oT (s:=a) (by omega) h;rw[e1];simp only[jV];generalize bY a=T at *;have c3:=lL (W0:=W0) (nb:=nb) (s:=T) (by omega);clear h e1 h3 c0 c1 c2
 by_cases hat:at_ < 0
 ·simp[hat];exact .keep (by simp[hat]) (.refl _) (by simp) (by simp[hat]) (by simp[hat]) (by simp[hat])
 obtain⟨_,t2,_⟩:=eM hr;have hll:=Gr.gh T;have hcount:T.data.toList.count 10<=T.size:=by rw[ba_size];exact dk
 have hone:1<=T.data.toList.count 10:=by
  unfold b9 at t2;rw[ba_get,ba_size,<-aH]at t2;cases hq:T.data.toList.getLast? with
  | none=>rw[hq]at t2;cases t2
  | some b=>
   rw[hq]at t2;have hb:b=10:=by simpa using t2
   have hm:=cd hq;rw[hb]at hm;exact List.count_pos_iff.2 hm
 have hS:∀x∈linesP T,x.size<=2000:=fun x hx=>by have:=iC T x hx;omega
 have hLd:(linesP T).dropLast.length=(linesP T).length - 1:=List.length_dropLast;obtain⟨k,hk,hkl⟩:∃k:Nat,at_.tmod ((linesP T).dropLast.length:Int)=k/\k <(linesP T).dropLast.length:=by
  have hn:(0:Int)<((linesP T).dropLast.length:Int):=by omega
  have h1:=Int.tmod_nonneg ((linesP T).dropLast.length:Int) (show 0<=at_ by omega);have h5:=Int.tmod_lt_of_pos at_ hn;exact⟨(at_.tmod ((linesP T).dropLast.length:Int)).toNat,by omega,by omega⟩
 have hne:=mF hr hkl;have hgd:∀i,i <(linesP T).dropLast.length->(linesP T)[i]? =(linesP T).dropLast[i]? :=fun i hi=>by
  rw[List.getElem?_dropLast,if_pos (by omega)]
 have hSd:∀x∈(linesP T).dropLast,x.size<=2000:=fun x hx=>hS x ((List.dropLast_sublist _).subset hx)
 have husm:=fun w=>nE hr hkl w
 have hub:=fun w=>ki (linesP T).dropLast k w hSd
 have hl1:=w64_id (n:=((linesP T).length:Int)- 1) (by omega) (by omega);simp only[w64]at hl1;have hl2:((linesP T).length:Int)- 1=((linesP T).dropLast.length:Int):=by omega
 have hl3:=hl1.trans hl2;have hll2:(linesP T).length<=2001:=by omega
 have hn0:¬(linesP T).dropLast= []:=fun e=>by rw[e]at hkl;exact absurd hkl (by simp)
 generalize hLL:(linesP T).dropLast=L at *;generalize hL0:linesP T=L0 at *;simp[hat];refine CallGoal.same c3 ?_;simp[rowsS,hl3,hk,hn0];refine LoopGoal.cut (ltJ (tuS L k (df which) L.length)) ?_ ?_
 ·refine⟨ltI L0 L k (df which) which,L.length,.here ⟨0,by simp,by simp,by simp,by simp,by simp[rowsS],by simp,by simp[tuS],by simp⟩,?_⟩;rintro m ⟨tm,hp⟩ ⟨i,rfl,hi,h0,g2,g10,g11,g12,g13⟩;simp only at h0 g2 g10 g11 g12 g13;subst h0;simp[g10,g13,hl3,rowsS];rcases al i L.length with hlt | hge
  rotate_left
  ·have hil:i=L.length:=by omega
   have hnl:¬i < L.length:=by omega
   rw[hil]at g12;simp[hnl];exact⟨by simp,by simp[g12]⟩
  obtain⟨x,hx⟩:∃x,L[i]? =some x:=⟨_,ah hlt⟩
  have hx0:L0[i]? =some x:=by rw[hgd i hlt];exact hx
  have hxs:x.size<=2000:=hSd x (bz hx);have hus:=hub (df which) i;have hu1:tuS L k (df which) (i + 1)=tuS L k (df which) i ++((if i=k then db (df which) ((L[i]?).getD ⟨#[]⟩)else(L[i]?).getD ⟨#[]⟩)++ ⟨#[10]⟩):=rfl;rw[hx]at hu1;simp only[bB]at hu1;have hw:=w64_id (n:=(i:Int)+ 1) (by omega) (by omega);simp only[w64]at hw;have z1:(⟨#[32]⟩:ByteArray).size=1:=rfl;have z2:(⟨#[9]⟩:ByteArray).size=1:=rfl;have z3:(⟨#[9,9]⟩:ByteArray).size=2:=rfl;have z4:(⟨#[10,10]⟩:ByteArray).size=2:=rfl;have z5:(⟨#[10]⟩:ByteArray).size=1:=rfl;simp[hlt,g10,g11,g13,rowsS,hx0,hl3];refine ifGoal_of (fun q=> ?_) (fun q=> ?_)
  rotate_left
  ·have hik:¬i=k:=by
    intro e;rw[e]at q;simp at q
   rw[if_neg hik]at hu1;have hb1:¬(9223372036854775807:Int)<(x.size:Int)+ 1:=by omega
   have hb2:¬(9223372036854775807:Int)<((tuS L k (df which) i).size:Int)+((x.size:Int)+ 1):=by omega
   simp[g2,g10,g11,g12,g13,hx0,z1,z2,z3,z4,z5,hw,hb1,hb2];exact .same (L.length -(i + 1)) (by omega) ⟨i + 1,rfl,by omega,by simp,by simp[g2],by simp[g10,rowsS],by simp[g11],by simp[hu1],by simp[hw]⟩
  ·have hik:i=k:=by
    have:=beq_iff_eq.1 q;omega
   rw[if_pos hik]at hu1;unfold db at hu1;have hbx:¬(9223372036854775807:Int)<(x.size:Int)+ 1:=by omega
   have hby:¬(9223372036854775807:Int)<(x.size:Int)+ 2:=by omega
   have hbz:¬(9223372036854775807:Int)< 2 +(x.size:Int):=by omega
   simp[g2];show IfGoal (df which==0) _ _ _;refine ifGoal_of (fun w0=> ?_) (fun w0=> ?_)
   ·rw[if_pos w0]at hu1;have hb1:¬(9223372036854775807:Int)<((x.size:Int)+ 1)+ 1:=by omega
    have hb2:¬(9223372036854775807:Int)<((tuS L k (df which) i).size:Int)+(((x.size:Int)+ 1)+ 1):=by omega
    simp[g2,g10,g11,g12,g13,hx0,z1,z2,z3,z4,z5,hw,hb1,hb2,hbx];exact .same (L.length -(i + 1)) (by omega) ⟨i + 1,rfl,by omega,by simp,by simp[g2],by simp[g10,rowsS],by simp[g11],by simp[hu1],by simp[hw]⟩
   rw[if_neg (by rw[w0];decide)]at hu1;simp;show IfGoal (df which==1) _ _ _;refine ifGoal_of (fun w1=> ?_) (fun w1=> ?_)
   ·rw[if_pos w1]at hu1;have hb1:¬(9223372036854775807:Int)<((x.size:Int)+ 1)+ 1:=by omega
    have hb2:¬(9223372036854775807:Int)<((tuS L k (df which) i).size:Int)+(((x.size:Int)+ 1)+ 1):=by omega
    simp[g2,g10,g11,g12,g13,hx0,z1,z2,z3,z4,z5,hw,hb1,hb2,hbx];exact .same (L.length -(i + 1)) (by omega) ⟨i + 1,rfl,by omega,by simp,by simp[g2],by simp[g10,rowsS],by simp[g11],by simp[hu1],by simp[hw]⟩
   rw[if_neg (by rw[w1];decide)]at hu1;simp;show IfGoal (df which==2) _ _ _;refine ifGoal_of (fun w2=> ?_) (fun w2=> ?_)
   ·rw[if_pos w2]at hu1;have hb1:¬(9223372036854775807:Int)<(2 +(x.size:Int))+ 1:=by omega
    have hb2:¬(9223372036854775807:Int)<((tuS L k (df which) i).size:Int)+((2 +(x.size:Int))+ 1):=by omega
    simp[g2,g10,g11,g12,g13,hx0,z1,z2,z3,z4,z5,hw,hb1,hb2,hbz];exact .same (L.length -(i + 1)) (by omega) ⟨i + 1,rfl,by omega,by simp,by simp[g2],by simp[g10,rowsS],by simp[g11],by simp[hu1],by simp[hw]⟩
   rw[if_neg (by rw[w2];decide)]at hu1;have hb1:¬(9223372036854775807:Int)<((x.size:Int)+ 2)+ 1:=by omega
   have hb2:¬(9223372036854775807:Int)<((tuS L k (df which) i).size:Int)+(((x.size:Int)+ 2)+ 1):=by omega
   simp[g2,g10,g11,g12,g13,hx0,z1,z2,z3,z4,z5,hw,hb1,hb2,hby];exact .same (L.length -(i + 1)) (by omega) ⟨i + 1,rfl,by omega,by simp,by simp[g2],by simp[g10,rowsS],by simp[g11],by simp[hu1],by simp[hw]⟩
 ·rintro⟨tm,hp⟩ ⟨h0,g12⟩;simp only at h0 g12;subst h0;obtain⟨u,hu⟩:∃u,tuS L k (df which) L.length=u:=⟨_,rfl⟩
  have hun:=hne (df which);have hus:=husm (df which);rw[hu]at hun hus g12;have d1:=l9 (W0:=W0) (nb:=nb) h2 hT (s:=u) (by omega);have d2:=oP (W0:=W0) (nb:=nb) h2 hT (s:=u) (by omega);have d3:=pS (W0:=W0) (nb:=nb) h2 hT (s:=u) (by omega);have e3:(cX u== -1)=false:=by simpa using hun
  rw[e3]at d3;simp[g12];refine CallGoal.same d1 ?_;simp[g12];refine CallGoal.same d2 ?_;simp[g12];refine CallGoal.same d3 ?_;simp;exact .keep (by simp) (.refl _) (by simp) (by simp) (by simp) (by simp)
end Rf
end Go.Proofs.Dm
