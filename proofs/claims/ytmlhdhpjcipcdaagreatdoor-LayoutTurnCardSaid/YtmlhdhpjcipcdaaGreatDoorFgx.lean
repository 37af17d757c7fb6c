/- Part of the proof: contracts of the functions, walked by the D-machine. No condition. -/
import Derived.Test.YtmlhdhpjcipcdaaGreatDoorFe
import Derived.Test.YtmlhdhpjcipcdaaGreatDoorFf
import Derived.Test.YtmlhdhpjcipcdaaGreatDoorHdx
import Derived.Test.YtmlhdhpjcipcdaaGreatDoorDn
set_option linter.unusedSimpArgs false
set_option linter.unusedVariables false
set_option maxHeartbeats 16000000
set_option maxRecDepth 100000
namespace Go.Proofs.Dm
open Go Go.Proofs Go.Proofs.Tryz Go.Proofs.Dm.Sc
namespace Fo
attribute [local simp] encT encC takes handsOn isTmp Op.operands Call.operands
def own1 (a:DV):Prop:=a= .bn 1 66 9∨a= .ref 1 2
def own0 (a:DV):DV:=mapRef (fun _=>0) a
theorem own1_map {a:DV} (h:own1 a):∀f:Nat→Nat,f 1=0→mapRef f a=own0 a:=by
 intro f hf;rcases h with rfl | rfl <;> simp[mapRef,own0,hf]
theorem own1_refs {a:DV} (h:own1 a):refsD a= [1]:=by rcases h with rfl | rfl <;> rfl
theorem own1_own {a:DV} (h:own1 a):hasOwn a=false:=by rcases h with rfl | rfl <;> rfl
theorem own1_fz {a:DV} (h:own1 a):fz a=a:=by rcases h with rfl | rfl <;> rfl
theorem own0_fresh {a:DV} (h:own1 a):fresh (own0 a) 2:=by
 rcases h with rfl | rfl
 ·exact .inl ⟨_,_,rfl,by decide,by kernel_rfl⟩
 ·exact .inr rfl
def NDb (k tt:Int) (ks:List Nd):List DV:= [i64 k,i64 tt,.p (.sl 3 (encNs ks))]
def fI (l:List Tok) (cs:List Com) (src:List ByteArray) (B:Nat) (ND:List DV) (X:LS) (rest:List Com) (m:Nat) (st:St):Prop:=∃(i:Nat) (x:LS) (cs1:List Com) (a:DV) (n:Nat),i≤l.length∧m=l.length - i∧goS l src (l.drop i) i x cs1=some (X,rest)∧At l B n x∧n +(l.length - i)+ cs1.length≤l.length + cs.length∧(∀c∈cs1,c∈cs)∧own1 a∧
 st.hp= [ND,lbox a l src x]∧st.tm 8= .p (.sl 4 (cs1.map encC))∧st.tm 10= .ref 1 0∧st.tm 35= .p (.sl 5 (l.map encT))∧st.tm 36=i64 (l.length:Nat)∧st.tm 37=i64 (i:Nat)
def gI (l:List Tok) (cs:List Com) (src:List ByteArray) (B:Nat) (ND:List DV) (i:Nat) (t:Tok) (y:LS) (rest2:List Com) (N:Nat) (m:Nat) (st:St):Prop:=∃(w:LS) (cs2:List Com) (a:DV) (n:Nat),comsS l src w (aheadC i cs2).1=some y∧(aheadC i cs2).2=rest2∧m=cs2.length∧At l B n w∧n + cs2.length≤N∧(∀c∈cs2,c∈cs)∧own1 a∧
 st.hp= [ND,lbox a l src w,(encT t).map .p]∧st.tm 8= .p (.sl 4 (cs2.map encC))∧st.tm 10= .ref 1 0∧st.tm 11=i64 (i:Nat)∧st.tm 12= .ref 2 0∧st.tm 35= .p (.sl 5 (l.map encT))∧st.tm 36=i64 (l.length:Nat)∧st.tm 37=i64 (i:Nat)
def gJ (l:List Tok) (cs:List Com) (src:List ByteArray) (B:Nat) (ND:List DV) (i:Nat) (t:Tok) (y:LS) (rest2:List Com) (N:Nat) (st:St):Prop:=∃(a:DV) (n:Nat),At l B n y∧n + rest2.length≤N∧(∀c∈rest2,c∈cs)∧own1 a∧
 st.hp= [ND,lbox a l src y,(encT t).map .p]∧st.tm 8= .p (.sl 4 (rest2.map encC))∧st.tm 10= .ref 1 0∧st.tm 11=i64 (i:Nat)∧st.tm 12= .ref 2 0∧st.tm 35= .p (.sl 5 (l.map encT))∧st.tm 36=i64 (l.length:Nat)∧st.tm 37=i64 (i:Nat)
def fJ (l:List Tok) (cs:List Com) (src:List ByteArray) (B:Nat) (ND:List DV) (X:LS) (rest:List Com) (st:St):Prop:=∃(a:DV) (n:Nat),At l B n X∧n + rest.length≤l.length + cs.length∧(∀c∈rest,c∈cs)∧own1 a∧
 st.hp= [ND,lbox a l src X]∧st.tm 8= .p (.sl 4 (rest.map encC))∧st.tm 10= .ref 1 0
def kI (l:List Tok) (cs:List Com) (src:List ByteArray) (B:Nat) (ND:List DV) (rest:List Com) (Y:LS) (m:Nat) (st:St):Prop:=∃(i:Nat) (w:LS) (a:DV) (n:Nat),i≤rest.length∧m=rest.length - i∧comsS l src w (rest.drop i)=some Y∧At l B n w∧n +(rest.length - i)≤l.length + cs.length∧own1 a∧
 st.hp= [ND,lbox a l src w]∧st.tm 10= .ref 1 0∧st.tm 73= .p (.sl 4 (rest.map encC))∧st.tm 74=i64 (rest.length:Nat)∧st.tm 75=i64 (i:Nat)
def kJ (l:List Tok) (src:List ByteArray) (B M:Nat) (ND:List DV) (Y:LS) (st:St):Prop:=∃(a:DV) (n:Nat),At l B n Y∧n≤M∧own1 a∧st.hp= [ND,lbox a l src Y]∧st.tm 10= .ref 1 0
def fmtR (out:ByteArray):DV:= .tup [.p (.str (if 2000 < out.size then⟨#[]⟩else out)),i64 (if 2000 < out.size then 2000 else -1)]
theorem fmt_ok {W0 nb} {s out:ByteArray} {B:Nat} (h2:2≤nb) (hT:Lib.Utf8Tabs 0 1 W0) (hs:s.size < 100000) (hf:(Gr.textP s).2.2 < 0) (hz:Sized (Gr.textP s).2.1 (scanP s).2.1 (linesP s) B) (h:layS (Gr.textP s).2.1 (scanP s).2.1 (linesP s)=some out):
  DCalls ⟨Tryz.prog,W0,nb⟩ 29 [.p (.str s)] [] (fmtR out) []:=by
 have c1:=Gr.pText_ok (W0:=W0) (nb:=nb) h2 hT (s:=s) (by omega);have c2:=scan_ok (W0:=W0) (nb:=nb) h2 hT (s:=s) (by omega);have c3:=split_ok (W0:=W0) (nb:=nb) (s:=s) (by omega);generalize linesP s=src at *;obtain⟨R,hR⟩:∃R,Gr.textP s=R:=⟨_,rfl⟩
 obtain⟨S,hS⟩:∃S,scanP s=S:=⟨_,rfl⟩
 rw[hR]at c1 hf hz h;rw[hS]at c2 hz h;obtain⟨⟨k,tt,ks⟩,l,f⟩:=R;obtain⟨l0,cs,g⟩:=S;simp only[toks,coms]at c1 c2 hf hz h;have hf':¬0≤f:=by omega
 unfold layS at h;cases hgo:goS l src l 0 ls0 cs with
 | none=>rw[hgo]at h;cases h
 | some XR=>
 obtain⟨X,rest⟩:=XR;rw[hgo]at h;dsimp only at h;cases hY:comsS l src X rest with
 | none=>rw[hY]at h;cases h
 | some Y=>
 rw[hY]at h;dsimp only at h;injection h with h;subst h
 obtain⟨ND,hND⟩:∃ND,NDb k tt ks=ND:=⟨_,rfl⟩
 have hlen:=hz.len;have hclen:=hz.clen;simp only[encN]at c1;refine dcalls_end Tryz.func29 rfl (by kernel_rfl) 96 Tryz.ntmps29 #[.tmp 2,.tmp 3] rfl (Nat.le_of_ble_eq_true rfl) ?_;simp;refine CallGoal.same c1 ?_;simp[hf'];refine CallGoal.same c2 ?_;simp;refine CallGoal.same c3 ?_;simp;refine LoopGoal.cut (fJ l cs src B ND X rest) ?_ ?_
 ·have h0:At l B 0 ls0:=⟨by rw[Nat.zero_mul];exact Nat.le_refl 0,by simp[ls0],by simp[ls0];omega,by simp[ls0]⟩
  refine⟨fI l cs src B ND X rest,l.length,.here ⟨0,ls0,cs,_,0,by omega,by omega,by simpa using hgo,h0,by omega,fun c h=>h,.inl rfl,by simp[lbox,←hND,NDb,ls0,bytesR],by simp,by simp,by simp,by simp,by simp⟩,?_⟩;rintro m ⟨tm,hp⟩ ⟨i,x,cs1,a,n,hi,rfl,hg,hA,hn,hcs,ha,g0,g8,g10,g35,g36,g37⟩;simp only at g0 g8 g10 g35 g36 g37;subst g0;have hr:=own1_refs ha;have hm:=own1_map ha;have ho:=own1_own ha;have hz1:=own1_fz ha;simp[g36,g37];rcases Nat.lt_or_ge i l.length with hlt | hge
  rotate_left
  ·have hil:i=l.length:=by omega
   subst hil;simp[goS]at hg;obtain⟨rfl,rfl⟩:=hg;simp;exact⟨a,n,hA,by omega,hcs,ha,by simp,by simp[g8],by simp[g10]⟩
  obtain⟨t,ht⟩:∃t,l[i]? =some t:=⟨_,List.getElem?_eq_getElem hlt⟩
  have hti:l[i]=t:=by
   have:=List.getElem?_eq_getElem hlt;rw[ht]at this;injection this with this
   exact this.symm
  have hd:l.drop i=t::l.drop (i + 1):=by rw[List.drop_eq_getElem_cons hlt,hti]
  rw[hd]at hg;unfold goS at hg;cases hy:comsS l src x (aheadC i cs1).1 with
  | none=>rw[hy]at hg;cases hg
  | some y=>
  rw[hy]at hg;dsimp only at hg;cases hz3:oneS l src y i t with
  | none=>rw[hz3]at hg;cases hg
  | some z=>
  rw[hz3]at hg;dsimp only at hg;simp[hlt,g35,g36,g37,g8,g10,ht,hti,hr,hm,ho,hz1];obtain⟨rest2,hrest2⟩:∃r2,(aheadC i cs1).2=r2:=⟨_,rfl⟩
  rw[hrest2]at hg;refine LoopGoal.cut (gJ l cs src B ND i t y rest2 (n + cs1.length)) ?_ ?_
  ·refine⟨gI l cs src B ND i t y rest2 (n + cs1.length),cs1.length,.here ⟨x,cs1,a,n,hy,hrest2,rfl,hA,Nat.le_refl _,hcs,ha,by simp,by simp[g8],by simp[g10],by simp[g37],by simp,by simp[g35],by simp[g36],by simp[g37]⟩,?_⟩;clear hA ha g8 g10 g35 g36 g37 hr hm ho hz1 hcs hg hy hz3 hrest2;rintro m ⟨tm,hp⟩ ⟨w,cs2,a,n2,hw,hre,rfl,hA,hn2,hcs,ha,g0,g8,g10,g11,g12,g35,g36,g37⟩;simp only at g0 g8 g10 g11 g12 g35 g36 g37;subst g0;have hr:=own1_refs ha;have hm:=own1_map ha;have ho:=own1_own ha;have hz1:=own1_fz ha;cases cs2 with
   | nil=>
    have e2:rest2= []:=by simpa [aheadC]using hre.symm
    have e1:w=y:=by simpa [aheadC,comsS]using hw
    subst e1;subst e2;simp[g8];exact⟨a,n2,hA,hn2,hcs,ha,by simp,by simp[g8],by simp[g10],by simp[g11],by simp[g12],by simp[g35],by simp[g36],by simp[g37]⟩
   | cons c r=>
    by_cases hci:c.next=(i:Int)
    ·simp only[aheadC,if_pos hci,comsS]at hw hre;cases hc4:comS l src w c with
     | none=>rw[hc4]at hw;cases hw
     | some w2=>
     rw[hc4]at hw;dsimp only at hw;have hcm:c∈cs:=hcs c (by simp);obtain⟨q1,q2,q3⟩:=hz.com c hcm;have hB:=hz.b;have hfit:=hA.fits hz (by simp at hn2;omega);have cc:=com_ok (W0:=W0) (nb:=nb) (own0_fresh ha) hfit q1 q2 (by omega) (fun z hzz=>by have:=(begin_grow hzz).1;have:=hfit.out;omega) hc4;simp only[lbox,encC,hci,List.map_cons,List.map_nil]at cc;simp[g8,g10,g11,hci];simp[lbox,g8,g10,hr,hm,ho,hz1];refine CallGoal.same cc ?_;have hr1:(1:Int)≤(r.length:Int)+ 1:=by omega
     simp[g8,g10,hr1];exact .same r.length (by simp) ⟨w2,r,.ref 1 2,n2 + 1,hw,hre,rfl,hA.com hz hcm (trimR_size _) hc4,by simp at hn2⊢;omega,fun d hd=>hcs d (by simp[hd]),.inr rfl,by simp[lbox],by simp[g8];exact List.take_of_length_le (by simp),by simp[g10],by simp[g11],by simp[g12],by simp[g35],by simp[g36],by simp[g37]⟩
    ·have hci':(c.next==(i:Int))=false:=beq_eq_false_iff_ne.2 hci;have e2:rest2=c::r:=by simpa [aheadC,hci]using hre.symm
     have e1:w=y:=by simpa [aheadC,comsS,hci]using hw
     subst e1;subst e2;simp[g8,g11,hci'];exact⟨a,n2,hA,hn2,hcs,ha,by simp,by simp[g8],by simp[g10],by simp[g11],by simp[g12],by simp[g35],by simp[g36],by simp[g37]⟩
  clear hA ha g8 g10 g35 g36 g37 hr hm ho hz1 hcs;rintro⟨tm,hp⟩ ⟨a,n2,hA2,hn2,hcs2,ha,g0,g8,g10,g11,g12,g35,g36,g37⟩;simp only at g0 g8 g10 g11 g12 g35 g36 g37;subst g0;have hr:=own1_refs ha;have hm:=own1_map ha;have ho:=own1_own ha;have hz1:=own1_fz ha;have hw:=w64_id (n:=(i:Int)+ 1) (by omega) (by omega);simp only[w64]at hw;unfold oneS at hz3
  by_cases k6:t.kind=6
  ·rw[if_pos k6]at hz3;injection hz3 with hz3;subst hz3
   simp[lbox,g10,g12,hr,hm,ho,hz1,k6,g37,hw];exact .drop (l.length -(i + 1)) (by omega) 2 (by simp) (by simp) (by simp[hr,←hND,NDb,refsDs,refsD]) ⟨i + 1,{y with semi:=true},rest2,a,n2,by omega,rfl,hg,⟨hA2.out,hA2.opn,hA2.last,hA2.line⟩,by omega,hcs2,ha,by simp[dropSt,lbox],by simp[dropSt,dropD,g8],by simp[dropSt,dropD,g10],by simp[dropSt,dropD,g35],by simp[dropSt,dropD,g36],by simp[dropSt,dropD,hw]⟩
  rw[if_neg k6]at hz3;have k6':(t.kind==6)=false:=beq_eq_false_iff_ne.2 k6
  by_cases k7:t.kind=7
  ·rw[if_pos k7]at hz3;injection hz3 with hz3;subst hz3
   simp[lbox,g10,g12,hr,hm,ho,hz1,k6',k7,g37,hw];exact .drop (l.length -(i + 1)) (by omega) 2 (by simp) (by simp) (by simp[hr,←hND,NDb,refsDs,refsD]) ⟨i + 1,y,rest2,a,n2,by omega,rfl,hg,hA2,by omega,hcs2,ha,by simp[dropSt,lbox],by simp[dropSt,dropD,g8],by simp[dropSt,dropD,g10],by simp[dropSt,dropD,g35],by simp[dropSt,dropD,g36],by simp[dropSt,dropD,hw]⟩
  rw[if_neg k7]at hz3;have k7':(t.kind==7)=false:=beq_eq_false_iff_ne.2 k7;obtain⟨q1,q2⟩:=hz.tok t (List.mem_of_getElem? ht);have hB:=hz.b;have hop:=hA2.opn;have hfit:=hA2.fits hz (by omega);have hx2:Fits l src {y with opn:=if isO t [125]then y.opn - 1 else y.opn}:=⟨hfit.len,hfit.lines,hfit.last,hfit.line,by dsimp only;split <;> omega,hfit.out⟩
  have ct:=tok_ok (W0:=W0) (nb:=nb) (own0_fresh ha) hfit hx2 ht q1 (by omega) (fun z hzz=>by
   have h3:=sep_grow hzz;dsimp only at h3;have:=hfit.out;refine⟨by omega,?_,?_⟩ <;> rw[h3.2] <;> split <;> omega) hz3
  simp only[lbox]at ct;simp[lbox,g10,g11,g12,hr,hm,ho,hz1,k6',k7'];refine CallGoal.same ct ?_;simp[g37,hw];exact .drop (l.length -(i + 1)) (by omega) 2 (by simp) (by simp) (by simp[←hND,NDb,refsDs,refsD]) ⟨i + 1,z,rest2,.ref 1 2,n2 + 1,by omega,rfl,hg,hA2.tok hz ht hz3,by omega,hcs2,.inr rfl,by simp[dropSt,lbox],by simp[dropSt,dropD,g8],by simp[dropSt,dropD,g10],by simp[dropSt,dropD,g35],by simp[dropSt,dropD,g36],by simp[dropSt,dropD,hw]⟩
 rintro⟨tm,hp⟩ ⟨a,n,hA,hn,hcs,ha,g0,g8,g10⟩;simp only at g0 g8 g10;subst g0;have hrl:rest.length≤600000:=by omega
 simp[g8];refine LoopGoal.cut (kJ l src B (l.length + cs.length) ND Y) ?_ ?_
 ·refine⟨kI l cs src B ND rest Y,rest.length,.here ⟨0,X,a,n,by omega,by omega,by simpa using hY,hA,by omega,ha,by simp,by simp[g10],by simp,by simp,by simp⟩,?_⟩;clear hA ha hn g8 g10;rintro m ⟨tm,hp⟩ ⟨i,w,a,n,hi,rfl,hw,hA,hn,ha,g0,g10,g73,g74,g75⟩;simp only at g0 g10 g73 g74 g75;subst g0;have hr:=own1_refs ha;have hm:=own1_map ha;have ho:=own1_own ha;have hz1:=own1_fz ha;simp[g74,g75];rcases Nat.lt_or_ge i rest.length with hlt | hge
  rotate_left
  ·have hil:i=rest.length:=by omega
   subst hil;simp[comsS]at hw;subst hw;simp;exact⟨a,n,hA,by omega,ha,by simp,by simp[g10]⟩
  obtain⟨c,hc⟩:∃c,rest[i]? =some c:=⟨_,List.getElem?_eq_getElem hlt⟩
  have hci:rest[i]=c:=by
   have:=List.getElem?_eq_getElem hlt;rw[hc]at this;injection this with this
   exact this.symm
  have hd:rest.drop i=c::rest.drop (i + 1):=by rw[List.drop_eq_getElem_cons hlt,hci]
  rw[hd]at hw;unfold comsS at hw;cases hc4:comS l src w c with
  | none=>rw[hc4]at hw;cases hw
  | some w2=>
  rw[hc4]at hw;dsimp only at hw;have hcm:c∈cs:=hcs c (List.mem_of_getElem? hc);obtain⟨q1,q2,q3⟩:=hz.com c hcm;have hB:=hz.b;have hfit:=hA.fits hz (by omega);have cc:=com_ok (W0:=W0) (nb:=nb) (own0_fresh ha) hfit q1 q2 (by omega) (fun z hzz=>by have:=(begin_grow hzz).1;have:=hfit.out;omega) hc4;have hwi:=w64_id (n:=(i:Int)+ 1) (by omega) (by omega);simp only[w64]at hwi;simp only[lbox,encC,List.map_cons,List.map_nil]at cc;simp[hlt,g73,g74,g75,g10,hc,hci,hr,hm,ho,hz1,lbox];refine CallGoal.same cc ?_;simp[g75,hwi];exact .drop (rest.length -(i + 1)) (by omega) 2 (by simp) (by simp) (by simp[←hND,NDb,refsDs,refsD]) ⟨i + 1,w2,.ref 1 2,n + 1,by omega,rfl,hw,hA.com hz hcm (trimR_size _) hc4,by omega,.inr rfl,by simp[dropSt,lbox],by simp[dropSt,dropD,g10],by simp[dropSt,dropD,g73],by simp[dropSt,dropD,g74],by simp[dropSt,dropD,hwi]⟩
 clear hA ha hn g8 g10 hcs;rintro⟨tm,hp⟩ ⟨a,n,hA,hn,ha,g0,g10⟩;simp only at g0 g10;subst g0;have hr:=own1_refs ha;have hm:=own1_map ha;have ho:=own1_own ha;have hz1:=own1_fz ha;have hfit:=hA.fits hz (by omega);have ho1:=hfit.out;have cw:=write_ok (W0:=W0) (nb:=nb) (l:=l) (src:=src) (x:=Y) (s:=nlB) (own0_fresh ha) (by rw[nl_size];omega);have cl:=len_ok (W0:=W0) (nb:=nb) (l:=l) (src:=src) (x:={Y with out:=Y.out ++ nlB}) (a:= .ref 0 2) (.inr rfl);have cs2:=string_ok (W0:=W0) (nb:=nb) (l:=l) (src:=src) (x:={Y with out:=Y.out ++ nlB}) (a:= .ref 0 2) (by show 0 <(Y.out ++ nlB).size;rw[ByteArray.size_append,nl_size];omega) (by show(Y.out ++ nlB).size≤_;rw[ByteArray.size_append,nl_size];omega);simp only[lbox]at cw cl cs2;simp only[nlB]at cw;generalize hO:Y.out ++ nlB=O at *;simp only[nlB]at hO;rw[hO]at cw;simp[g10,lbox,hr,hm,ho,hz1];refine CallGoal.same cw ?_;simp[g10];refine CallGoal.same cl ?_;unfold fmtR
 by_cases h3:2000 < O.size
 ·have h3i:(2000:Int)<(O.size:Int):=by omega
  simp[h3i];exact .keep (by simp[h3]) (.refl _) (by simp) (by simp[h3]) (by simp[h3]) (by simp[h3])
 ·have h3i:¬(2000:Int)<(O.size:Int):=by omega
  simp[h3i,g10];refine CallGoal.same cs2 ?_;simp[h3];exact .keep (by simp[h3]) (.refl _) (by simp) (by simp[h3]) (by simp[h3]) (by simp[h3])
end Fo
end Go.Proofs.Dm
