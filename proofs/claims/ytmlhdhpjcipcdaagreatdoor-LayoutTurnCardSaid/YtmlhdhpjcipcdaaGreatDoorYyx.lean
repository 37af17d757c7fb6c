/- Part of the proof: what the walked functions compute. No condition. -/
import Derived.Test.YtmlhdhpjcipcdaaGreatDoorLSy
import Derived.Test.YtmlhdhpjcipcdaaGreatDoorYz
import Derived.Test.YtmlhdhpjcipcdaaGreatDoorFb
import Derived.Test.YtmlhdhpjcipcdaaGreatDoorFa
import Derived.Test.YtmlhdhpjcipcdaaGreatDoorHdx
import Derived.Test.YtmlhdhpjcipcdaaGreatDoorFhx
set_option linter.unusedSimpArgs false
set_option linter.unusedVariables false
set_option maxHeartbeats 8000000
set_option maxRecDepth 100000
namespace Go.Proofs.Dm
open Go Go.Proofs Go.Proofs.Tryz Go.Proofs.Dm.Sc Go.Proofs.Dm.Fo
namespace La
attribute [local simp] encT encC takes handsOn isTmp Op.operands Call.operands
theorem hs_ok {W0 nb} {s p:ByteArray} (hs:s.size≤9223372036854775807):DCalls ⟨Tryz.prog,W0,nb⟩ 77 [.p (.str s),.p (.str p)] [] (.p (.bool (Lib.hasSuffix s.data.toList p.data.toList))) []:=
 dcalls_foreign (vs := [.string s, .string p]) (v := .bool (Lib.hasSuffix s.data.toList p.data.toList)) ⟨_, Tryz.func77, by kernel_rfl, rfl⟩ (fun w h ρ O ws r => by
     simp only[RepDs,RepD,Rep]at r
     obtain⟨v1,r1,rfl,h1,v2,r2,rfl,h2,h3⟩:=r
     rw[h1,h2,h3]) (fun w h ρ O=>by simp only[RepD,Rep])
   (fun w _ _=>(Tryz.strings_HasSuffix s p w hs).mono (by rintro e w' ⟨rfl,rfl⟩;exact⟨rfl,Go.RowKit.Below.refl _ _⟩))
theorem ts_ok {W0 nb} {s:ByteArray} (hs:s.size≤9223372036854775807):DCalls ⟨Tryz.prog,W0,nb⟩ 78 [.p (.str s),.p (.str ⟨#[10]⟩)] [] (.p (.str (chop s))) []:=
 dcalls_foreign (vs := [.string s, .string ⟨#[10]⟩]) (v := .string (chop s)) ⟨_, Tryz.func78, by kernel_rfl, rfl⟩ (fun w h ρ O ws r => by
     simp only[RepDs,RepD,Rep]at r
     obtain⟨v1,r1,rfl,h1,v2,r2,rfl,h2,h3⟩:=r
     rw[h1,h2,h3]) (fun w h ρ O=>by simp only[RepD,Rep])
   (fun w _ _=>(Tryz.strings_TrimSuffix s ⟨#[10]⟩ w hs).mono (by rintro e w' ⟨rfl,rfl⟩;exact⟨rfl,Go.RowKit.Below.refl _ _⟩))
theorem tl_ok {W0 nb} {s:ByteArray}:DCalls ⟨Tryz.prog,W0,nb⟩ 79 [.p (.str s),.p (.str ⟨#[9]⟩)] [] (.p (.str (tl9 s))) []:=
 dcalls_foreign (vs := [.string s, .string ⟨#[9]⟩]) (v := .string (tl9 s)) ⟨_, Tryz.func79, by kernel_rfl, rfl⟩ (fun w h ρ O ws r => by
     simp only[RepDs,RepD,Rep]at r
     obtain⟨v1,r1,rfl,h1,v2,r2,rfl,h2,h3⟩:=r
     rw[h1,h2,h3]) (fun w h ρ O=>by simp only[RepD,Rep])
   (fun w _ _=>(Tryz.strings_TrimLeft_one s 9 (by decide) w).mono (by rintro e w' ⟨rfl,rfl⟩;exact⟨rfl,Go.RowKit.Below.refl _ _⟩))
theorem lis_ok {W0 nb t} {x:ByteArray}:DCalls ⟨Tryz.prog,W0,nb⟩ 163 [.agg ((encT t).map .p),.p (.str x)] [] (.p (.bool (isO t x.toList))) []:=by
 refine dcalls_end Tryz.func163 rfl (by kernel_rfl) 14 Tryz.ntmps163 #[.tmp 4] rfl (Nat.le_of_ble_eq_true rfl) ?_;simp;cases h:t.kind==4 with
 | true=>
  simp[isO,h];exact .keep (by simp) (.refl _) (by simp) (by simp) (by simp) (by simp)
 | false=>
  simp[isO,h];exact .keep (by simp) (.refl _) (by simp) (by simp) (by simp) (by simp)
def tbI (l:List Tok) (c:Bool) (m:Nat) (st:St):Prop:=∃i:Nat,m=l.length - i∧i≤l.length∧st.hp= []∧st.tm 0= .p (.sl 5 (l.map encT))∧st.tm 1= .p (.bool c)∧st.tm 6=i64 (opens (l.take i))∧st.tm 10= .p (.sl 5 (l.map encT))∧st.tm 11=i64 (l.length:Nat)∧st.tm 12=i64 (i:Nat)
def tbJ (l:List Tok) (c:Bool) (st:St):Prop:=st.hp= []∧st.tm 0= .p (.sl 5 (l.map encT))∧st.tm 1= .p (.bool c)∧st.tm 6=i64 (opens l)
theorem tabs_ok {W0 nb} {l:List Tok} {c:Bool} (hl:l.length < 1000000000):DCalls ⟨Tryz.prog,W0,nb⟩ 127 [.p (.sl 5 (l.map encT)),.p (.bool c)] [] (.tup [i64 (tabsS l c).1,.p (.bool (tabsS l c).2)]) []:=by
 refine dcalls_end Tryz.func127 rfl (by kernel_rfl) 54 Tryz.ntmps127 #[.tmp 4,.tmp 5] rfl (Nat.le_of_ble_eq_true rfl) ?_;simp;refine LoopGoal.cut (tbJ l c) ?_ ?_
 ·refine⟨tbI l c,l.length,.here ⟨0,by simp,by simp,by simp,by simp,by simp,by simp[opens],by simp,by simp,by simp⟩,?_⟩;rintro m ⟨tm,hp⟩ ⟨i,rfl,hi,h0,g0,g1,g6,g10,g11,g12⟩;simp only at h0 g0 g1 g6 g10 g11 g12;subst h0;simp[g11,g12];rcases Nat.lt_or_ge i l.length with hlt | hge
  rotate_left
  ·have hil:i=l.length:=by omega
   subst hil;rw[List.take_length]at g6;simp;exact⟨by simp,by simp[g0],by simp[g1],by simp[g6]⟩
  obtain⟨t,ht⟩:∃t,l[i]? =some t:=⟨_,List.getElem?_eq_getElem hlt⟩
  have hti:l[i]=t:=by
   have:=List.getElem?_eq_getElem hlt;rw[ht]at this;injection this with this
   exact this.symm
  have hop:=opens_le l i;have hos:=opens_take l i t ht;have hw:=w64_id (n:=(i:Int)+ 1) (by omega) (by omega);have hw2:=w64_id (n:=opens (l.take i)+ 1) (by omega) (by omega);have hw3:=w64_id (n:=opens (l.take i)- 1) (by omega) (by omega);simp only[w64]at hw hw2 hw3;unfold opT at hos;generalize opens (l.take i)=o at *;have c1:=lis_ok (W0:=W0) (nb:=nb) (t:=t) (x:=⟨#[123]⟩);have c2:=lis_ok (W0:=W0) (nb:=nb) (t:=t) (x:=⟨#[125]⟩);have e1:(⟨#[123]⟩:ByteArray).toList= [123]:=by rw[Lib.toList_data]
  have e2:(⟨#[125]⟩:ByteArray).toList= [125]:=by rw[Lib.toList_data]
  rw[e1]at c1;rw[e2]at c2;simp only[encT,List.map_cons,List.map_nil]at c1 c2;simp[hlt,g10,g11,g12,ht,hti];refine CallGoal.same c1 ?_;cases h1:isO t [123]with
  | true=>
   rw[h1,if_pos rfl]at hos;simp[h1,g6,g12,hw,hw2];exact .drop (l.length -(i + 1)) (by omega) 0 (by simp) (by simp) (by simp[refsDs,refsD]) ⟨i + 1,rfl,by omega,by simp[dropSt],by simp[dropSt,dropD,g0],by simp[dropSt,dropD,g1],by simp[dropSt,dropD,hos,hw2],by simp[dropSt,dropD,g10],by simp[dropSt,dropD,g11],by simp[dropSt,dropD,hw]⟩
  | false=>
   simp[h1];refine CallGoal.same c2 ?_;cases h2:isO t [125]with
   | true=>
    simp only[h1,h2,Bool.false_eq_true,if_false,if_true]at hos;simp[h2,g6,g12,hw,hw3];exact .drop (l.length -(i + 1)) (by omega) 0 (by simp) (by simp) (by simp[refsDs,refsD]) ⟨i + 1,rfl,by omega,by simp[dropSt],by simp[dropSt,dropD,g0],by simp[dropSt,dropD,g1],by simp[dropSt,dropD,hos,hw3],by simp[dropSt,dropD,g10],by simp[dropSt,dropD,g11],by simp[dropSt,dropD,hw]⟩
   | false=>
    simp only[h1,h2,Bool.false_eq_true,if_false]at hos;simp[h2,g12,hw];exact .drop (l.length -(i + 1)) (by omega) 0 (by simp) (by simp) (by simp[refsDs,refsD]) ⟨i + 1,rfl,by omega,by simp[dropSt],by simp[dropSt,dropD,g0],by simp[dropSt,dropD,g1],by simp[dropSt,dropD,hos,g6],by simp[dropSt,dropD,g10],by simp[dropSt,dropD,g11],by simp[dropSt,dropD,hw]⟩
 rintro⟨tm,hp⟩ ⟨h0,g0,g1,g6⟩;simp only at h0 g0 g1 g6;subst h0;have hop:=opens_le l l.length;rw[List.take_length]at hop;have hw3:=w64_id (n:=opens l - 1) (by omega) (by omega);simp only[w64]at hw3;simp[g1];unfold tabsS;generalize opens l=o at *;cases c with
 | true=>
  simp[g6,hw3];exact .keep (by simp[hw3]) (.refl _) (by simp) (by simp[hw3]) (by simp[hw3]) (by simp[hw3])
 | false=>
 simp[g0];cases hlast:l.getLast? with
 | none=>
  have:l= []:=List.getLast?_eq_none_iff.1 hlast;subst this;simp[g6];exact .keep (by simp) (.refl _) (by simp) (by simp) (by simp) (by simp)
 | some t=>
  have hne:l≠ []:=by rintro rfl;cases hlast
  have hlp:0 < l.length:=List.length_pos_iff.2 hne;have hl0:¬(l.length:Int)=0:=by omega
  have hlb:((l.length:Int)==0)=false:=beq_eq_false_iff_ne.2 hl0;have hlt:l[l.length - 1]? =some t:=by rw[←hlast,List.getLast?_eq_getElem?]
  have hw4:=w64_id (n:=((l.length - 1:Nat):Int)) (by omega) (by omega);simp only[w64]at hw4;have hc:(l.length:Int)- 1=((l.length - 1:Nat):Int):=by omega
  have c1:=lis_ok (W0:=W0) (nb:=nb) (t:=t) (x:=⟨#[123]⟩);have c2:=lis_ok (W0:=W0) (nb:=nb) (t:=t) (x:=⟨#[125]⟩);have e1:(⟨#[123]⟩:ByteArray).toList= [123]:=by rw[Lib.toList_data]
  have e2:(⟨#[125]⟩:ByteArray).toList= [125]:=by rw[Lib.toList_data]
  rw[e1]at c1;rw[e2]at c2;simp only[encT,List.map_cons,List.map_nil]at c1 c2;have o1:l.length - 1 < l.length:=by omega
  have hti:l[l.length - 1]=t:=by
   have:=List.getElem?_eq_getElem o1;rw[hlt]at this;injection this with this
   exact this.symm
  simp[hne,hl0,hlb,hw4,hc,hlt,hti,hlp,o1,g0,g6];cases h6:t.kind==6 with
  | true=>
   have h6':=eq_of_beq h6;simp[h6,h6'];exact .keep (by simp[h6']) (.refl _) (by simp) (by simp[h6']) (by simp[h6']) (by simp[h6'])
  | false=>
   have h6':¬t.kind=6:=by simpa using h6
   have hb6:(t.kind !=6)=true:=by simp[bne,h6]
   simp[hb6];refine CallGoal.same c1 ?_;cases h1:isO t [123]with
   | true=>
    simp[h1];exact .keep (by simp[h1,hb6]) (.refl _) (by simp) (by simp[h1,hb6]) (by simp[h1,hb6]) (by simp[h1,hb6])
   | false=>
    simp[h1];refine CallGoal.same c2 ?_;simp;exact .keep (by simp[h1,h6',hb6]) (.refl _) (by simp) (by simp[h1,h6',hb6]) (by simp[h1,h6',hb6]) (by simp[h1,h6',hb6])
theorem may_ok {W0 nb} {n:Int} {l:List Tok} {c:Bool} (hl:l.length < 1000000000):DCalls ⟨Tryz.prog,W0,nb⟩ 82 [i64 n,.p (.sl 5 (l.map encT)),.p (.bool c)] [] (.p (.bool (mayS n l c))) []:=by
 have c1:=tabs_ok (W0:=W0) (nb:=nb) (c:=c) hl;have hb: -2000000000≤(tabsS l c).1∧(tabsS l c).1≤2000000000:=by
  have hop:=opens_le l l.length;rw[List.take_length]at hop;unfold tabsS;split
  ·dsimp only;omega
  ·split <;> dsimp only <;> omega
 unfold mayS;generalize (tabsS l c).1=k at *;generalize (tabsS l c).2=b at *;have hw:=w64_id (n:=k + 1) (by omega) (by omega);simp only[w64]at hw;refine dcalls_end Tryz.func82 rfl (by kernel_rfl) 27 Tryz.ntmps82 #[.tmp 6] rfl (Nat.le_of_ble_eq_true rfl) ?_;simp;refine CallGoal.same c1 ?_;cases h1:n==k with
 | true=>
  simp[h1];exact .keep (by simp[h1]) (.refl _) (by simp) (by simp[h1]) (by simp[h1]) (by simp[h1])
 | false=>
  cases b with
  | true=>
   simp[h1,hw];exact .keep (by simp[h1,hw]) (.refl _) (by simp) (by simp[h1,hw]) (by simp[h1,hw]) (by simp[h1,hw])
  | false=>
   simp[h1];exact .keep (by simp[h1]) (.refl _) (by simp) (by simp[h1]) (by simp[h1]) (by simp[h1])
end La
end Go.Proofs.Dm
set_option maxHeartbeats 16000000
set_option maxRecDepth 100000
namespace Go.Proofs.Dm
open Go Go.Proofs Go.Proofs.Tryz Go.Proofs.Dm.Sc Go.Proofs.Dm.Fo
namespace La
attribute [local simp] encT encC takes handsOn isTmp Op.operands Call.operands
def faultS (s:ByteArray):Int:=
 if decide (0≤(scanP s).2.2)|| !Lib.hasSuffix s.data.toList [10]then 0 else goF (linesP (chop s)) (scanP s).1 (linesP (chop s)) 0 0 0
theorem lt_toList (s:ByteArray):s.toList=s.data.toList:=Lib.toList_data s
def faI (L:List ByteArray) (l:List Tok) (R:Int) (m:Nat) (st:St):Prop:=∃(i n:Nat) (a:Int),m=L.length - i∧i≤L.length∧n≤l.length∧0≤a∧a≤i * 300001∧goF L l (L.drop i) i a n=R∧
 st.hp= []∧st.tm 3= .p (.sl 5 (l.map encT))∧st.tm 6= .p (.sl 1 (rowsS L))∧st.tm 7=i64 a∧st.tm 8=i64 (n:Nat)∧st.tm 28= .p (.sl 1 (rowsS L))∧st.tm 29=i64 (L.length:Nat)∧st.tm 30=i64 (i:Nat)
def faN (L:List ByteArray) (l:List Tok) (i:Nat) (a:Int) (ln:ByteArray) (nx:Nat) (m:Nat) (st:St):Prop:=∃n:Nat,m=l.length - n∧n≤l.length∧skipD a (l.drop n) n=nx∧
 st.hp= []∧st.tm 3= .p (.sl 5 (l.map encT))∧st.tm 6= .p (.sl 1 (rowsS L))∧st.tm 7=i64 a∧st.tm 8=i64 (n:Nat)∧st.tm 9=i64 (i:Nat)∧st.tm 10= .p (.str ln)∧st.tm 11= .p (.str (tl9 ln))∧st.tm 28= .p (.sl 1 (rowsS L))∧st.tm 29=i64 (L.length:Nat)∧st.tm 30=i64 (i:Nat)
def faM (L:List ByteArray) (l:List Tok) (i:Nat) (a:Int) (ln:ByteArray) (nx:Nat) (st:St):Prop:=nx≤l.length∧
 st.hp= []∧st.tm 3= .p (.sl 5 (l.map encT))∧st.tm 6= .p (.sl 1 (rowsS L))∧st.tm 7=i64 a∧st.tm 8=i64 (nx:Nat)∧st.tm 9=i64 (i:Nat)∧st.tm 10= .p (.str ln)∧st.tm 11= .p (.str (tl9 ln))∧st.tm 28= .p (.sl 1 (rowsS L))∧st.tm 29=i64 (L.length:Nat)∧st.tm 30=i64 (i:Nat)
theorem tl9_size (s:ByteArray):(tl9 s).size≤s.size:=by
 show((s.data.toList.dropWhile (·==9)).toArray).size≤s.data.size;have:=(List.dropWhile_sublist (l:=s.data.toList) (·==9)).length_le;simpa using this
theorem chop_size (s:ByteArray):(chop s).size≤s.size:=by
 show((Lib.trimSuffix s.data.toList [10]).toArray).size≤s.data.size;unfold Lib.trimSuffix;split
 ·simp
 ·simp
theorem fault_ok {W0 nb} {s:ByteArray} (h2:2≤nb) (hT:Lib.Utf8Tabs 0 1 W0) (hs:s.size < 100000) (hl:(scanP s).1.length≤300000) (hn:(linesP (chop s)).length≤300000) (hz:∀x∈linesP (chop s),x.size≤300000):
  DCalls ⟨Tryz.prog,W0,nb⟩ 41 [.p (.str s)] [] (i64 (faultS s)) []:=by
 have c1:=scan_ok (W0:=W0) (nb:=nb) h2 hT (s:=s) (by omega);have c2:=hs_ok (W0:=W0) (nb:=nb) (s:=s) (p:=⟨#[10]⟩) (by omega);have c3:=ts_ok (W0:=W0) (nb:=nb) (s:=s) (by omega);have hcs:=chop_size s;have c4:=split_ok (W0:=W0) (nb:=nb) (s:=chop s) (by omega);unfold faultS;generalize linesP (chop s)=L at *;generalize chop s=sc at *;obtain⟨S,hS⟩:∃S,scanP s=S:=⟨_,rfl⟩
 rw[hS]at c1 hl⊢;obtain⟨l,cs,f⟩:=S;simp only[toks,coms]at c1 hl⊢;have ed:(⟨#[10]⟩:ByteArray).data.toList= [10]:=rfl;rw[ed]at c2;generalize Lib.hasSuffix s.data.toList [10]=b at *;refine dcalls_end Tryz.func41 rfl (by kernel_rfl) 104 Tryz.ntmps41 #[.tmp 2] rfl (Nat.le_of_ble_eq_true rfl) ?_;simp;refine CallGoal.same c1 ?_;cases hf:decide (0≤f)with
 | true=>
  have hf':=of_decide_eq_true hf;simp[hf'];exact .keep (by simp) (.refl _) (by simp) (by simp) (by simp) (by simp)
 | false=>
 have hf':=of_decide_eq_false hf;simp[hf'];refine CallGoal.same c2 ?_;cases b with
 | false=>
  simp;exact .keep (by simp) (.refl _) (by simp) (by simp) (by simp) (by simp)
 | true=>
 simp;refine CallGoal.same c3 ?_;simp;refine CallGoal.same c4 ?_;simp;generalize hR:goF L l L 0 0 0=R;refine LoopGoal.cut (fun st=>st.hp= []∧R= -1) ?_ ?_
 ·refine⟨faI L l R,L.length,.here ⟨0,0,0,by simp,by simp,by simp,by simp,by simp,by simpa using hR,by simp,by simp,by simp,by simp,by simp,by simp,by simp[rowsS],by simp⟩,?_⟩;rintro m ⟨tm,hp⟩ ⟨i,n,a,rfl,hi,hnl,ha0,ha,hg,h0,g3,g6,g7,g8,g28,g29,g30⟩;simp only at h0 g3 g6 g7 g8 g28 g29 g30;subst h0;clear hR;simp[g29,g30];rcases Nat.lt_or_ge i L.length with hlt | hge
  rotate_left
  ·have hil:i=L.length:=by omega
   subst hil;simp[goF]at hg;simp;exact hg.symm
  obtain⟨ln,hln⟩:∃x,L[i]? =some x:=⟨_,List.getElem?_eq_getElem hlt⟩
  have hti:L[i]=ln:=by
   have:=List.getElem?_eq_getElem hlt;rw[hln]at this;injection this with this
   exact this.symm
  have hzl:ln.size≤300000:=hz ln (List.mem_of_getElem? hln);have hd:L.drop i=ln::L.drop (i + 1):=by rw[List.drop_eq_getElem_cons hlt,hti]
  rw[hd]at hg;unfold goF at hg;obtain⟨nx,hnx⟩:∃nx,skipD a (l.drop n) n=nx:=⟨_,rfl⟩
  rw[hnx]at hg;have d1:=tl_ok (W0:=W0) (nb:=nb) (s:=ln);simp[hlt,g28,g29,g30,hln,hti,rowsS];refine CallGoal.same d1 ?_;simp[g8,g3];refine LoopGoal.cut (faM L l i a ln nx) ?_ ?_
  ·refine⟨faN L l i a ln nx,l.length - n,.here ⟨n,rfl,hnl,hnx,by simp,by simp[g3],by simp[g6],by simp[g7],by simp[g8],by simp[g30],by simp,by simp,by simp[g28,rowsS],by simp[g29],by simp[g30]⟩,?_⟩;clear g3 g6 g7 g8 g28 g29 g30 hnx hnl;rintro m ⟨tm,hp⟩ ⟨n,rfl,hnl,hnx,h0,g3,g6,g7,g8,g9,g10,g11,g28,g29,g30⟩;simp only at h0 g3 g6 g7 g8 g9 g10 g11 g28 g29 g30;subst h0;rcases Nat.lt_or_ge n l.length with hlt2 | hge2
   ·obtain⟨t,ht⟩:∃t,l[n]? =some t:=⟨_,List.getElem?_eq_getElem hlt2⟩
    have hti2:l[n]=t:=by
     have:=List.getElem?_eq_getElem hlt2;rw[ht]at this;injection this with this
     exact this.symm
    have hd2:l.drop n=t::l.drop (n + 1):=by rw[List.drop_eq_getElem_cons hlt2,hti2]
    rw[hd2]at hnx;unfold skipD at hnx;have hw:=w64_id (n:=(n:Int)+ 1) (by omega) (by omega);simp only[w64]at hw
    by_cases hat:t.at_ < a
    ·rw[if_pos hat]at hnx;simp[g3,g7,g8,hlt2,ht,hti2,hat,hw];exact .same (l.length -(n + 1)) (by omega) ⟨n + 1,rfl,by omega,hnx,by simp,by simp[g3],by simp[g6],by simp[g7],by simp[hw],by simp[g9],by simp[g10],by simp[g11],by simp[g28],by simp[g29],by simp[g30]⟩
    ·rw[if_neg hat]at hnx;subst hnx;simp[g3,g7,g8,hlt2,ht,hti2,hat];exact⟨by omega,by simp,by simp[g3],by simp[g6],by simp[g7],by simp[g8],by simp[g9],by simp[g10],by simp[g11],by simp[g28],by simp[g29],by simp[g30]⟩
   ·have:n=l.length:=by omega
    subst this;simp[skipD]at hnx;subst hnx;simp[g3,g8];exact⟨by omega,by simp,by simp[g3],by simp[g6],by simp[g7],by simp[g8],by simp[g9],by simp[g10],by simp[g11],by simp[g28],by simp[g29],by simp[g30]⟩
  clear g3 g6 g7 g8 g28 g29 g30 hnx hnl;rintro⟨tm,hp⟩ ⟨hnl,h0,g3,g6,g7,g8,g9,g10,g11,g28,g29,g30⟩;simp only at h0 g3 g6 g7 g8 g9 g10 g11 g28 g29 g30;subst h0;have hwi:=w64_id (n:=(i:Int)+ 1) (by omega) (by omega);have hwa:=w64_id (n:=(ln.size:Int)+ 1) (by omega) (by omega);have hwb:=w64_id (n:=a +((ln.size:Int)+ 1)) (by omega) (by omega);have hwc:=w64_id (n:=(i:Int)- 1) (by omega) (by omega);have hwd:=w64_id (n:=(L.length:Int)- 1) (by omega) (by omega);have htl:=tl9_size ln;have hwe:=w64_id (n:=(ln.size:Int)-(tl9 ln).size) (by omega) (by omega);simp only[w64]at hwi hwa hwb hwc hwd hwe;have d2:=trimR_ok (W0:=W0) (nb:=nb) (s:=ln) (by omega);simp[g10];refine CallGoal.same d2 ?_;unfold badL at hg;cases hx:(trimR ln).toList==ln.toList with
  | false=>
   simp[hx]at hg;simp[hx,g9,g10,hwi];exact .keep (by simp[hg]) (.refl _) (by simp) (by simp[hg]) (by simp[hg]) (by simp[hg])
  | true=>
  simp only[hx,Bool.not_true,Bool.false_eq_true,if_false]at hg;simp[hx,g10];cases hem:emptyB ln with
  | true=>
   have hem2:ln.toList.isEmpty=true:=hem;simp only[hem,if_true]at hg
   by_cases hi0:i=0
   ·subst hi0;simp at hg;subst hg;have hw1:IntKind.i64.wrap 1=1:=rfl;simp[hem2,g9,g10,hw1];exact .keep (by simp[hw1]) (.refl _) (by simp) (by simp[hw1]) (by simp[hw1]) (by simp[hw1])
   ·obtain⟨j,rfl⟩:∃j,i=j + 1:=⟨i - 1,by omega⟩
    have hji:((j + 1:Nat):Int)- 1=(j:Int):=by omega
    have hj0:¬((j:Int)+ 1=0):=by omega
    obtain⟨pv,hpv⟩:∃x,L[j]? =some x:=⟨_,List.getElem?_eq_getElem (by omega)⟩
    have hpj:L[j]'(by omega)=pv:=by
     have:=List.getElem?_eq_getElem (l:=L) (i:=j) (by omega);rw[hpv]at this;injection this with this
     exact this.symm
    have hwj:=w64_id (n:=(j:Int)) (by omega) (by omega);have hwi:=w64_id (n:=(j:Int)+ 1 + 1) (by omega) (by omega);simp only[w64]at hwj hwi;have hjl:j < L.length:=by omega
    have hpe:emptyB ((L[j + 1 - 1]?).getD ⟨#[]⟩)=emptyB pv:=by rw[Nat.add_sub_cancel,hpv];rfl
    have hj1:(j + 1==0)=false:=rfl;rw[hpe]at hg;simp only[hj1,Bool.false_or]at hg;have hjb:((j:Int)+ 1==0)=false:=beq_eq_false_iff_ne.2 hj0;cases hpb:emptyB pv with
    | true=>
     have hpb2:pv.toList.isEmpty=true:=hpb;simp[hpb]at hg;simp[hem2,g6,g9,g10,hj0,hjb,hjl,hpv,hpj,hpb2,hwj,rowsS,hwi];exact .keep (by simp[hg]) (.refl _) (by simp) (by simp[hg]) (by simp[hg]) (by simp[hg])
    | false=>
     have hpb2:pv.toList.isEmpty=false:=hpb;cases hql:(j + 1 + 1==L.length)with
     | true=>
      have hq':j + 1 + 1=L.length:=eq_of_beq hql;have hq:((j:Int)+ 1==(L.length:Int)- 1)=true:=beq_iff_eq.2 (by omega);simp[hpb,hql]at hg;simp[hem2,g6,g9,g10,hj0,hjb,hjl,hpv,hpj,hpb2,hwj,rowsS,hwi,hwd,hq];exact .keep (by simp[hg]) (.refl _) (by simp) (by simp[hg]) (by simp[hg]) (by simp[hg])
     | false=>
      have hq':¬j + 1 + 1=L.length:=by simpa using hql
      have hq:((j:Int)+ 1==(L.length:Int)- 1)=false:=beq_eq_false_iff_ne.2 (by omega);simp only[hpb,hql,Bool.or_self,Bool.false_eq_true,if_false]at hg;simp[hem2,g6,g7,g9,g10,g30,hj0,hjb,hjl,hpv,hpj,hpb2,hwj,rowsS,hwi,hwd,hq,hwa,hwb];exact .same (L.length -(j + 1 + 1)) (by omega) ⟨j + 1 + 1,nx,a +((ln.size:Int)+ 1),rfl,by omega,hnl,by omega,by omega,hg,by simp,by simp[g3],by simp[g6],by simp[hwb],by simp[g8],by simp[g28],by simp[g29],by simp[hwi]⟩
  | false=>
   have hem2:ln.toList.isEmpty=false:=hem;simp only[hem,Bool.false_eq_true,if_false]at hg;have d3:=hp_ok (W0:=W0) (nb:=nb) (s:=tl9 ln) (p:=⟨#[32]⟩);have d4:=hp_ok (W0:=W0) (nb:=nb) (s:=tl9 ln) (p:=⟨#[125]⟩);have q3:(⟨#[32]⟩:ByteArray).data.toList= [32]:=rfl;have q4:(⟨#[125]⟩:ByteArray).data.toList= [125]:=rfl;rw[q3]at d3;rw[q4]at d4;have d5:=may_ok (W0:=W0) (nb:=nb) (n:=(ln.size:Int)-(tl9 ln).size) (l:=l.take nx) (c:=Lib.hasPrefix (tl9 ln).data.toList [125]) (by simp;omega);simp only[List.map_take]at d5;simp[hem2,g11];refine CallGoal.same d3 ?_;cases hsp:Lib.hasPrefix (tl9 ln).data.toList [32]with
   | true=>
    simp[hsp]at hg;simp[hsp,g9,hwi];exact .keep (by simp[hg]) (.refl _) (by simp) (by simp[hg]) (by simp[hg]) (by simp[hg])
   | false=>
   simp only[hsp,Bool.false_or]at hg;generalize Lib.hasPrefix (tl9 ln).data.toList [125]=pb at *;simp[hsp];refine drawWp.intro [] [9] mixed (by kernel_rfl) (by kernel_rfl) (by kernel_rfl) ?_;simp[g3,g8,g10,g11,hwe,hnl];refine CallGoal.same d4 ?_;simp[g3,g8,g10,g11,hwe,hnl];refine CallGoal.same d5 ?_;simp;refine⟨by simp[pairsOK,pairsOK2,compatAdd,compatCA,compatSt,Dm.stoB,Dm.callB,Dm.adB,compatDyn,lowOK,allLt,labD,skips,guardD,looksG,guardSlot,looksD,goneD,eatsT,eats,goneL,rdD,wrD,simpleD,anyOwn,disj,ldD,ldOK,mvD,g3,g8,g10,g11],by simp[pairsOK,pairsOK2,compatAdd,compatCA,compatSt,Dm.stoB,Dm.callB,Dm.adB,compatDyn,lowOK,allLt,labD,skips,guardD,looksG,guardSlot,looksD,goneD,eatsT,eats,goneL,rdD,wrD,simpleD,anyOwn,disj,ldD,ldOK,mvD,g3,g8,g10,g11],?_⟩;cases hmy:mayS ((ln.size:Int)-(tl9 ln).size) (l.take nx) pb with
   | false=>
    simp[hmy]at hg;simp[hmy,g9,hwi];exact .keep (by simp[hg]) (.refl _) (by simp) (by simp[hg]) (by simp[hg]) (by simp[hg])
   | true=>
    simp only[hmy,Bool.not_true,Bool.false_eq_true,if_false]at hg;simp[hmy,g7,g10,g30,hwi,hwa,hwb];exact .same (L.length -(i + 1)) (by omega) ⟨i + 1,nx,a +((ln.size:Int)+ 1),rfl,by omega,hnl,by omega,by omega,hg,by simp,by simp[g3],by simp[g6],by simp[hwb],by simp[g8],by simp[g28],by simp[g29],by simp[hwi]⟩
 rintro⟨tm,hp⟩ ⟨h0,rfl⟩;simp only at h0;subst h0;simp;exact .keep (by simp) (.refl _) (by simp) (by simp) (by simp) (by simp)
end La
end Go.Proofs.Dm
set_option maxHeartbeats 16000000
set_option maxRecDepth 100000
namespace Go.Proofs.Dm
open Go Go.Proofs Go.Proofs.Tryz Go.Proofs.Dm.Sc Go.Proofs.Dm.Fo
namespace La
attribute [local simp] encT takes handsOn isTmp Op.operands Call.operands
def faultE (s:ByteArray):Option Int:=
 if decide ((scanP s).1.length≤300000)&&decide ((linesP (chop s)).length≤300000)&&(linesP (chop s)).all (fun x=>decide (x.size≤300000))then some (faultS s)else none
theorem fault_eval {W0 nb} {s:ByteArray} {r:Int} (h2:2≤nb) (hT:Lib.Utf8Tabs 0 1 W0) (hs:s.size < 100000) (h:faultE s=some r):DCalls ⟨Tryz.prog,W0,nb⟩ 41 [.p (.str s)] [] (i64 r) []:=by
 unfold faultE at h;split at h
 ·rename_i hz;simp only[Bool.and_eq_true,List.all_eq_true,decide_eq_true_eq]at hz;injection h with h
  have:=fault_ok (W0:=W0) (nb:=nb) h2 hT hs hz.1.1 hz.1.2 hz.2
  rwa [h]at this
 ·cases h
theorem right_eval {W0 nb} {s:ByteArray} {r:Int} (h2:2≤nb) (hT:Lib.Utf8Tabs 0 1 W0) (hs:s.size < 100000) (h:faultE s=some r):DCalls ⟨Tryz.prog,W0,nb⟩ 42 [.p (.str s)] [] (.p (.bool (r== -1))) []:=by
 have c:=fault_eval (W0:=W0) (nb:=nb) h2 hT hs h;refine dcalls_end Tryz.func42 rfl (by kernel_rfl) 6 Tryz.ntmps42 #[.tmp 2] rfl (Nat.le_of_ble_eq_true rfl) ?_;simp;refine CallGoal.same c ?_;simp;exact .keep (by simp) (.refl _) (by simp) (by simp) (by simp) (by simp)
theorem u0:faultE (⟨#[97,32,123,10,9,98,10,125,10]⟩:ByteArray)=some (-1):=by kernel_rfl
theorem u1:faultE (⟨#[97,32,123,10,98,10,125,10]⟩:ByteArray)=some (2):=by kernel_rfl
theorem u2:faultE (⟨#[97,32,10]⟩:ByteArray)=some (1):=by kernel_rfl
theorem u3:faultE (⟨#[97]⟩:ByteArray)=some (0):=by kernel_rfl
theorem u4:faultE (⟨#[97,10,10,10,98,10]⟩:ByteArray)=some (3):=by kernel_rfl
theorem u5:faultE (⟨#[97,32,43,10,9,98,10]⟩:ByteArray)=some (-1):=by kernel_rfl
theorem begun18_ok {W0 nb} (h2:2≤nb) (hT:Lib.Utf8Tabs 0 1 W0):DCalls ⟨Tryz.prog,W0,nb⟩ 39 [] [] (.p (.bool true)) []:=by
 have c0:DCalls ⟨Tryz.prog,W0,nb⟩ 75 [] [] (.p (.bool true)) []:=by
  refine dcalls_end Tryz.func75 rfl (by kernel_rfl) 2 Tryz.ntmps75 #[.tmp 0] rfl (Nat.le_of_ble_eq_true rfl) ?_;simp;refine CallGoal.same (begun17_ok h2 hT) ?_;simp;exact .keep (by simp) (.refl _) (by simp) (by simp) (by simp) (by simp)
 have k0:=right_eval (W0:=W0) (nb:=nb) h2 hT (by decide) u0;have k1:=fault_eval (W0:=W0) (nb:=nb) h2 hT (by decide) u1;have k2:=fault_eval (W0:=W0) (nb:=nb) h2 hT (by decide) u2;have k3:=fault_eval (W0:=W0) (nb:=nb) h2 hT (by decide) u3;have k4:=fault_eval (W0:=W0) (nb:=nb) h2 hT (by decide) u4;have k5:=right_eval (W0:=W0) (nb:=nb) h2 hT (by decide) u5;refine dcalls_end Tryz.func39 rfl (by kernel_rfl) 24 Tryz.ntmps39 #[.tmp 0] rfl (Nat.le_of_ble_eq_true rfl) ?_;simp;refine CallGoal.same c0 ?_;simp;refine CallGoal.same k0 ?_;simp;refine CallGoal.same k1 ?_;simp;refine CallGoal.same k2 ?_;simp;refine CallGoal.same k3 ?_;simp;refine CallGoal.same k4 ?_;simp;refine CallGoal.same k5 ?_;simp;exact .keep (by simp) (.refl _) (by simp) (by simp) (by simp) (by simp)
end La
end Go.Proofs.Dm
