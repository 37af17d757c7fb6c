/- Part of the proof: what the walked functions compute. No condition. -/
import Derived.Test.YtmlhdhpjcipcdaaGreatDoorUy
import Derived.KernelRfl
set_option linter.unusedSimpArgs false
set_option linter.unusedVariables false
set_option maxHeartbeats 4000000
set_option maxRecDepth 100000
namespace Go.Proofs
open Go Go.RowKit
namespace Dm.Ju
open Dm Dm.Sc Go.Proofs.Tryz
def wantT (toks:List Bnd) (name:ByteArray) (i k:Nat) (t:Tok):ByteArray:=if toks.any (isB i k)then name else t.text
def renRow (toks:List Bnd) (name:ByteArray) (i:Nat):List Tok→List Tok→Nat→Bool
 | t::x,u::y,k=>(u.text.toList==(wantT toks name i k t).toList)&&renRow toks name i x y (k + 1)
 | _,_,_=>true
def headF (a b:Fil):Bool:=a.name.toList==b.name.toList&&decide ((scanP a.text).2.2 < 0)&&decide ((scanP b.text).2.2 < 0)&&((scanP a.text).1.length==(scanP b.text).1.length)
def renF (toks:List Bnd) (name:ByteArray):List Fil→List Fil→Nat→Bool
 | a::al,b::bl,i=>headF a b&&renRow toks name i (scanP a.text).1 (scanP b.text).1 0&&renF toks name al bl (i + 1)
 | _,_,_=>true
def renamedP (a b:List Fil) (toks:List Bnd) (name:ByteArray):Bool:=(a.length==b.length)&&renF toks name a b 0
attribute [local simp] takes handsOn isTmp Op.operands Call.operands
def renO (a b:List Fil) (toks:List Bnd) (name:ByteArray) (R:Bool) (m:Nat) (st:St):Prop:=∃i:Nat,renF toks name (a.drop i) (b.drop i) i=R∧m=a.length - i∧i≤a.length∧st.hp= []∧st.tm 0= .p (.sl 2 (a.map encF))∧st.tm 1= .p (.sl 2 (b.map encF))∧st.tm 2= .p (.sl 4 (toks.map encB))∧st.tm 3= .p (.str name)∧st.tm 24=i64 a.length∧st.tm 25=i64 (i:Nat)
def renI (a b:List Fil) (toks:List Bnd) (name:ByteArray) (x y:List Tok) (i:Nat) (Q:Bool) (m:Nat) (st:St):Prop:=∃k:Nat,renRow toks name i (x.drop k) (y.drop k) k=Q∧m=x.length - k∧k≤x.length∧st.hp= [[i64 (i:Nat)]]∧st.tm 0= .p (.sl 2 (a.map encF))∧st.tm 1= .p (.sl 2 (b.map encF))∧st.tm 2= .p (.sl 4 (toks.map encB))∧st.tm 3= .p (.str name)∧st.tm 24=i64 a.length∧st.tm 25=i64 (i:Nat)∧st.tm 9= .ref 0 0∧st.tm 10=tk x∧st.tm 13=tk y∧st.tm 75=i64 x.length∧st.tm 76=i64 (k:Nat)
def renJ (a b:List Fil) (toks:List Bnd) (name:ByteArray) (i:Nat) (Q:Bool) (st:St):Prop:=Q=true∧st.hp= [[i64 (i:Nat)]]∧st.tm 0= .p (.sl 2 (a.map encF))∧st.tm 1= .p (.sl 2 (b.map encF))∧st.tm 2= .p (.sl 4 (toks.map encB))∧st.tm 3= .p (.str name)∧st.tm 24=i64 a.length∧st.tm 25=i64 (i:Nat)
theorem renamed_ok {W0 nb} {a b:List Fil} {toks:List Bnd} {name:ByteArray} (h2:2≤nb) (hT:Lib.Utf8Tabs 0 1 W0) (ha:∀f∈a,f.text.size < 10000000) (hb:∀f∈b,f.text.size < 10000000) (hal:a.length < 100000000) (ht:toks.length < 100000000):
  DCalls ⟨Tryz.prog,W0,nb⟩ 68 [.p (.sl 2 (a.map encF)),.p (.sl 2 (b.map encF)),.p (.sl 4 (toks.map encB)),.p (.str name)] [] (.p (.bool (renamedP a b toks name))) []:=by
 obtain⟨R,hR⟩:∃R,renF toks name a b 0=R:=⟨_,rfl⟩
 simp only[renamedP];rw[hR];refine dcalls_end Tryz.func68 rfl (by kernel_rfl) 97 Tryz.ntmps68 #[.tmp 8] rfl (Nat.le_of_ble_eq_true rfl) ?_;simp
 by_cases hl:a.length=b.length
 ·simp only[hl];simp;simp only[←hl];refine⟨renO a b toks name R,a.length,.here ⟨0,hR,by simp,by simp,by simp,by simp,by simp,by simp,by simp,by simp,by simp⟩,?_⟩;rintro m ⟨tm,hp⟩ ⟨i,h,rfl,hi,h0,g0,g1,g2,g3,g24,g25⟩;simp only at h0 g0 g1 g2 g3 g24 g25;subst h0;simp[g24,g25];rcases Nat.lt_or_ge i a.length with hlt | hge
  ·have hlt2:i < b.length:=by omega
   have hd1:a.drop i=a[i]::a.drop (i + 1):=List.drop_eq_getElem_cons hlt;have hd2:b.drop i=b[i]::b.drop (i + 1):=List.drop_eq_getElem_cons hlt2;rw[hd1,hd2]at h;simp only[renF]at h;have hw:=w64_id (n:=(i:Int)+ 1) (by omega) (by omega);simp only[w64]at hw;have hsa:=ha a[i] (List.getElem_mem hlt);have hsb:=hb b[i] (List.getElem_mem hlt2);have ca:=scan_ok (W0:=W0) (nb:=nb) (s:=a[i].text) h2 hT hsa;have cb:=scan_ok (W0:=W0) (nb:=nb) (s:=b[i].text) h2 hT hsb;have la:=scanP_len a[i].text;simp only[headF]at h;obtain⟨A,hA⟩:∃A,scanP a[i].text=A:=⟨_,rfl⟩
   obtain⟨B,hB⟩:∃B,scanP b[i].text=B:=⟨_,rfl⟩
   rw[hA]at h ca la;rw[hB]at h cb;obtain⟨x,xc,f⟩:=A;obtain⟨y,yc,g⟩:=B;simp only[Sc.toks,coms]at h ca cb la;simp[hlt,g0,g1,g25,encF];refine CallGoal.same ca ?_;simp[hlt,hlt2,g0,g1,g25,encF];refine CallGoal.same cb ?_;simp[hlt,hlt2,g0,g1,g25,encF];refine drawWp.intro [] [1,6,9] mixed (by kernel_rfl) (by kernel_rfl) (by kernel_rfl) ?_;simp[hlt,hlt2,g0,g1,g25,encF];have hn1:(!a[i].name.toList==b[i].name.toList)= !(a[i].name.toList==b[i].name.toList):=rfl;cases q1:a[i].name.toList==b[i].name.toList with
   | false=>
    simp only[q1,Bool.false_and]at h;subst h;simp[hlt,hlt2,g0,g1,g25,encF,q1];refine⟨by simp[pairsOK,pairsOK2,compatAdd,compatCA,compatSt,Dm.stoB,Dm.callB,Dm.adB,compatDyn,lowOK,allLt,labD,skips,guardD,looksG,guardSlot,looksD,goneD,eatsT,eats,goneL,rdD,wrD,simpleD,anyOwn,disj,ldD,ldOK,mvD,q1],by simp[pairsOK,pairsOK2,compatAdd,compatCA,compatSt,Dm.stoB,Dm.callB,Dm.adB,compatDyn,lowOK,allLt,labD,skips,guardD,looksG,guardSlot,looksD,goneD,eatsT,eats,goneL,rdD,wrD,simpleD,anyOwn,disj,ldD,ldOK,mvD,q1],?_⟩;simp;exact .keep (by simp) (.refl _) (by simp) (by simp) (by simp) (by simp)
   | true=>
   by_cases q2:f < 0
   rotate_left
   ·simp only[q1,q2,decide_false,Bool.false_and,Bool.and_false]at h;subst h;simp[hlt,hlt2,g0,g1,g25,encF,q1,q2,show 0≤f by omega];refine⟨by simp[pairsOK,pairsOK2,compatAdd,compatCA,compatSt,Dm.stoB,Dm.callB,Dm.adB,compatDyn,lowOK,allLt,labD,skips,guardD,looksG,guardSlot,looksD,goneD,eatsT,eats,goneL,rdD,wrD,simpleD,anyOwn,disj,ldD,ldOK,mvD,q1,q2,show 0≤f by omega],by simp[pairsOK,pairsOK2,compatAdd,compatCA,compatSt,Dm.stoB,Dm.callB,Dm.adB,compatDyn,lowOK,allLt,labD,skips,guardD,looksG,guardSlot,looksD,goneD,eatsT,eats,goneL,rdD,wrD,simpleD,anyOwn,disj,ldD,ldOK,mvD,q1,q2,show 0≤f by omega],?_⟩;simp;exact .keep (by simp) (.refl _) (by simp) (by simp) (by simp) (by simp)
   by_cases q3:g < 0
   rotate_left
   ·simp only[q1,q2,q3,decide_false,Bool.false_and,Bool.and_false]at h;subst h;simp[hlt,hlt2,g0,g1,g25,encF,q1,q2,show ¬0≤f by omega,show 0≤g by omega];refine⟨by simp[pairsOK,pairsOK2,compatAdd,compatCA,compatSt,Dm.stoB,Dm.callB,Dm.adB,compatDyn,lowOK,allLt,labD,skips,guardD,looksG,guardSlot,looksD,goneD,eatsT,eats,goneL,rdD,wrD,simpleD,anyOwn,disj,ldD,ldOK,mvD,q1,q2,show ¬0≤f by omega,show 0≤g by omega],by simp[pairsOK,pairsOK2,compatAdd,compatCA,compatSt,Dm.stoB,Dm.callB,Dm.adB,compatDyn,lowOK,allLt,labD,skips,guardD,looksG,guardSlot,looksD,goneD,eatsT,eats,goneL,rdD,wrD,simpleD,anyOwn,disj,ldD,ldOK,mvD,q1,q2,show ¬0≤f by omega,show 0≤g by omega],?_⟩;simp;exact .keep (by simp) (.refl _) (by simp) (by simp) (by simp) (by simp)
   by_cases q4:x.length=y.length
   rotate_left
   ·have q4':((x.length:Int) !=y.length)=true:=by simp;omega
    have q4'':(x.length==y.length)=false:=by simpa using q4
    simp only[q4'',Bool.false_and,Bool.and_false]at h;subst h;simp[hlt,hlt2,g0,g1,g25,encF,q1,q2,q3,show ¬0≤f by omega,show ¬0≤g by omega,q4'];refine⟨by simp[pairsOK,pairsOK2,compatAdd,compatCA,compatSt,Dm.stoB,Dm.callB,Dm.adB,compatDyn,lowOK,allLt,labD,skips,guardD,looksG,guardSlot,looksD,goneD,eatsT,eats,goneL,rdD,wrD,simpleD,anyOwn,disj,ldD,ldOK,mvD,q1,q2,show ¬0≤f by omega,show ¬0≤g by omega,q4'],by simp[pairsOK,pairsOK2,compatAdd,compatCA,compatSt,Dm.stoB,Dm.callB,Dm.adB,compatDyn,lowOK,allLt,labD,skips,guardD,looksG,guardSlot,looksD,goneD,eatsT,eats,goneL,rdD,wrD,simpleD,anyOwn,disj,ldD,ldOK,mvD,q1,q2,show ¬0≤f by omega,show ¬0≤g by omega,q4'],?_⟩;simp;exact .keep (by simp) (.refl _) (by simp) (by simp) (by simp) (by simp)
   have q4':((x.length:Int) !=y.length)=false:=by simp[q4]
   have q4'':(x.length==y.length)=true:=by simpa using q4
   simp only[q1,q2,q3,q4'',decide_true,Bool.true_and]at h;obtain⟨Q,hQ⟩:∃Q,renRow toks name i x y 0=Q:=⟨_,rfl⟩
   rw[hQ]at h;simp[hlt,hlt2,g0,g1,g25,encF,q1,q2,q3,show ¬0≤f by omega,show ¬0≤g by omega,q4'];refine⟨by simp[pairsOK,pairsOK2,compatAdd,compatCA,compatSt,Dm.stoB,Dm.callB,Dm.adB,compatDyn,lowOK,allLt,labD,skips,guardD,looksG,guardSlot,looksD,goneD,eatsT,eats,goneL,rdD,wrD,simpleD,anyOwn,disj,ldD,ldOK,mvD,q1,q2,show ¬0≤f by omega,show ¬0≤g by omega,q4'],by simp[pairsOK,pairsOK2,compatAdd,compatCA,compatSt,Dm.stoB,Dm.callB,Dm.adB,compatDyn,lowOK,allLt,labD,skips,guardD,looksG,guardSlot,looksD,goneD,eatsT,eats,goneL,rdD,wrD,simpleD,anyOwn,disj,ldD,ldOK,mvD,q1,q2,show ¬0≤f by omega,show ¬0≤g by omega,q4'],?_⟩;simp
   ·refine⟨renI a b toks name x y i Q,x.length,.here ⟨0,hQ,by simp,by simp,by simp,by simp[g0],by simp[g1],by simp[g2],by simp[g3],by simp[g24],by simp[g25],by simp,by simp,by simp,by simp,by simp⟩,?_⟩;rintro m ⟨tm,hp⟩ ⟨k,hk,rfl,hki,h0,g0,g1,g2,g3,g24,g25,g9,g10,g13,g75,g76⟩;simp only at h0 g0 g1 g2 g3 g24 g25 g9 g10 g13 g75 g76;subst h0;simp[g75,g76];rcases Nat.lt_or_ge k x.length with klt | kge
    ·have klt2:k < y.length:=by omega
     have kd1:x.drop k=x[k]::x.drop (k + 1):=List.drop_eq_getElem_cons klt;have kd2:y.drop k=y[k]::y.drop (k + 1):=List.drop_eq_getElem_cons klt2;rw[kd1,kd2]at hk;simp only[renRow]at hk;have kw:=w64_id (n:=(k:Int)+ 1) (by omega) (by omega);simp only[w64]at kw;simp[klt,klt2,g2,g9,g10,g13,g76,encT];refine CallGoal.same (containsB_ok ht) ?_;simp;have fin:∀w:ByteArray,wantT toks name i k x[k]=w→(y[k].text.toList==w.toList&&renRow toks name i (x.drop (k + 1)) (y.drop (k + 1)) (k + 1))=Q:=by
      rintro w rfl;exact hk
     cases hc:toks.any (isB i k)with
     | true=>
      have hq:=fin name (by simp[wantT,hc]);simp[klt,klt2,g3,g13,g9,encT];have hn2:(y[k].text.toList !=name.toList)= !(y[k].text.toList==name.toList):=rfl;cases hb2:y[k].text.toList==name.toList with
      | true=>
       rw[hb2,Bool.true_and]at hq;simp[g76,kw];exact .drop (x.length -(k + 1)) (by omega) 1 (by simp) (by simp) (by simp) ⟨k + 1,hq,rfl,by omega,by simp[dropSt],by simp[dropSt,dropD,g0],by simp[dropSt,dropD,g1],by simp[dropSt,dropD,g2],by simp[dropSt,dropD,g3],by simp[dropSt,dropD,g24],by simp[dropSt,dropD,g25],by simp[dropSt,dropD,g9],by simp[dropSt,dropD,g10],by simp[dropSt,dropD,g13],by simp[dropSt,dropD,g75],by simp[dropSt,dropD,kw]⟩
      | false=>
       rw[hb2,Bool.false_and]at hq;rw[←hq,Bool.false_and]at h;subst h;simp;exact .keep (by simp) (.refl _) (by simp) (by simp) (by simp) (by simp)
     | false=>
      have hq:=fin x[k].text (by simp[wantT,hc]);simp[klt,klt2,g3,g13,g9,encT];cases hb2:y[k].text.toList==x[k].text.toList with
      | true=>
       rw[hb2,Bool.true_and]at hq;simp[g76,kw];exact .drop (x.length -(k + 1)) (by omega) 1 (by simp) (by simp) (by simp) ⟨k + 1,hq,rfl,by omega,by simp[dropSt],by simp[dropSt,dropD,g0],by simp[dropSt,dropD,g1],by simp[dropSt,dropD,g2],by simp[dropSt,dropD,g3],by simp[dropSt,dropD,g24],by simp[dropSt,dropD,g25],by simp[dropSt,dropD,g9],by simp[dropSt,dropD,g10],by simp[dropSt,dropD,g13],by simp[dropSt,dropD,g75],by simp[dropSt,dropD,kw]⟩
      | false=>
       rw[hb2,Bool.false_and]at hq;rw[←hq,Bool.false_and]at h;subst h;simp;exact .keep (by simp) (.refl _) (by simp) (by simp) (by simp) (by simp)
    ·have:k=x.length:=by omega
     subst this;have hy0:y.drop x.length= []:=List.drop_eq_nil_of_le (by omega);have hQt:Q=true:=by
      rw[←hk,hy0];simp[renRow]
     rw[hQt,Bool.true_and]at h;simp[g25,hw];exact .drop (a.length -(i + 1)) (by omega) 0 (by simp) (by simp) (by simp) ⟨i + 1,h,rfl,by omega,by simp[dropSt],by simp[dropSt,dropD,g0],by simp[dropSt,dropD,g1],by simp[dropSt,dropD,g2],by simp[dropSt,dropD,g3],by simp[dropSt,dropD,g24],by simp[dropSt,dropD,hw]⟩
  ·have:i=a.length:=by omega
   subst this;have hb0:b.drop a.length= []:=List.drop_eq_nil_of_le (by omega);simp[hb0,renF]at h;subst h;simp;exact .keep (by simp) (.refl _) (by simp) (by simp) (by simp) (by simp)
 ·have hne:((a.length:Int) !=b.length)=true:=by simp;omega
  have hne2:(a.length==b.length)=false:=by simpa using hl
  rw[hne2];simp[hne];exact .keep (by simp) (.refl _) (by simp) (by simp) (by simp) (by simp)
end Dm.Ju
end Go.Proofs
set_option maxHeartbeats 4000000
set_option maxRecDepth 100000
namespace Go.Proofs
open Go Go.RowKit
namespace Dm.Ju
open Dm Dm.Sc Go.Proofs.Tryz
theorem b1:judgeTokens ⟨#[97,32,98,10]⟩ ⟨#[97,32,32,98,32,47,47,32,99]⟩=true:=by kernel_rfl
theorem b2:judgeTokens ⟨#[97]⟩ ⟨#[98]⟩=false:=by kernel_rfl
theorem b3:judgeTokens ⟨#[36]⟩ ⟨#[36]⟩=false:=by kernel_rfl
theorem b4:judgeComments ⟨#[97,32,47,47,32,99,32,10]⟩ ⟨#[97,10,47,47,32,99]⟩=true:=by kernel_rfl
theorem b5:judgeComments ⟨#[47,47,32,99,10,97]⟩ ⟨#[97,32,47,47,32,99]⟩=false:=by kernel_rfl
def fa:List Fil:= [⟨⟨#[97]⟩,⟨#[120,32,121,32,120]⟩⟩]
def fb:List Fil:= [⟨⟨#[97]⟩,⟨#[122,32,121,32,122]⟩⟩]
def tz:List Bnd:= [⟨0,0,0,0⟩,⟨0,2,0,0⟩]
theorem b6:renamedP fa fb tz ⟨#[122]⟩=true:=by kernel_rfl
theorem b7:renamedP fa fb [] ⟨#[122]⟩=false:=by kernel_rfl
theorem b8:allEq eqF fa fa=true:=by kernel_rfl
theorem b9:allEq eqF fa fb=false:=by kernel_rfl
attribute [local simp] takes handsOn isTmp Op.operands Call.operands
theorem begun_ok {W0 nb} (h2:2≤nb) (hT:Lib.Utf8Tabs 0 1 W0):DCalls ⟨Tryz.prog,W0,nb⟩ 36 [] [] (.p (.bool true)) []:=by
 have c1:=tokens_ok (W0:=W0) (nb:=nb) (a:=⟨#[97,32,98,10]⟩) (b:=⟨#[97,32,32,98,32,47,47,32,99]⟩) h2 hT (by decide) (by decide);have c2:=tokens_ok (W0:=W0) (nb:=nb) (a:=⟨#[97]⟩) (b:=⟨#[98]⟩) h2 hT (by decide) (by decide);have c3:=tokens_ok (W0:=W0) (nb:=nb) (a:=⟨#[36]⟩) (b:=⟨#[36]⟩) h2 hT (by decide) (by decide);have c4:=comments_ok (W0:=W0) (nb:=nb) (a:=⟨#[97,32,47,47,32,99,32,10]⟩) (b:=⟨#[97,10,47,47,32,99]⟩) h2 hT (by decide) (by decide);have c5:=comments_ok (W0:=W0) (nb:=nb) (a:=⟨#[47,47,32,99,10,97]⟩) (b:=⟨#[97,32,47,47,32,99]⟩) h2 hT (by decide) (by decide);have hfa:∀f∈fa,f.text.size < 10000000:=by decide
 have hfb:∀f∈fb,f.text.size < 10000000:=by decide
 have c6:=renamed_ok (W0:=W0) (nb:=nb) (a:=fa) (b:=fb) (toks:=tz) (name:=⟨#[122]⟩) h2 hT hfa hfb (by decide) (by decide);have c7:=renamed_ok (W0:=W0) (nb:=nb) (a:=fa) (b:=fb) (toks:= []) (name:=⟨#[122]⟩) h2 hT hfa hfb (by decide) (by decide);have c8:=files_ok (W0:=W0) (nb:=nb) (a:=fa) (b:=fa) (by decide);have c9:=files_ok (W0:=W0) (nb:=nb) (a:=fa) (b:=fb) (by decide);rw[b1]at c1;rw[b2]at c2;rw[b3]at c3;rw[b4]at c4;rw[b5]at c5;rw[b6]at c6;rw[b7]at c7;rw[b8]at c8;rw[b9]at c9;simp only[fa,fb,tz,encF,encB,List.map_cons,List.map_nil]at c6 c7 c8 c9;refine dcalls_end Tryz.func36 rfl (by kernel_rfl) 48 Tryz.ntmps36 #[.tmp 0] rfl (Nat.le_of_ble_eq_true rfl) ?_;simp;refine CallGoal.same c1 ?_;simp;refine CallGoal.same c2 ?_;simp;refine CallGoal.same c3 ?_;simp;refine CallGoal.same c4 ?_;simp;refine CallGoal.same c5 ?_;simp;refine CallGoal.intro c6 (.cons (.refl _) (.cons (.refl _) (.cons (.fr _ _ _) (.cons (.refl _) .nil)))) ?_;simp;refine CallGoal.intro c7 (.cons (.refl _) (.cons (.refl _) (.cons (.nilp _) (.cons (.refl _) .nil)))) ?_;simp;refine CallGoal.same c8 ?_;simp;refine CallGoal.same c9 ?_;simp;exact .keep (by simp) (.refl _) (by simp) (by simp) (by simp) (by simp)
end Dm.Ju
end Go.Proofs
