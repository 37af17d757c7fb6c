/- Part of the proof: what the walked functions compute. No condition. -/
import Derived.Test.YtmlhdhpjcipcdaaGreatDoorUz
import Derived.Test.YtmlhdhpjcipcdaaGreatDoorSd
import Derived.Test.YtmlhdhpjcipcdaaGreatDoorFb
set_option linter.unusedSimpArgs false
set_option linter.unusedVariables false
set_option maxHeartbeats 4000000
set_option maxRecDepth 100000
namespace Go.Proofs
open Go Go.RowKit
namespace Dm.Ju
open Dm Dm.Sc Go.Proofs.Tryz
attribute [local simp] takes handsOn isTmp Op.operands Call.operands
def judgeTokens (a b:ByteArray):Bool:=decide ((scanP a).2.2 < 0)&&decide ((scanP b).2.2 < 0)&&eqTs (wordsL (scanP a).1) (wordsL (scanP b).1)
theorem scanP_len (s:ByteArray):(scanP s).1.length≤s.size + 2∧(scanP s).2.1.length≤s.size:=by
 have h:=loopS_ok (s:=s) (s.size + 1) ⟨0,1,[],[]⟩ (Nat.zero_le _);simp only[scanP];split
 ·simp
 ·have:=semi_len (loopS s (s.size + 1) ⟨0,1,[],[]⟩).1;simp only[ended,List.length_append,List.length_singleton,List.length_nil]at *;omega
theorem tokens_ok {W0 nb a b} (h2:2≤nb) (hT:Lib.Utf8Tabs 0 1 W0) (ha:a.size < 10000000) (hb:b.size < 10000000):DCalls ⟨Tryz.prog,W0,nb⟩ 37 [.p (.str a),.p (.str b)] [] (.p (.bool (judgeTokens a b))) []:=by
 have la:=scanP_len a;have lb:=scanP_len b;have wa:=wordsL_len (scanP a).1;obtain⟨A,hA⟩:∃A,scanP a=A:=⟨_,rfl⟩
 obtain⟨B,hB⟩:∃B,scanP b=B:=⟨_,rfl⟩
 have ca:=scan_ok (W0:=W0) (nb:=nb) (s:=a) h2 hT ha;have cb:=scan_ok (W0:=W0) (nb:=nb) (s:=b) h2 hT hb;simp only[judgeTokens];rw[hA]at la ca wa⊢;rw[hB]at lb cb⊢;obtain⟨x,xc,f⟩:=A;obtain⟨y,yc,g⟩:=B;simp only[toks,coms]at la lb ca cb wa⊢;refine dcalls_end Tryz.func37 rfl (by kernel_rfl) 36 Tryz.ntmps37 #[.tmp 4] rfl (Nat.le_of_ble_eq_true rfl) ?_;simp;refine CallGoal.same ca ?_;simp;refine CallGoal.same cb ?_;simp
 by_cases hf:f < 0
 ·by_cases hg:g < 0
  ·simp[hf,hg];refine CallGoal.same (words_ok (l:=x) (by omega)) ?_;simp;refine CallGoal.same (words_ok (l:=y) (by omega)) ?_;simp;refine CallGoal.same (equal_ok (a:=wordsL x) (b:=wordsL y) (by omega)) ?_;simp;exact .keep (by simp) (.refl _) (by simp) (by simp) (by simp) (by simp)
  ·simp[hf,hg];exact .keep (by simp) (.refl _) (by simp) (by simp) (by simp) (by simp)
 ·simp[hf];exact .keep (by simp) (.refl _) (by simp) (by simp) (by simp) (by simp)
structure Rem where
 text:ByteArray
 ahead:Int
def encR (r:Rem):List PD:= [.str r.text,.int .i64 r.ahead]
def trimB (s:ByteArray):ByteArray:=⟨(Lib.trimRightS s.data.toList [32,9]).toArray⟩
theorem trim_ok {W0 nb s} (hs:s.size≤9223372036854775807):DCalls ⟨Tryz.prog,W0,nb⟩ 80 [.p (.str s),.p (.str ⟨#[32,9]⟩)] [] (.p (.str (trimB s))) []:=Fo.trimR_ok hs
def rem1 (l:List Tok) (c:Com):Rem:=⟨trimB c.text,((wordsL (l.take c.next.toNat)).length:Nat)⟩
def remsP (s:ByteArray):List Rem:=(scanP s).2.1.map (rem1 (scanP s).1)
def nextOK (s:ByteArray) (x:SS):Prop:=∀c∈x.c,0≤c.next∧c.next≤x.l.length∧c.text.size≤s.size
theorem step_next {s x y} (hx:nextOK s x) (h1:x.at_ < s.size) (h:Sc.step s x=some y):nextOK s y:=by
 have hg:s[x.at_]? =some s[x.at_]:=by simp
 simp only[Sc.step,hg]at h;generalize s[x.at_]=c at *;have mono:∀y:SS,y.c=x.c→x.l.length≤y.l.length→nextOK s y:=by
  intro y h1 h2 c hc;rw[h1]at hc;have:=hx c hc;omega
 have hse:x.l.length≤(semi x).l.length:=by unfold semi;split <;> simp
 have hadd:∀k e,nextOK s (add s k e x):=fun k e=>mono _ rfl (by simp[add])
 split at h
 ·cases h;exact mono _ (by simp) hse
 split at h
 ·cases h;exact mono _ rfl (Nat.le_refl _)
 split at h
 ·cases h;intro c hc;simp only[note,List.mem_append,List.mem_singleton]at hc;rcases hc with hc | rfl
  ·have:=hx c hc;simp only[note];omega
  ·simp[note];omega
 split at h
 ·simp only[nameS]at h;split at h
  ·cases h
  ·cases h;exact hadd _ _
 split at h
 ·simp only[numS]at h;split at h
  ·cases h
  ·cases h;exact hadd _ _
 split at h
 ·simp only[textS]at h;split at h
  ·cases h;exact hadd _ _
  ·cases h
 split at h
 ·cases h;exact hadd _ _
 ·have:∀n,opR s x n=some y→∃e,y=add s 4 e x:=by
   intro n
   induction n with
   | zero=>intro h;cases h
   | succ n ih=>
    intro h;simp only[opR]at h;split at h
    ·cases h;exact⟨_,rfl⟩
    ·exact ih h
  obtain⟨e,rfl⟩:=this 2 h;exact hadd _ _
theorem loop_next {s}:∀n x,nextOK s x→nextOK s (loopS s n x).1
 | 0,x,hx=>hx
 | n + 1,x,hx=>by
  simp only[loopS];split
  ·rename_i hlt;cases hs:Sc.step s x with
   | none=>exact hx
   | some y=>exact loop_next n y (step_next hx hlt hs)
  ·exact hx
theorem scan_next (s:ByteArray):∀c∈(scanP s).2.1,0≤c.next∧c.next≤(scanP s).1.length∧c.text.size≤s.size:=by
 have h:=loop_next (s:=s) (s.size + 1) ⟨0,1,[],[]⟩ (by intro c hc;cases hc);intro c hc;simp only[scanP]at hc⊢;split at hc
 ·cases hc
 ·rename_i hn;rw[if_neg hn];have:=h c hc;have hse:∀x:SS,x.l.length≤(semi x).l.length:=fun x=>by unfold semi;split <;> simp
  have:=hse (loopS s (s.size + 1) ⟨0,1,[],[]⟩).1;simp only[ended,List.length_append,List.length_singleton];omega
def remI (l:List Tok) (cs:List Com) (m:Nat) (st:St):Prop:=∃i:Nat,m=cs.length - i∧i≤cs.length∧st.hp= []∧st.tm 4=tk l∧st.tm 7= .own 102 2 (((cs.take i).map (rem1 l)).map encR)∧st.tm 16= .p (.sl 4 (cs.map encC))∧st.tm 17=i64 cs.length∧st.tm 18=i64 (i:Nat)
theorem remarks_ok {W0 nb s} (h2:2≤nb) (hT:Lib.Utf8Tabs 0 1 W0) (hs:s.size < 10000000):DCalls ⟨Tryz.prog,W0,nb⟩ 73 [.p (.str s)] [] (.tup [.p (.sl 2 ((remsP s).map encR)),.p (.bool (decide ((scanP s).2.2 < 0)))]) []:=by
 have la:=scanP_len s;have hn:=scan_next s;have ca:=scan_ok (W0:=W0) (nb:=nb) (s:=s) h2 hT hs;simp only[remsP];obtain⟨A,hA⟩:∃A,scanP s=A:=⟨_,rfl⟩
 rw[hA]at la ca hn⊢;obtain⟨l,cs,f⟩:=A;simp only[toks,coms]at la ca hn⊢;refine dcalls_end Tryz.func73 rfl (by kernel_rfl) 39 Tryz.ntmps73 #[.tmp 2,.tmp 3] rfl (Nat.le_of_ble_eq_true rfl) ?_;simp;refine CallGoal.same ca ?_;simp;refine LoopGoal.cut (fun st=>st.hp= []∧st.tm 6=i64 f∧st.tm 7= .own 102 2 ((cs.map (rem1 l)).map encR)) ?_ ?_
 ·refine⟨fun m st=>remI l cs m st∧st.tm 6=i64 f,cs.length,.here ⟨⟨0,by simp,by simp,by simp,by simp,by simp,by simp,by simp,by simp⟩,by simp⟩,?_⟩;rintro m ⟨tm,hp⟩ ⟨⟨i,rfl,hi,h0,g4,g7,g16,g17,g18⟩,g6⟩;simp only at h0 g4 g7 g16 g17 g18 g6;subst h0;simp[g17,g18];rcases Nat.lt_or_ge i cs.length with hlt | hge
  ·have hc:=hn cs[i] (List.getElem_mem hlt);have hw:=w64_id (n:=(i:Int)+ 1) (by omega) (by omega);simp only[w64]at hw;have htk:cs.take (i + 1)=cs.take i ++ [cs[i]]:=List.take_succ_eq_append_getElem hlt;have hfin:(((cs.take (i + 1)).map (rem1 l)).map encR)=List.take i (List.map (encR∘rem1 l) cs)++ [[PD.str (trimB cs[i].text),PD.int .i64 ((wordsL (List.take cs[i].next.toNat l)).length:Nat)]]:=by
    rw[htk];simp only[List.map_append,List.map_take,List.map_map];rfl
   have hnx:((cs[i].next.toNat:Nat):Int)=cs[i].next:=by omega
   have hwl:=wordsL_len (l.take cs[i].next.toNat);have hww:=w64_id (n:=((wordsL (l.take cs[i].next.toNat)).length:Int)) (by omega) (by simp at hwl;omega);simp only[w64]at hww;have ha1:(i + 1)* 24≤140737488355328:=by omega
   have ha2:i≤9223372036854775806:=by omega
   have hmin:min i cs.length=i:=by omega
   simp[hlt,g4,g7,g16,g17,g18,encC];refine drawWp.intro [(0,3),(3,6),(0,8),(0,10)] [2,3,6,8] mixed (by kernel_rfl) (by kernel_rfl) (by kernel_rfl) ?_;simp[g4,g7,hc.1,hc.2.1];refine CallGoal.same (trim_ok (by omega)) ?_;have hwk:=words_ok (W0:=W0) (nb:=nb) (l:=l.take cs[i].next.toNat) (by simp;omega);simp only[tk,List.map_take]at hwk;simp[g4,hc.1,hc.2.1];refine CallGoal.same hwk ?_;simp[hww,ha1,ha2,hmin];refine⟨by simp[pairsOK,pairsOK2,compatAdd,compatCA,compatSt,Dm.stoB,Dm.callB,Dm.adB,compatDyn,lowOK,allLt,labD,skips,guardD,looksG,guardSlot,looksD,goneD,eatsT,eats,goneL,rdD,wrD,simpleD,anyOwn,disj,ldD,ldOK,mvD,g7,hww,ha1,ha2,hmin],by simp[pairsOK,pairsOK2,compatAdd,compatCA,compatSt,Dm.stoB,Dm.callB,Dm.adB,compatDyn,lowOK,allLt,labD,skips,guardD,looksG,guardSlot,looksD,goneD,eatsT,eats,goneL,rdD,wrD,simpleD,anyOwn,disj,ldD,ldOK,mvD,g7,hww,ha1,ha2,hmin],?_⟩;simp[g4,g6,g16,g17,g18,hw];exact .drop (cs.length -(i + 1)) (by omega) 0 (by simp) (by simp) (by simp) ⟨⟨i + 1,rfl,by omega,by simp[dropSt],by simp[dropSt,dropD,g4],by rw[hfin];simp[dropSt,dropD],by simp[dropSt,dropD,g16],by simp[dropSt,dropD,g17],by simp[dropSt,dropD,hw]⟩,by simp[dropSt,dropD,g6]⟩
  ·have:i=cs.length:=by omega
   subst this;simp[g6,g7]
 ·rintro⟨tm,hp⟩ ⟨h0,g6,g7⟩;simp only at h0 g6 g7;subst h0;simp[g6,g7];exact .keep (by simp) (.refl _) (by simp) (by simp) (by simp) (by simp)
end Dm.Ju
end Go.Proofs
set_option maxHeartbeats 4000000
set_option maxRecDepth 100000
namespace Go.Proofs
open Go Go.RowKit
namespace Dm.Ju
open Dm Dm.Sc Go.Proofs.Tryz
attribute [local simp] takes handsOn isTmp Op.operands Call.operands
def allEq {α:Type} (eq:α→α→Bool):List α→List α→Bool
 | [],[]=>true
 | a::al,b::bl=>eq a b&&allEq eq al bl
 | _,_=>false
theorem allEq_len {α:Type} (eq:α→α→Bool):∀(a b:List α),a.length≠b.length→allEq eq a b=false
 | [],[],h=>absurd rfl h
 | [],_::_,_=>rfl
 | _::_,[],_=>rfl
 | a::al,b::bl,h=>by
  simp only[allEq,allEq_len eq al bl (by simpa using h),Bool.and_false]
def eqR (a b:Rem):Bool:=a.text.toList==b.text.toList&&a.ahead==b.ahead
theorem equalR_ok {W0 nb a b} (ha:a.length < 100000000):DCalls ⟨Tryz.prog,W0,nb⟩ 74 [.p (.sl 2 (a.map encR)),.p (.sl 2 (b.map encR))] [] (.p (.bool (allEq eqR a b))) []:=by
 obtain⟨R,hR⟩:∃R,allEq eqR a b=R:=⟨_,rfl⟩
 rw[hR];refine dcalls_end Tryz.func74 rfl (by kernel_rfl) 26 Tryz.ntmps74 #[.tmp 4] rfl (Nat.le_of_ble_eq_true rfl) ?_;simp
 by_cases hl:a.length=b.length
 ·have hne:((a.length:Int) !=b.length)=false:=by simp[hl]
  simp only[←hl];simp;refine⟨fun m st=>∃i,allEq eqR (a.drop i) (b.drop i)=R∧m=a.length - i∧i≤a.length∧st.hp= []∧st.tm 0= .p (.sl 2 (a.map encR))∧st.tm 1= .p (.sl 2 (b.map encR))∧st.tm 12=i64 a.length∧st.tm 13=i64 (i:Nat),a.length,.here ⟨0,hR,by simp,by simp,by simp,by simp,by simp,by simp,by simp⟩,?_⟩;rintro m ⟨tm,hp⟩ ⟨i,h,rfl,hi,h0,g0,g1,g12,g13⟩;simp only at h0 g0 g1 g12 g13;subst h0;simp[g12,g13];rcases Nat.lt_or_ge i a.length with hlt | hge
  ·have hlt2:i < b.length:=by omega
   have hd1:a.drop i=a[i]::a.drop (i + 1):=List.drop_eq_getElem_cons hlt;have hd2:b.drop i=b[i]::b.drop (i + 1):=List.drop_eq_getElem_cons hlt2;rw[hd1,hd2]at h;simp only[allEq]at h;have hw:=w64_id (n:=(i:Int)+ 1) (by omega) (by omega);simp only[w64]at hw;have hq:eqR a[i] b[i]=eqR a[i] b[i]:=rfl;simp[hlt,g13];refine drawWp.intro [] [7] mixed (by kernel_rfl) (by kernel_rfl) (by kernel_rfl) ?_;simp[hlt,hlt2,g0,g1,encR];refine⟨by simp[pairsOK,pairsOK2,compatAdd,compatCA,compatSt,Dm.stoB,Dm.callB,Dm.adB,compatDyn,lowOK,allLt,labD,skips,guardD,looksG,guardSlot,looksD,goneD,eatsT,eats,goneL,rdD,wrD,simpleD,anyOwn,disj,ldD,ldOK,mvD,g0,g1],by simp[pairsOK,pairsOK2,compatAdd,compatCA,compatSt,Dm.stoB,Dm.callB,Dm.adB,compatDyn,lowOK,allLt,labD,skips,guardD,looksG,guardSlot,looksD,goneD,eatsT,eats,goneL,rdD,wrD,simpleD,anyOwn,disj,ldD,ldOK,mvD,g0,g1],?_⟩;simp;have he:((!a[i].text.toList==b[i].text.toList)||(!a[i].ahead==b[i].ahead))= !(eqR a[i] b[i]):=by simp[eqR,Bool.not_and]
   rw[he];cases hq:eqR a[i] b[i]with
   | true=>
    rw[hq,Bool.true_and]at h;simp[g13,hw];exact .same (a.length -(i + 1)) (by omega) ⟨i + 1,h,rfl,by omega,by simp,by simp[g0],by simp[g1],by simp[g12],by simp[hw]⟩
   | false=>
    rw[hq,Bool.false_and]at h;subst h;simp;exact .keep (by simp) (.refl _) (by simp) (by simp) (by simp) (by simp)
  ·have:i=a.length:=by omega
   subst this;have hb0:b.drop a.length= []:=List.drop_eq_nil_of_le (by omega);simp[hb0,allEq]at h;subst h;simp;exact .keep (by simp) (.refl _) (by simp) (by simp) (by simp) (by simp)
 ·have hne:((a.length:Int) !=b.length)=true:=by simp;omega
  rw[allEq_len _ a b hl]at hR;subst hR;simp[hne];exact .keep (by simp) (.refl _) (by simp) (by simp) (by simp) (by simp)
structure Fil where
 name:ByteArray
 text:ByteArray
def encF (f:Fil):List PD:= [.str f.name,.str f.text]
def eqF (a b:Fil):Bool:=a.name.toList==b.name.toList&&a.text.toList==b.text.toList
theorem equalF_ok {W0 nb a b} (ha:a.length < 100000000000):DCalls ⟨Tryz.prog,W0,nb⟩ 113 [.p (.sl 2 (a.map encF)),.p (.sl 2 (b.map encF))] [] (.p (.bool (allEq eqF a b))) []:=by
 obtain⟨R,hR⟩:∃R,allEq eqF a b=R:=⟨_,rfl⟩
 rw[hR];refine dcalls_end Tryz.func113 rfl (by kernel_rfl) 26 Tryz.ntmps113 #[.tmp 4] rfl (Nat.le_of_ble_eq_true rfl) ?_;simp
 by_cases hl:a.length=b.length
 ·have hne:((a.length:Int) !=b.length)=false:=by simp[hl]
  simp only[←hl];simp;refine⟨fun m st=>∃i,allEq eqF (a.drop i) (b.drop i)=R∧m=a.length - i∧i≤a.length∧st.hp= []∧st.tm 0= .p (.sl 2 (a.map encF))∧st.tm 1= .p (.sl 2 (b.map encF))∧st.tm 12=i64 a.length∧st.tm 13=i64 (i:Nat),a.length,.here ⟨0,hR,by simp,by simp,by simp,by simp,by simp,by simp,by simp⟩,?_⟩;rintro m ⟨tm,hp⟩ ⟨i,h,rfl,hi,h0,g0,g1,g12,g13⟩;simp only at h0 g0 g1 g12 g13;subst h0;simp[g12,g13];rcases Nat.lt_or_ge i a.length with hlt | hge
  ·have hlt2:i < b.length:=by omega
   have hd1:a.drop i=a[i]::a.drop (i + 1):=List.drop_eq_getElem_cons hlt;have hd2:b.drop i=b[i]::b.drop (i + 1):=List.drop_eq_getElem_cons hlt2;rw[hd1,hd2]at h;simp only[allEq]at h;have hw:=w64_id (n:=(i:Int)+ 1) (by omega) (by omega);simp only[w64]at hw;have hq:eqF a[i] b[i]=eqF a[i] b[i]:=rfl;simp[hlt,g13];refine drawWp.intro [] [7] mixed (by kernel_rfl) (by kernel_rfl) (by kernel_rfl) ?_;simp[hlt,hlt2,g0,g1,encF];refine⟨by simp[pairsOK,pairsOK2,compatAdd,compatCA,compatSt,Dm.stoB,Dm.callB,Dm.adB,compatDyn,lowOK,allLt,labD,skips,guardD,looksG,guardSlot,looksD,goneD,eatsT,eats,goneL,rdD,wrD,simpleD,anyOwn,disj,ldD,ldOK,mvD,g0,g1],by simp[pairsOK,pairsOK2,compatAdd,compatCA,compatSt,Dm.stoB,Dm.callB,Dm.adB,compatDyn,lowOK,allLt,labD,skips,guardD,looksG,guardSlot,looksD,goneD,eatsT,eats,goneL,rdD,wrD,simpleD,anyOwn,disj,ldD,ldOK,mvD,g0,g1],?_⟩;simp;have he:((!a[i].name.toList==b[i].name.toList)||(!a[i].text.toList==b[i].text.toList))= !(eqF a[i] b[i]):=by simp[eqF,Bool.not_and]
   rw[he];cases hq:eqF a[i] b[i]with
   | true=>
    rw[hq,Bool.true_and]at h;simp[g13,hw];exact .same (a.length -(i + 1)) (by omega) ⟨i + 1,h,rfl,by omega,by simp,by simp[g0],by simp[g1],by simp[g12],by simp[hw]⟩
   | false=>
    rw[hq,Bool.false_and]at h;subst h;simp;exact .keep (by simp) (.refl _) (by simp) (by simp) (by simp) (by simp)
  ·have:i=a.length:=by omega
   subst this;have hb0:b.drop a.length= []:=List.drop_eq_nil_of_le (by omega);simp[hb0,allEq]at h;subst h;simp;exact .keep (by simp) (.refl _) (by simp) (by simp) (by simp) (by simp)
 ·have hne:((a.length:Int) !=b.length)=true:=by simp;omega
  rw[allEq_len _ a b hl]at hR;subst hR;simp[hne];exact .keep (by simp) (.refl _) (by simp) (by simp) (by simp) (by simp)
theorem files_ok {W0 nb a b} (ha:a.length < 100000000000):DCalls ⟨Tryz.prog,W0,nb⟩ 69 [.p (.sl 2 (a.map encF)),.p (.sl 2 (b.map encF))] [] (.p (.bool (allEq eqF a b))) []:=by
 refine dcalls_end Tryz.func69 rfl (by kernel_rfl) 8 Tryz.ntmps69 #[.tmp 4] rfl (Nat.le_of_ble_eq_true rfl) ?_;simp;refine CallGoal.same (equalF_ok ha) ?_;simp;exact .keep (by simp) (.refl _) (by simp) (by simp) (by simp) (by simp)
end Dm.Ju
end Go.Proofs
set_option maxHeartbeats 4000000
set_option maxRecDepth 100000
namespace Go.Proofs
open Go Go.RowKit
namespace Dm.Ju
open Dm Dm.Sc Go.Proofs.Tryz
attribute [local simp] takes handsOn isTmp Op.operands Call.operands
def judgeComments (a b:ByteArray):Bool:=decide ((scanP a).2.2 < 0)&&decide ((scanP b).2.2 < 0)&&allEq eqR (remsP a) (remsP b)
theorem comments_ok {W0 nb a b} (h2:2≤nb) (hT:Lib.Utf8Tabs 0 1 W0) (ha:a.size < 10000000) (hb:b.size < 10000000):DCalls ⟨Tryz.prog,W0,nb⟩ 38 [.p (.str a),.p (.str b)] [] (.p (.bool (judgeComments a b))) []:=by
 have la:=scanP_len a;have lr:(remsP a).length < 100000000:=by simp[remsP];omega
 have ca:=remarks_ok (W0:=W0) (nb:=nb) (s:=a) h2 hT ha;have cb:=remarks_ok (W0:=W0) (nb:=nb) (s:=b) h2 hT hb;simp only[judgeComments];obtain⟨f,hf⟩:∃f,decide ((scanP a).2.2 < 0)=f:=⟨_,rfl⟩
 obtain⟨g,hg⟩:∃g,decide ((scanP b).2.2 < 0)=g:=⟨_,rfl⟩
 obtain⟨x,hx⟩:∃x,remsP a=x:=⟨_,rfl⟩
 obtain⟨y,hy⟩:∃y,remsP b=y:=⟨_,rfl⟩
 rw[hf,hx]at ca;rw[hg,hy]at cb;rw[hf,hg,hx,hy];rw[hx]at lr;clear hf hg hx hy la;refine dcalls_end Tryz.func38 rfl (by kernel_rfl) 28 Tryz.ntmps38 #[.tmp 4] rfl (Nat.le_of_ble_eq_true rfl) ?_;simp;refine CallGoal.same ca ?_;simp;refine CallGoal.same cb ?_;simp;cases f with
 | false=>
  simp;exact .keep (by simp) (.refl _) (by simp) (by simp) (by simp) (by simp)
 | true=>
  cases g with
  | false=>
   simp;exact .keep (by simp) (.refl _) (by simp) (by simp) (by simp) (by simp)
  | true=>
   simp;refine CallGoal.same (equalR_ok lr) ?_;simp;exact .keep (by simp) (.refl _) (by simp) (by simp) (by simp) (by simp)
structure Bnd where
 file:Int
 tok:Int
 dfile:Int
 dtok:Int
def encB (b:Bnd):List PD:= [.int .i64 b.file,.int .i64 b.tok,.int .i64 b.dfile,.int .i64 b.dtok]
def isB (i k:Int) (b:Bnd):Bool:=b.file==i&&b.tok==k
theorem isB_ok {W0 nb} {b:Bnd} {i k:Int}:DCalls ⟨Tryz.prog,W0,nb⟩ 112 [.agg ((encB b).map .p),.ref 0 0,.ref 1 0] [[i64 i],[i64 k]] (.p (.bool (isB i k b))) [[i64 i],[i64 k]]:=by
 refine dcalls_end Tryz.func112 rfl (by kernel_rfl) 15 Tryz.ntmps112 #[.tmp 4] rfl (Nat.le_of_ble_eq_true rfl) ?_;simp[encB,isB];cases h:b.file==i <;> simp[h]
 all_goals exact .keep (by simp[h]) (.refl _) (by simp) (by simp) (by simp) (by simp)
def bAt (i k:Int):List Bnd→Nat→Int
 | [],_=> -1
 | b::l,n=>if isB i k b then(n:Int)else bAt i k l (n + 1)
theorem bAt_any (i k:Int):∀(l:List Bnd) (n:Nat),decide (0≤bAt i k l n)=l.any (isB i k)
 | [],n=>by simp[bAt]
 | b::l,n=>by
  simp only[bAt,List.any_cons]
  by_cases h:isB i k b=true
  ·simp[h]
  ·have:=bAt_any i k l (n + 1);simp[h,this]
theorem indexB_ok {W0 nb} {i k:Int} {l:List Bnd} (hl:l.length < 100000000):DCalls ⟨Tryz.prog,W0,nb⟩ 158 [.p (.sl 4 (l.map encB)),.fn 112 [.ref 0 0,.ref 1 0]] [[i64 i],[i64 k]] (i64 (bAt i k l 0)) [[i64 i],[i64 k]]:=by
 obtain⟨R,hR⟩:∃R,bAt i k l 0=R:=⟨_,rfl⟩
 rw[hR];refine dcalls_end Tryz.func158 rfl (by kernel_rfl) 19 Tryz.ntmps158 #[.tmp 4] rfl (Nat.le_of_ble_eq_true rfl) ?_;simp;refine⟨fun m st=>∃n,bAt i k (l.drop n) n=R∧m=l.length - n∧n≤l.length∧st.hp= [[i64 i],[i64 k]]∧st.tm 0= .p (.sl 4 (l.map encB))∧st.tm 1= .fn 112 [.ref 0 0,.ref 1 0]∧st.tm 7=i64 l.length∧st.tm 8=i64 (n:Nat),l.length,.here ⟨0,hR,by simp,by simp,by simp,by simp,by simp,by simp,by simp⟩,?_⟩;rintro m ⟨tm,hp⟩ ⟨n,h,rfl,hn,h0,h1,h2,h3,h4⟩;simp only at h0 h1 h2 h3 h4;subst h0;simp[h3,h4];rcases Nat.lt_or_ge n l.length with hlt | hge
 ·have hd:l.drop n=l[n]::l.drop (n + 1):=List.drop_eq_getElem_cons hlt;rw[hd]at h;simp only[bAt]at h;have hw:=w64_id (n:=(n:Int)+ 1) (by omega) (by omega);simp only[w64]at hw;simp[hlt,h1,h2,h3,h4,encB];refine CallGoal.same (isB_ok (b:=l[n])) ?_;simp;cases hq:isB i k l[n]with
  | true=>
   rw[hq,if_pos rfl]at h;simp[←h];exact .keep (by simp) (.refl _) (by simp) (by simp) (by simp) (by simp)
  | false=>
   rw[hq]at h;simp only[Bool.false_eq_true,if_false]at h;simp[h1,h2,h3,h4,hw];exact .same (l.length -(n + 1)) (by omega) ⟨n + 1,h,rfl,by omega,by simp,by simp[h1],by simp[h2],by simp[h3],by simp[hw]⟩
 ·have:n=l.length:=by omega
  subst this;simp[bAt]at h;simp[←h];exact .keep (by simp) (.refl _) (by simp) (by simp) (by simp) (by simp)
theorem containsB_ok {W0 nb} {i k:Int} {l:List Bnd} (hl:l.length < 100000000):DCalls ⟨Tryz.prog,W0,nb⟩ 111 [.p (.sl 4 (l.map encB)),.fn 112 [.ref 0 0,.ref 1 0]] [[i64 i],[i64 k]] (.p (.bool (l.any (isB i k)))) [[i64 i],[i64 k]]:=by
 refine dcalls_end Tryz.func111 rfl (by kernel_rfl) 9 Tryz.ntmps111 #[.tmp 4] rfl (Nat.le_of_ble_eq_true rfl) ?_;simp;refine CallGoal.same (indexB_ok hl) ?_;simp[bAt_any];exact .keep (by simp) (.refl _) (by simp) (by simp) (by simp) (by simp)
end Dm.Ju
end Go.Proofs
