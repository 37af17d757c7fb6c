/- Part of the proof: contracts of the functions, walked by the D-machine. No condition. -/
import Derived.Test.YtmlhdhpjcipcdaaGreatDoorPa
import Derived.Test.YtmlhdhpjcipcdaaGreatDoorHcx
import Derived.Test.YtmlhdhpjcipcdaaGreatDoorSa
import Derived.Test.YtmlhdhpjcipcdaaGreatDoorDn
import Derived.Test.YtmlhdhpjcipcdaaGreatDoorSb
import Derived.Test.YtmlhdhpjcipcdaaGreatDoorGcx
import Derived.KernelRfl
import Derived.Test.YtmlhdhpjcipcdaaGreatDoorHdx
set_option linter.unusedSimpArgs false
set_option linter.unusedVariables false
set_option maxHeartbeats 8000000
set_option maxRecDepth 100000
namespace Go.Proofs.Dm
open Go Go.Proofs Go.Proofs.Tryz Go.Proofs.Dm.Sc
namespace Sh
def names:List ByteArray:= [⟨#[]⟩,⟨#[102,105,108,101]⟩,⟨#[112,97,99,107,97,103,101]⟩,⟨#[105,109,112,111,114,116]⟩,⟨#[118,97,114]⟩,⟨#[99,111,110,115,116]⟩,⟨#[115,116,114,117,99,116]⟩,⟨#[102,105,101,108,100]⟩,⟨#[102,117,110,99]⟩,⟨#[112,97,114,97,109]⟩,⟨#[98,108,111,99,107]⟩,⟨#[100,101,102,105,110,101]⟩,⟨#[100,111]⟩,⟨#[97,115,115,105,103,110]⟩,⟨#[105,102]⟩,⟨#[102,111,114]⟩,⟨#[114,101,116,117,114,110]⟩,⟨#[98,114,101,97,107]⟩,⟨#[99,111,110,116,105,110,117,101]⟩,⟨#[108,97,98,101,108]⟩,⟨#[110,97,109,101]⟩,⟨#[105,110,116]⟩,⟨#[115,116,114,105,110,103]⟩,⟨#[117,110,97,114,121]⟩,⟨#[98,105,110,97,114,121]⟩,⟨#[112,97,114,101,110]⟩,⟨#[99,97,108,108]⟩,⟨#[115,101,108,101,99,116]⟩,⟨#[116,121,112,101]⟩]
def nameOf (k:Int):ByteArray:=if 0≤k then(names[k.toNat]?).getD ⟨#[]⟩else⟨#[]⟩
def bare (k:Int):Bool:=k==1 || k==10 || k==12 || k==25 || k==26 || k==14 || k==15 || k==16 || k==17 || k==18
def tokT (l:List Tok) (t:Int):ByteArray:=if 0≤t then((l[t.toNat]?).map Tok.text).getD ⟨#[]⟩else⟨#[]⟩
def headS (l:List Tok) (k t:Int):ByteArray:=if bare k then⟨#[40]⟩ ++ nameOf k else⟨#[40]⟩ ++ nameOf k ++ ⟨#[32]⟩ ++ tokT l t
mutual
def shapeS (l:List Tok):Nd→ByteArray
 | .mk k t ks=>kidsS l (headS l k t) ks ++ ⟨#[41]⟩
def kidsS (l:List Tok) (s:ByteArray):List Nd→ByteArray
 | []=>s
 | x::xs=>kidsS l (s ++(⟨#[32]⟩ ++ shapeS l x)) xs
end
theorem names_len:names.length=29:=rfl
theorem names_small:∀x∈names,x.size≤8:=by decide
theorem e0:(⟨#[]⟩:ByteArray).size=0:=rfl
theorem nameOf_size (k:Int):(nameOf k).size≤8:=by
 unfold nameOf;split
 ·cases h:names[k.toNat]? with
  | none=>show(⟨#[]⟩:ByteArray).size≤8;rw[e0];omega
  | some x=>exact names_small x (List.mem_of_getElem? h)
 ·rw[e0];omega
theorem tokT_size {l:List Tok} {T:Nat} (hT:∀t∈l,t.text.size≤T) (t:Int):(tokT l t).size≤T:=by
 unfold tokT;split
 ·cases h:l[t.toNat]? with
  | none=>show(⟨#[]⟩:ByteArray).size≤T;rw[e0];omega
  | some x=>exact hT x (List.mem_of_getElem? h)
 ·rw[e0];omega
theorem s1:(⟨#[40]⟩:ByteArray).size=1:=rfl
theorem s2:(⟨#[32]⟩:ByteArray).size=1:=rfl
theorem s3:(⟨#[41]⟩:ByteArray).size=1:=rfl
theorem headS_size {l:List Tok} {T:Nat} (hT:∀t∈l,t.text.size≤T) (k t:Int):(headS l k t).size≤T + 10:=by
 have h1:=nameOf_size k;have h2:=tokT_size hT t;unfold headS;split <;> simp only[ByteArray.size_append,s1,s2] <;> omega
mutual
theorem shape_size {l:List Tok} {T:Nat} (hT:∀t∈l,t.text.size≤T):∀nd,(shapeS l nd).size + 1≤Gr.cnt nd *(T + 12)
 | .mk k t ks=>by
  have h1:=headS_size hT k t;have h2:=kids_size hT (headS l k t) ks;simp only[shapeS,Gr.cnt,ByteArray.size_append,s3,Nat.add_mul,Nat.one_mul];omega
theorem kids_size {l:List Tok} {T:Nat} (hT:∀t∈l,t.text.size≤T):∀s ks,(kidsS l s ks).size≤s.size + Gr.cnts ks *(T + 12)
 | s,[]=>by simp[kidsS,Gr.cnts]
 | s,x::xs=>by
  have h1:=shape_size hT x;have h2:=kids_size hT (s ++(⟨#[32]⟩ ++ shapeS l x)) xs;simp only[kidsS,Gr.cnts,Nat.add_mul];simp only[ByteArray.size_append,s2]at h2;omega
end
theorem kids_grow (l:List Tok):∀(s:ByteArray) (ks:List Nd),s.size≤(kidsS l s ks).size
 | s,[]=>Nat.le_refl _
 | s,x::xs=>by
  have:=kids_grow l (s ++(⟨#[32]⟩ ++ shapeS l x)) xs;simp only[kidsS];simp only[ByteArray.size_append]at this;omega
theorem cnt_mem:∀{ks:List Nd} {x:Nd},x∈ks→Gr.cnt x≤Gr.cnts ks
 | [],x,h=>by cases h
 | k::ks,x,h=>by
  simp only[Gr.cnts];rcases List.mem_cons.1 h with rfl | q
  ·omega
  ·have:=cnt_mem q;omega
end Sh
end Go.Proofs.Dm
set_option maxHeartbeats 8000000
set_option maxRecDepth 100000
namespace Go.Proofs.Dm
open Go Go.Proofs Go.Proofs.Tryz Go.Proofs.Dm.Sc
namespace Sh
attribute [local simp] encT encN encNs takes handsOn isTmp Op.operands Call.operands
theorem rows_len:(rowsS names).length=29:=rfl
theorem rows_get {i:Nat} {x:ByteArray} (h:names[i]? =some x):(rowsS names)[i]? =some [.str x]:=by
 simp only[rowsS,List.getElem?_map,h];rfl
theorem name_ok {W0 nb k}:DCalls ⟨Tryz.prog,W0,nb⟩ 49 [i64 k] [] (.p (.str (nameOf k))) []:=by
 refine dcalls_end Tryz.func49 rfl (by kernel_rfl) 17 Tryz.ntmps49 #[.tmp 2] rfl (Nat.le_of_ble_eq_true rfl) ?_;refine cwp_cut (fun s=>s.hp= []∧s.tm 0=i64 k) ?_ ?_
 ·simp
 rintro⟨tm,hp⟩ ⟨e0,e1⟩;simp only at e0 e1;subst e0;refine cwp_cut (fun s=>s.hp= []∧s.tm 0=i64 k∧s.tm 3= .own 9 1 (rowsS names)) ?_ ?_
 ·simp[e1,names,rowsS]
 rintro⟨tm,hp⟩ ⟨e0,e1,e3⟩;simp only at e0 e1 e3;subst e0;have hL:=rows_len;generalize hRN:rowsS names=RN at *;rcases Int.lt_or_le k 0 with h | h
 ·have e:nameOf k=⟨#[]⟩:=by unfold nameOf;rw[if_neg (by omega)]
  rw[e];simp[e1,e3,hL,h];exact .kk
 have h':¬k < 0:=by omega
 rcases Int.lt_or_le k 29 with g | g
 ·obtain⟨i,rfl⟩:=Int.eq_ofNat_of_zero_le h;have hi:i < 29:=by omega
  obtain⟨x,hx⟩:∃x,names[i]? =some x:=⟨_,List.getElem?_eq_getElem (by rw[names_len];exact hi)⟩
  have e:nameOf (i:Int)=x:=by unfold nameOf;rw[if_pos (by omega),Int.toNat_natCast,hx];rfl
  rw[e];have g1:=rows_get hx;rw[hRN]at g1;have hi':i < RN.length:=by omega
  have g2:RN[i]= [.str x]:=by
   have:=List.getElem?_eq_getElem hi';rw[g1]at this;injection this with this
   exact this.symm
  have g':¬(29:Int)≤(i:Int):=by omega
  simp[e1,e3,hL,h',g',hi,hi',g1,g2];exact .kk
 ·have e:nameOf k=⟨#[]⟩:=by
   unfold nameOf;rw[if_pos h,List.getElem?_eq_none (by rw[names_len];omega)];rfl
  rw[e];simp[e1,e3,hL,h',g];exact .kk
theorem names_ok {W0 nb k}:DCalls ⟨Tryz.prog,W0,nb⟩ 50 [i64 k] [] (.p (.bool (!bare k))) []:=by
 refine dcalls_end Tryz.func50 rfl (by kernel_rfl) 15 Tryz.ntmps50 #[.tmp 2] rfl (Nat.le_of_ble_eq_true rfl) ?_;simp;cases h0:k==1 with
 | true=>
  simp[bare,h0];exact .kk
 | false=>
  cases h1:k==10 with
  | true=>
   simp[bare,h0,h1];exact .kk
  | false=>
   cases h2:k==12 with
   | true=>
    simp[bare,h0,h1,h2];exact .kk
   | false=>
    cases h3:k==25 with
    | true=>
     simp[bare,h0,h1,h2,h3];exact .kk
    | false=>
     cases h4:k==26 with
     | true=>
      simp[bare,h0,h1,h2,h3,h4];exact .kk
     | false=>
      cases h5:k==14 with
      | true=>
       simp[bare,h0,h1,h2,h3,h4,h5];exact .kk
      | false=>
       cases h6:k==15 with
       | true=>
        simp[bare,h0,h1,h2,h3,h4,h5,h6];exact .kk
       | false=>
        cases h7:k==16 with
        | true=>
         simp[bare,h0,h1,h2,h3,h4,h5,h6,h7];exact .kk
        | false=>
         cases h8:k==17 with
         | true=>
          simp[bare,h0,h1,h2,h3,h4,h5,h6,h7,h8];exact .kk
         | false=>
          cases h9:k==18 with
          | true=>
           simp[bare,h0,h1,h2,h3,h4,h5,h6,h7,h8,h9];exact .kk
          | false=>
           simp[bare,h0,h1,h2,h3,h4,h5,h6,h7,h8,h9];exact .kk
end Sh
end Go.Proofs.Dm
set_option maxHeartbeats 8000000
set_option maxRecDepth 100000
namespace Go.Proofs.Dm
open Go Go.Proofs Go.Proofs.Tryz Go.Proofs.Dm.Sc
namespace Sh
attribute [local simp] encT encN encNs takes handsOn isTmp Op.operands Call.operands
theorem encNs_len:∀ks:List Nd,(encNs ks).length=ks.length
 | []=>rfl
 | k::ks=>by simp only[encNs,List.length_cons,encNs_len ks]
theorem encNs_get:∀(ks:List Nd) (i:Nat) (h:i < ks.length),(encNs ks)[i]? =some (encN ks[i])
 | [],i,h=>by simp at h
 | k::ks,0,h=>rfl
 | k::ks,i + 1,h=>by
  simp only[encNs,List.getElem?_cons_succ,List.getElem_cons_succ];exact encNs_get ks i (by simpa using h)
def teH (l:List Tok) (k t:Int) (ks:List Nd) (st:St):Prop:=st.hp= [[i64 k,i64 t,.p (.sl 3 (encNs ks))]]∧st.tm 1= .p (.sl 5 (l.map encT))∧st.tm 2= .ref 0 0∧st.tm 5= .p (.str (headS l k t))∧st.tm 36= .p (.sl 3 (encNs ks))∧st.tm 37=i64 (ks.length:Nat)∧st.tm 38=i64 0
def teI (l:List Tok) (k t:Int) (ks:List Nd) (R:ByteArray) (m:Nat) (st:St):Prop:=∃(i:Nat) (s:ByteArray),i≤ks.length∧m=ks.length - i∧kidsS l s (ks.drop i)=R∧st.hp= [[i64 k,i64 t,.p (.sl 3 (encNs ks))]]∧st.tm 1= .p (.sl 5 (l.map encT))∧st.tm 2= .ref 0 0∧st.tm 5= .p (.str s)∧st.tm 36= .p (.sl 3 (encNs ks))∧st.tm 37=i64 (ks.length:Nat)∧st.tm 38=i64 (i:Nat)
theorem text_step {W0 nb} {l:List Tok} {k t:Int} {ks:List Nd} (hl:l.length < 1099511627776) (hk:ks.length < 1099511627776) (hs:(shapeS l (.mk k t ks)).size < 1099511627776)
  (ih:∀x∈ks,DCalls ⟨Tryz.prog,W0,nb⟩ 26 [.agg ((encN x).map .p),.p (.sl 5 (l.map encT))] [] (.p (.str (shapeS l x))) []):
  DCalls ⟨Tryz.prog,W0,nb⟩ 26 [.agg ((encN (.mk k t ks)).map .p),.p (.sl 5 (l.map encT))] [] (.p (.str (shapeS l (.mk k t ks)))) []:=by
 have hL:=encNs_len ks;obtain⟨R,hR⟩:∃R,kidsS l (headS l k t) ks=R:=⟨_,rfl⟩
 have hsz:R.size + 1 < 1099511627776:=by
  rw[←hR];simpa only[shapeS,ByteArray.size_append,s3]using hs
 have hh:(headS l k t).size≤R.size:=by rw[←hR];exact kids_grow l _ ks
 have e:shapeS l (.mk k t ks)=R ++ ⟨#[41]⟩:=by rw[←hR];rfl
 rw[e];have hn:=nameOf_size k;have z1:¬(9223372036854775807:Int)<(((⟨#[40]⟩:ByteArray).size:Nat):Int)+((nameOf k).size:Int):=by rw[s1];omega
 have z2:¬(9223372036854775807:Int)<(((⟨#[40]⟩:ByteArray).size:Nat):Int)+((nameOf k).size:Int)+(((⟨#[32]⟩:ByteArray).size:Nat):Int):=by rw[s1,s2];omega
 refine dcalls_end Tryz.func26 rfl (by kernel_rfl) 51 Tryz.ntmps26 #[.tmp 4] rfl (Nat.le_of_ble_eq_true rfl) ?_;simp;refine CallGoal.same name_ok ?_;simp[z1];refine CallGoal.same names_ok ?_;apply join (J:=teH l k t ks)
 case main=>
  intro key;cases hb:bare k with
  | true=>
   have eh:headS l k t=⟨#[40]⟩ ++ nameOf k:=by unfold headS;rw[hb];rfl
   simp;exact key _ ⟨by simp,by simp,by simp,by simp[eh],by simp,by simp[hL],by simp⟩
  | false=>
   simp[z1,z2];rcases Int.lt_or_le t 0 with h0 | h0
   ·have eh:headS l k t=⟨#[40]⟩ ++ nameOf k ++ ⟨#[32]⟩:=by
     unfold headS tokT;rw[if_neg (by rw[hb];decide),if_neg (by omega)];apply ba_ext;simp
    have h0':¬0≤t:=by omega
    simp[h0'];exact key _ ⟨by simp,by simp,by simp,by simp[eh],by simp,by simp[hL],by simp⟩
   ·obtain⟨p,rfl⟩:=Int.eq_ofNat_of_zero_le h0;rcases Nat.lt_or_ge p l.length with h1 | h1
    ·have hg:l[p]? =some l[p]:=List.getElem?_eq_getElem h1;have eh:headS l k (p:Int)=⟨#[40]⟩ ++ nameOf k ++ ⟨#[32]⟩ ++ l[p].text:=by
      unfold headS tokT;rw[hb,if_pos h0,Int.toNat_natCast,hg];rfl
     have h2:(headS l k (p:Int)).size=1 +(nameOf k).size + 1 + l[p].text.size:=by rw[eh];simp only[ByteArray.size_append,s1,s2]
     have z3:¬(9223372036854775807:Int)<(((⟨#[40]⟩:ByteArray).size:Nat):Int)+((nameOf k).size:Int)+(((⟨#[32]⟩:ByteArray).size:Nat):Int)+(l[p].text.size:Int):=by rw[s1,s2];omega
     simp[h1,hg,z3];exact key _ ⟨by simp,by simp,by simp,by simp[eh],by simp,by simp[hL],by simp⟩
    ·have h1':¬p < l.length:=by omega
     have eh:headS l k (p:Int)=⟨#[40]⟩ ++ nameOf k ++ ⟨#[32]⟩:=by
      unfold headS tokT;rw[hb,if_pos h0,Int.toNat_natCast,List.getElem?_eq_none h1];apply ba_ext;simp
     simp[h1'];exact key _ ⟨by simp,by simp,by simp,by simp[eh],by simp,by simp[hL],by simp⟩
 case key=>
  rintro⟨tm,hp⟩ ⟨e0,e1,e2,e5,e6,e7,e8⟩;simp only at e0 e1 e2 e5 e6 e7 e8;subst e0;refine⟨teI l k t ks R,ks.length,.here ⟨0,headS l k t,by omega,by omega,by simpa using hR,by simp,by simp[e1],by simp[e2],by simp[e5],by simp[e6],by simp[e7],by simp[e8]⟩,?_⟩;clear e1 e2 e5 e6 e7 e8;rintro m ⟨tm,hp⟩ ⟨i,s,hi,rfl,hS,e0,e1,e2,e5,e6,e7,e8⟩;simp only at e0 e1 e2 e5 e6 e7 e8;subst e0;rcases Nat.lt_or_ge i ks.length with hlt | hge
  ·have hg:=encNs_get ks i hlt;have hlt':i <(encNs ks).length:=by omega
   have hg':(encNs ks)[i]=encN ks[i]:=by
    have:=List.getElem?_eq_getElem hlt';rw[hg]at this;injection this with this
    exact this.symm
   have hw:=w64_id (n:=(i:Int)+ 1) (by omega) (by omega);simp only[w64]at hw;have hd:ks.drop i=ks[i]::ks.drop (i + 1):=List.drop_eq_getElem_cons hlt;rw[hd,kidsS]at hS;have hgr:=kids_grow l (s ++(⟨#[32]⟩ ++ shapeS l ks[i])) (ks.drop (i + 1));rw[hS]at hgr;have c:=ih ks[i] (List.getElem_mem hlt);obtain⟨q,hq⟩:∃q,ks[i]=q:=⟨_,rfl⟩
   rw[hq]at c hg hg' hS hgr;obtain⟨X,hX⟩:∃X,shapeS l q=X:=⟨_,rfl⟩
   rw[hX]at c hS hgr;obtain⟨k1,t1,ks1⟩:=q;simp only[encN]at c hg hg';simp only[ByteArray.size_append]at hgr;have z4:¬(9223372036854775807:Int)<(((⟨#[32]⟩:ByteArray).size:Nat):Int)+(X.size:Int):=by omega
   have z5:¬(9223372036854775807:Int)<(s.size:Int)+((((⟨#[32]⟩:ByteArray).size:Nat):Int)+(X.size:Int)):=by omega
   simp[hlt,hlt',hg,hg',e1,e2,e5,e6,e7,e8];refine CallGoal.same (c) ?_
   try simp[e1,e2,e5,e6,e7,e8,z4,z5]
   try simp[z4,z5,hw,e1,e2,e5,e6,e7,e8]
   refine .drop (ks.length -(i + 1)) (by omega) 1 (by simp) (by simp) (by simp) ⟨i + 1,s ++(⟨#[32]⟩ ++ X),by omega,rfl,hS,?_⟩;simp[dropSt,dropD,e1,e2,e5,e6,e7,e8,hw]
  ·have hn2:¬i < ks.length:=by omega
   have hd:ks.drop i= []:=List.drop_eq_nil_of_le (by omega);rw[hd,kidsS]at hS;subst hS;have z6:¬(9223372036854775807:Int)<(s.size:Int)+(((⟨#[41]⟩:ByteArray).size:Nat):Int):=by rw[s3];omega
   simp[hn2,e5,e7,e8,z6];exact .kk
end Sh
end Go.Proofs.Dm
set_option maxHeartbeats 8000000
set_option maxRecDepth 100000
namespace Go.Proofs.Dm
open Go Go.Proofs Go.Proofs.Tryz Go.Proofs.Dm.Sc
namespace Pq
open Gr
attribute [local simp] encT encN encNs takes handsOn isTmp Op.operands Call.operands
def txt1:ByteArray:=⟨#[112,97,99,107,97,103,101,32,112,10,118,97,114,32,120,32,105,110,116,32,61,32,49,32,43,32,50,32,42,32,121,10]⟩
def txt2:ByteArray:=⟨#[112,97,99,107,97,103,101,32,112,10,118,97,114,32,120,32,61,32,49,10]⟩
def begB (r:Option (Nd×List Tok×Int)):Bool:=match r with
 | some (.mk k t [k0,.mk k1 v1 [y,.mk k2 v2 ks]],l,b)=>b== -1&&k==1&&k1==4&&k2==24&&decide (10 < l.length)
 | _=>false
def badAt (r:Option (Nd×List Tok×Int)) (n:Int):Bool:=match r with
 | some (_,_,b)=>b==n
 | _=>false
theorem beg1:begB (evalText txt1 40 60)=true:=by kernel_rfl
theorem beg2:badAt (evalText txt2 40 60) 16=true:=by kernel_rfl
theorem len1:(scanP txt1).1.length < 100000000:=of_decide_eq_true (by kernel_rfl)
theorem len2:(scanP txt2).1.length < 100000000:=of_decide_eq_true (by kernel_rfl)
theorem begun_ok {W0 nb} (h2:2≤nb) (hT:Lib.Utf8Tabs 0 1 W0):DCalls ⟨Tryz.prog,W0,nb⟩ 83 [] [] (.p (.bool true)) []:=by
 have b1:=beg1;have b2:=beg2;cases e1:evalText txt1 40 60 with
 | none=>rw[e1]at b1;cases b1
 | some r1=>
 cases e2:evalText txt2 40 60 with
 | none=>rw[e2]at b2;cases b2
 | some r2=>
 rw[e1]at b1;rw[e2]at b2;obtain⟨⟨m,mt,mk⟩,l2,n2⟩:=r2;obtain⟨nd,l,bd⟩:=r1;have c1:=text_eval (W0:=W0) (nb:=nb) h2 hT (by decide) (by decide) len1 e1;have c2:=text_eval (W0:=W0) (nb:=nb) h2 hT (by decide) (by decide) len2 e2;simp only[badAt,beq_iff_eq]at b2;subst b2;unfold begB at b1;split at b1
 rotate_left
 ·cases b1
 rename_i _ k t k0 k1 v1 y kk2 v2 ks l' b' heq;injection heq with heq
 simp only[Prod.mk.injEq]at heq;obtain⟨rfl,rfl,rfl⟩:=heq;simp only[Bool.and_eq_true,beq_iff_eq,decide_eq_true_eq]at b1;obtain⟨⟨⟨⟨rfl,rfl⟩,rfl⟩,rfl⟩,b5⟩:=b1;have b6:(10:Int)< l.length:=by omega
 simp only[txt1,txt2]at c1 c2;obtain⟨y0,y1,y2⟩:=y;obtain⟨z0,z1,z2⟩:=k0;simp at c1 c2;refine dcalls_end Tryz.func83 rfl (by kernel_rfl) 67 Tryz.ntmps83 #[.tmp 0] rfl (Nat.le_of_ble_eq_true rfl) ?_;simp;refine CallGoal.same c1 ?_;simp;refine CallGoal.same c2 ?_;simp (maxSteps:=3000000) [b6];exact .kk
end Pq
end Go.Proofs.Dm
set_option maxHeartbeats 8000000
set_option maxRecDepth 100000
namespace Go.Proofs.Dm
open Go Go.Proofs Go.Proofs.Tryz Go.Proofs.Dm.Sc
namespace Sh
open Gr
attribute [local simp] encT encN encNs takes handsOn isTmp Op.operands Call.operands
theorem len_cnts:∀ks:List Nd,ks.length≤cnts ks
 | []=>Nat.le_refl _
 | .mk k t x::ks=>by
  have:=len_cnts ks;simp only[List.length_cons,cnts,cnt];omega
theorem text_ok {W0 nb} {l:List Tok} {T B:Nat} (hT:∀t∈l,t.text.size≤T) (hl:l.length < 1099511627776) {nd:Nd} (hS:Small B nd) (hc:cnt nd *(T + 12)< 1099511627776):
  DCalls ⟨Tryz.prog,W0,nb⟩ 26 [.agg ((encN nd).map .p),.p (.sl 5 (l.map encT))] [] (.p (.str (shapeS l nd))) []:=by
 revert hc
 induction hS with
 | @mk k t ks h1 h2 ih=>
  intro hc;have h3:=shape_size hT (.mk k t ks);have h4:=len_cnts ks;have h5:cnts ks * 1≤cnts ks *(T + 12):=Nat.mul_le_mul_left _ (by omega);have h6:cnt (.mk k t ks)*(T + 12)=(T + 12)+ cnts ks *(T + 12):=by simp only[cnt,Nat.add_mul,Nat.one_mul]
  refine text_step hl (by omega) (by omega) fun x hx=>ih x hx ?_
  have h7:cnt x *(T + 12)≤cnts ks *(T + 12):=Nat.mul_le_mul_right _ (cnt_mem hx);omega
def ofP (s:ByteArray):ByteArray×Bool:=if decide (0≤(textP s).2.2)then(⟨#[]⟩,false)else(shapeS (textP s).2.1 (textP s).1,true)
theorem textP_cnt (s:ByteArray) (hs:s.size < 10000000):cnt (textP s).1≤2 *(s.size + 2)+ 1:=by
 unfold textP;split
 ·simp[cnt,cnts]
 ·rename_i hf;have hf':(scanP s).2.2 < 0:=by
   have:¬0≤(scanP s).2.2:=by simpa using hf
   omega
  obtain⟨hg,hk,hl⟩:=scan_good hs hf';have hfin:=answer_fin hg;cases ha:answer (scanP s).1 with
  | ok nd a'=>
   rw[ha]at hfin;have h1:=fileS_cnt ha;have h2:a' <(scanP s).1.length:=hfin.2;simp only;omega
  | bad k=>simp[cnt,cnts]
  | out=>simp[cnt,cnts]
theorem textP_tb (s:ByteArray):∀t∈(textP s).2.1,t.text.size≤s.size + 1:=by
 intro t ht;unfold textP at ht;split at ht
 ·cases ht
 ·split at ht
  ·exact(scan_tb t ht).2.2
  ·cases ht
  ·cases ht
theorem textP_ok {W0 nb} {s:ByteArray} (hs:s.size < 100000):DCalls ⟨Tryz.prog,W0,nb⟩ 26 [.agg ((encN (textP s).1).map .p),.p (.sl 5 ((textP s).2.1.map encT))] [] (.p (.str (shapeS (textP s).2.1 (textP s).1))) []:=by
 refine text_ok (textP_tb s) (by have:=textP_len s (by omega);omega) (textP_small s (by omega)) ?_;have h1:=textP_cnt s (by omega);have h2:cnt (textP s).1 *(s.size + 1 + 12)≤200005 * 100012:=Nat.mul_le_mul (by omega) (by omega);omega
theorem of_ok {W0 nb} {s:ByteArray} (h2:2≤nb) (hT:Lib.Utf8Tabs 0 1 W0) (hs:s.size < 100000):DCalls ⟨Tryz.prog,W0,nb⟩ 24 [.p (.str s)] [] (.tup [.p (.str (ofP s).1),.p (.bool (ofP s).2)]) []:=by
 have c1:=pText_ok (W0:=W0) (nb:=nb) h2 hT (s:=s) (by omega);have c2:=textP_ok (W0:=W0) (nb:=nb) hs;unfold ofP;obtain⟨R,hR⟩:∃R,textP s=R:=⟨_,rfl⟩
 rw[hR]at c1 c2⊢;obtain⟨⟨k,t,ks⟩,l,f⟩:=R;simp at c1 c2;refine dcalls_end Tryz.func24 rfl (by kernel_rfl) 18 Tryz.ntmps24 #[.tmp 2,.tmp 3] rfl (Nat.le_of_ble_eq_true rfl) ?_;simp;refine CallGoal.same c1 ?_;simp;cases g:decide (0≤f)with
 | true=>
  have g':0≤f:=by simpa using g
  simp[g'];exact .kk
 | false=>
  have g':¬0≤f:=by simpa using g
  simp[g'];refine CallGoal.same c2 ?_;simp;exact .kk
def sameP (a b:ByteArray):Bool:=(ofP a).2&&(ofP b).2&&((ofP a).1.toList==(ofP b).1.toList)
theorem same_ok {W0 nb} {a b:ByteArray} (h2:2≤nb) (hT:Lib.Utf8Tabs 0 1 W0) (ha:a.size < 100000) (hb:b.size < 100000):DCalls ⟨Tryz.prog,W0,nb⟩ 27 [.p (.str a),.p (.str b)] [] (.p (.bool (sameP a b))) []:=by
 have c1:=of_ok (W0:=W0) (nb:=nb) h2 hT ha;have c2:=of_ok (W0:=W0) (nb:=nb) h2 hT hb;unfold sameP;generalize ofP a=ra at *;generalize ofP b=rb at *;obtain⟨x,o⟩:=ra;obtain⟨y,p⟩:=rb;simp only at c1 c2⊢;refine dcalls_end Tryz.func27 rfl (by kernel_rfl) 28 Tryz.ntmps27 #[.tmp 4] rfl (Nat.le_of_ble_eq_true rfl) ?_;simp;refine CallGoal.same c1 ?_;simp;refine CallGoal.same c2 ?_;simp;cases o with
 | false=>
  simp;exact .kk
 | true=>
  cases p with
  | false=>
   simp;exact .kk
  | true=>
   simp;exact .kk
def b1:ByteArray:=⟨#[112,97,99,107,97,103,101,32,112,10,118,97,114,32,120,32,113,46,84,10]⟩
def b2:ByteArray:=⟨#[120]⟩
def b3:ByteArray:=⟨#[112,97,99,107,97,103,101,32,112]⟩
def b4:ByteArray:=⟨#[112,97,99,107,97,103,101,32,32,112,32,47,47,32,99,10]⟩
def b5:ByteArray:=⟨#[112,97,99,107,97,103,101,32,113]⟩
theorem beg1:((ofP b1).2&&((ofP b1).1.toList== [40,102,105,108,101,32,40,112,97,99,107,97,103,101,32,112,41,32,40,118,97,114,32,120,32,40,116,121,112,101,32,84,32,40,110,97,109,101,32,113,41,41,41,41]))=true:=by kernel_rfl
theorem beg2:(ofP b2).2=false:=by kernel_rfl
theorem beg3:sameP b3 b4=true:=by kernel_rfl
theorem beg4:sameP b3 b5=false:=by kernel_rfl
theorem begun_ok {W0 nb} (h2:2≤nb) (hT:Lib.Utf8Tabs 0 1 W0):DCalls ⟨Tryz.prog,W0,nb⟩ 21 [] [] (.p (.bool true)) []:=by
 have c1:=of_ok (W0:=W0) (nb:=nb) h2 hT (s:=b1) (by decide);have c2:=of_ok (W0:=W0) (nb:=nb) h2 hT (s:=b2) (by decide);have c3:=same_ok (W0:=W0) (nb:=nb) h2 hT (a:=b3) (b:=b4) (by decide) (by decide);have c4:=same_ok (W0:=W0) (nb:=nb) h2 hT (a:=b3) (b:=b5) (by decide) (by decide);have c5:DCalls ⟨Tryz.prog,W0,nb⟩ 44 [] [] (.p (.bool true)) []:=by
  refine dcalls_end Tryz.func44 rfl (by kernel_rfl) 2 Tryz.ntmps44 #[.tmp 0] rfl (Nat.le_of_ble_eq_true rfl) ?_;simp;refine CallGoal.same (Pq.begun_ok h2 hT) ?_;simp;exact .kk
 have e1:=beg1;have e2:=beg2;rw[beg3]at c3;rw[beg4]at c4;generalize ofP b1=r1 at *;generalize ofP b2=r2 at *;obtain⟨x,o⟩:=r1;obtain⟨y,p⟩:=r2;simp only[Bool.and_eq_true]at e1 e2;obtain⟨rfl,e1⟩:=e1;subst e2;simp only[b1,b2,b3,b4,b5]at c1 c2 c3 c4;refine dcalls_end Tryz.func21 rfl (by kernel_rfl) 32 Tryz.ntmps21 #[.tmp 0] rfl (Nat.le_of_ble_eq_true rfl) ?_;simp;refine CallGoal.same c1 ?_;simp;refine CallGoal.same c2 ?_;simp;refine CallGoal.same c5 ?_;simp[e1];refine CallGoal.same c3 ?_;simp[e1];refine CallGoal.same c4 ?_;simp;exact .kk
end Sh
end Go.Proofs.Dm
