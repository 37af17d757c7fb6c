/- Part of the proof: contracts of the functions, walked by the D-machine. No condition. -/
import Derived.Test.YtmlhdhpjcipcdaaGreatDoorFa
import Derived.Test.YtmlhdhpjcipcdaaGreatDoorFb
set_option linter.unusedSimpArgs false
set_option linter.unusedVariables false
set_option maxHeartbeats 8000000
set_option maxRecDepth 100000
namespace Go.Proofs.Dm
open Go Go.Proofs Go.Proofs.Tryz Go.Proofs.Dm.Sc
namespace Fo
attribute [local simp] encT takes handsOn isTmp Op.operands Call.operands
theorem drop_all (l cs:List UInt8):(l.dropWhile (cs.contains ·)= [])↔l.all (cs.contains ·)=true:=by
 induction l with
 | nil=>simp
 | cons b l ih=>
  simp only[List.dropWhile_cons,List.all_cons,Bool.and_eq_true];cases h:cs.contains b with
  | true=>simpa [h]using ih
  | false=>simp[h]
theorem takeWhile_all {α:Type} (p:α→Bool):∀l:List α,(l.takeWhile p).all p=true
 | []=>rfl
 | b::l=>by
  rw[List.takeWhile_cons];cases h:p b with
  | true=>simp only[if_true,List.all_cons,h,Bool.true_and];exact takeWhile_all p l
  | false=>rfl
theorem trimS_nil (l cs:List UInt8):(Lib.trimS l cs= [])↔l.all (cs.contains ·)=true:=by
 unfold Lib.trimS Lib.trimLeftS Lib.trimRightS;rw[drop_all];have h1:l.reverse=l.reverse.takeWhile (cs.contains ·)++ l.reverse.dropWhile (cs.contains ·):=(List.takeWhile_append_dropWhile).symm;have h2:l.all (cs.contains ·)=(l.reverse.takeWhile (cs.contains ·)++ l.reverse.dropWhile (cs.contains ·)).all (cs.contains ·):=by rw[←h1,List.all_reverse]
 rw[h2,List.all_append,List.all_reverse];have h3:(l.reverse.takeWhile (cs.contains ·)).all (cs.contains ·)=true:=takeWhile_all _ _;rw[h3,Bool.true_and]
theorem blank_trim (s:ByteArray):((trimB2 s).toList== [])=blank s:=by
 have h:=trimS_nil s.data.toList [32,9];have e:(trimB2 s).toList=Lib.trimS s.data.toList [32,9]:=by rw[Lib.toList_data];rfl
 rw[e];unfold blank;rw[Lib.toList_data];cases hb:(s.data.toList.all fun b=> [32,9].contains b)with
 | true=>rw[h.2 hb];rfl
 | false=>
  rw[beq_eq_false_iff_ne];intro q;rw[h.1 q]at hb;cases hb
def emI (l:List Tok) (src:List ByteArray) (x:LS) (a:DV) (j:Int) (e:Bool) (m:Nat) (st:St):Prop:=∃k:Nat,emptyN src m k=some e∧m=(j - k - 1).toNat∧k < 1000000000000∧st.hp= [lbox a l src x]∧st.tm 0= .ref 0 0∧st.tm 2=i64 j∧st.tm 7=i64 ((k:Int)+ 1)
theorem empty_ok {W0 nb l src x a e} {i j:Int} (hf:fresh a 2) (hsz:∀s∈src,s.size≤9223372036854775807) (hi:0≤i) (hi2:i < 1000000000) (hj:j < 1000000000) (h:emptyS src i j=some e):DCalls ⟨Tryz.prog,W0,nb⟩ 151 [.ref 0 0,i64 i,i64 j] [lbox a l src x] (.p (.bool e)) [lbox a l src x]:=by
 have hr:=fresh_refs hf;have hm:=fresh_map hf;have ho:=fresh_own hf;have hz:=fresh_fz hf;obtain⟨k0,rfl⟩:=Int.eq_ofNat_of_zero_le hi;have hw0:=w64_id (n:=(k0:Int)+ 1) (by omega) (by omega);simp only[w64]at hw0;refine dcalls_end Tryz.func151 rfl (by kernel_rfl) 25 Tryz.ntmps151 #[.tmp 6] rfl (Nat.le_of_ble_eq_true rfl) ?_;simp[hr,hm,ho,hz,hw0];refine⟨emI l src x a j e,(j - k0 - 1).toNat,.here ⟨k0,?_,rfl,by omega,by simp,by simp,by simp,by simp⟩,?_⟩
 ·unfold emptyS at h
  rwa [Int.toNat_natCast]at h
 rintro m ⟨tm,hp⟩ ⟨k,h1,rfl,hk,g0,g1,g2,g7⟩;simp only at g0 g1 g2 g7;subst g0;simp[g2,g7];rcases Int.lt_or_le ((k:Int)+ 1) j with hlt | hge
 ·obtain⟨m,hm2⟩:∃m,(j -(k:Int)- 1).toNat=m + 1:=⟨(j -(k:Int)- 1).toNat - 1,by omega⟩
  rw[hm2]at h1;unfold emptyN at h1;cases hs:src[k]? with
  | none=>rw[hs]at h1;cases h1
  | some s=>
   rw[hs]at h1;dsimp only at h1;have hg:(rowsS src)[k]? =some [.str s]:=by simp only[rowsS,List.getElem?_map,hs];rfl
   have hc:=trim2_ok (W0:=W0) (nb:=nb) (s:=s) (hsz s (List.mem_of_getElem? hs));have hw1:=w64_id (n:=(k:Int)+ 1 - 1) (by omega) (by omega);have hw2:=w64_id (n:=(k:Int)+ 1 + 1) (by omega) (by omega);simp only[w64]at hw1 hw2;have e1:(k:Int)+ 1 - 1=k:=by omega
   rw[e1]at hw1;simp[hlt,g1,g7,lbox,hw1,e1,hg,hr,hm,ho,hz];refine CallGoal.same hc ?_;have hb:=blank_trim s;cases hbl:blank s with
   | true=>
    rw[hbl]at hb h1;rw[if_pos rfl]at h1;injection h1 with h1;subst h1
    simp[hb];exact .keep (by simp[lbox,hr]) (.refl _) (by simp) (by simp[lbox,hr]) (by simp[lbox,hr]) (by simp[lbox,hr])
   | false=>
    rw[hbl]at hb h1;simp only[Bool.false_eq_true,if_false]at h1;simp[hb,g7,hw2];exact .same m (by omega) ⟨k + 1,h1,by omega,by omega,by simp[lbox],by simp[g1],by simp[g2],by simp[hw2]⟩
 ·have e0:(j -(k:Int)- 1).toNat=0:=by omega
  rw[e0]at h1;simp only[emptyN,Option.some.injEq]at h1;subst h1;have hn:¬(k:Int)+ 1 < j:=by omega
  simp[hn];exact .keep (by simp[lbox,hr]) (.refl _) (by simp) (by simp[lbox,hr]) (by simp[lbox,hr]) (by simp[lbox,hr])
end Fo
end Go.Proofs.Dm
set_option maxHeartbeats 8000000
set_option maxRecDepth 100000
namespace Go.Proofs.Dm
open Go Go.Proofs Go.Proofs.Tryz Go.Proofs.Dm.Sc
namespace Fo
attribute [local simp] encT takes handsOn isTmp Op.operands Call.operands
structure Fits (l:List Tok) (src:List ByteArray) (x:LS):Prop where
 len:l.length < 1000000000
 lines:∀s∈src,s.size≤9223372036854775807
 last:x.last < l.length
 line:x.line < 1000000000
 opn: -1000000000 < x.opn∧x.opn < 1000000000
 out:x.out.size≤1000000000000
def bJ (l:List Tok) (src:List ByteArray) (x:LS) (next:Int) (closes:Bool) (st:St):Prop:=∃a,fresh a 2∧st.hp= [lbox a l src x]∧st.tm 0= .ref 0 0∧st.tm 1=i64 next∧st.tm 3= .p (.bool closes)
def bK (l:List Tok) (src:List ByteArray) (x:LS) (next:Int) (closes:Bool) (k:Int) (st:St):Prop:=∃a rest,fresh a 2∧(rest= []∨∃t:Tok,rest= [(encT t).map .p])∧st.hp=lbox a l src x::rest∧st.tm 0= .ref 0 0∧st.tm 1=i64 next∧st.tm 3= .p (.bool closes)∧st.tm 8=i64 k
theorem nl_size:nlB.size=1:=rfl
theorem pad_size (n:Nat):(pad n).size=n:=by
 show(List.replicate n (9:UInt8)).toArray.size=n;simp
theorem begin_ok {W0 nb l src x a y} {next line:Int} {closes:Bool} (hf:fresh a 2) (hx:Fits l src x) (hl:line < 1000000000) (hn:next < 1000000000) (h:beginS l src x next line closes=some y):DCalls ⟨Tryz.prog,W0,nb⟩ 93 [.ref 0 0,i64 next,i64 line,.p (.bool closes)] [lbox a l src x] (.tup []) [lbox (.ref 0 2) l src y]:=by
 have hr:=fresh_refs hf;have hm:=fresh_map hf;have ho:=fresh_own hf;have hz:=fresh_fz hf;have hf2:fresh (.ref 0 2) 2:= .inr rfl;obtain⟨b1,b2,b3,b4,b5,b6⟩:=hx;have hn1:=nl_size;unfold beginS at h;cases hg:gapS l src x line closes with
 | none=>rw[hg]at h;cases h
 | some g=>
 cases hk:goesOn l next closes with
 | none=>rw[hg,hk]at h;cases h
 | some k=>
 rw[hg,hk]at h;dsimp only at h;split at h
 rotate_left
 ·cases h
 rename_i hop;injection h with h;subst h
 have hgs:g.size≤2:=by
  unfold gapS at hg;split at hg
  ·split at hg
   ·injection hg with hg;subst hg
    split
    ·show(nlB ++ nlB).size≤2;rw[ByteArray.size_append,hn1];omega
    ·rw[hn1];omega
   ·cases hg
  ·injection hg with hg;subst hg
   show(⟨#[]⟩:ByteArray).size≤2;exact Nat.zero_le _
 refine dcalls_end Tryz.func93 rfl (by kernel_rfl) 79 Tryz.ntmps93 #[] rfl (Nat.le_of_ble_eq_true rfl) ?_;refine cwp_cut (bJ l src {x with out:=x.out ++ g} next closes) ?_ ?_
 ·unfold gapS at hg;rcases Int.lt_or_le 0 x.line with h1 | h1
  ·rw[if_pos h1]at hg;cases he:emptyS src x.line line with
   | none=>rw[he]at hg;cases hg
   | some e=>
    rw[he]at hg;injection hg with hg
    have c1:=write_ok (W0:=W0) (nb:=nb) (l:=l) (src:=src) (x:=x) (s:=nlB) hf (by rw[hn1];omega);have c2:=empty_ok (W0:=W0) (nb:=nb) (l:=l) (src:=src) (x:={x with out:=x.out ++ nlB}) hf2 b2 (by omega) b4 hl he;have c3:=end_ok (W0:=W0) (nb:=nb) (l:=l) (src:=src) (x:={x with out:=x.out ++ nlB}) hf2 (by omega) b3;have c4:=fis_ok (W0:=W0) (nb:=nb) (t:=endT l x) (x:=⟨#[123]⟩);have c5:=write_ok (W0:=W0) (nb:=nb) (l:=l) (src:=src) (x:={x with out:=x.out ++ nlB}) (s:=nlB) hf2 (by simp only[ByteArray.size_append];rw[hn1];omega);have e1:endT l {x with out:=x.out ++ nlB}=endT l x:=rfl;have e2:(⟨#[123]⟩:ByteArray).toList= [123]:=by kernel_rfl
    rw[e1]at c3;rw[e2]at c4;generalize endT l x=t at *;have h1':(0:Int)< x.line:=h1;simp only[lbox]at c1 c2 c3 c5;simp only[nlB]at c1 c2 c3 c5 hg;simp[h1',hr,hm,ho,hz,lbox];refine CallGoal.same c1 ?_;simp;refine CallGoal.same c2 ?_;cases e with
    | false=>
     simp at hg;subst hg;simp;exact⟨_,hf2,by simp[lbox],by simp,by simp,by simp⟩
    | true=>
     simp;refine CallGoal.same c3 ?_;simp;refine CallGoal.same c4 ?_;cases hi:isO t [123]with
     | true=>
      simp[hi]at hg;subst hg;simp;exact⟨_,hf2,by simp[lbox],by simp,by simp,by simp⟩
     | false=>
      cases closes with
      | true=>
       simp[hi]at hg;subst hg;simp;exact⟨_,hf2,by simp[lbox],by simp,by simp,by simp⟩
      | false=>
       simp[hi]at hg;subst hg;simp;refine CallGoal.same c5 ?_;simp;exact⟨_,hf2,by simp[lbox,ByteArray.append_assoc],by simp,by simp,by simp⟩
  ·have h1':¬0 < x.line:=by omega
   rw[if_neg h1']at hg;injection hg with hg;subst hg
   have e:x.out ++(⟨#[]⟩:ByteArray)=x.out:=by apply ba_ext;simp
   simp[h1',hr,hm,ho,hz,lbox];exact⟨a,hf,by simp[lbox,e],by simp,by simp,by simp⟩
 ·clear hr hm ho hz hf;generalize hX:({x with out:=x.out ++ g}:LS)=X;have hXo:X.out=x.out ++ g:=by rw[←hX]
  have hXp:X.opn=x.opn:=by rw[←hX]
  rintro⟨tm,hp⟩ ⟨a,hf,g0,g1,g2,g3⟩;simp only at g0 g1 g2 g3;subst g0;have hr:=fresh_refs hf;have hm:=fresh_map hf;have ho:=fresh_own hf;have hz:=fresh_fz hf;refine cwp_cut (fun st=>bJ l src X next closes st∧st.tm 8=i64 x.opn) ?_ ?_
  ·simp[g1,lbox,hr,hm,ho,hz];exact⟨⟨a,hf,by simp[lbox],by simp[g1],by simp[g2],by simp[g3]⟩,by simp[hXp]⟩
  clear g1 g2 g3 hr hm ho hz hf;rintro⟨tm,hp⟩ ⟨⟨a,hf,g0,g1,g2,g3⟩,g8⟩;simp only at g0 g1 g2 g3 g8;subst g0;have hr:=fresh_refs hf;have hm:=fresh_map hf;have ho:=fresh_own hf;have hz:=fresh_fz hf;refine cwp_cut (bK l src X next closes (x.opn + k)) ?_ ?_
  ·unfold goesOn at hk;rcases Int.lt_or_le 0 next with h1 | h1
   rotate_left
   ·have h1':¬0 < next:=by omega
    have h1d:decide (0 < next)=false:=decide_eq_false h1';rw[h1d]at hk;injection hk with hk;subst hk
    simp[h1',g1,g2,g3,g8,lbox,hr,hm,ho,hz];exact⟨a,[],hf,.inl rfl,by simp[lbox],by simp[g1],by simp[g2],by simp[g3],by simp[g8]⟩
   have h1d:decide (0 < next)=true:=decide_eq_true h1;rw[h1d]at hk;cases closes with
   | true=>
    injection hk with hk;subst hk
    simp[h1,g1,g2,g3,g8,lbox,hr,hm,ho,hz];exact⟨a,[],hf,.inl rfl,by simp[lbox],by simp[g1],by simp[g2],by simp[g3],by simp[g8]⟩
   | false=>
    obtain⟨i,rfl⟩:∃i:Nat,next=(i:Int)+ 1:=⟨(next - 1).toNat,by omega⟩
    have e1:((i:Int)+ 1 - 1)=i:=by omega
    have hw:=w64_id (n:=(i:Int)) (by omega) (by omega);simp only[w64]at hw;simp only[e1,Int.toNat_natCast,Bool.not_false,Bool.and_true,if_true]at hk;cases ht:l[i]? with
    | none=>rw[ht]at hk;cases hk
    | some t=>
     rw[ht]at hk;injection hk with hk
     have c1:=fis_ok (W0:=W0) (nb:=nb) (t:=t) (x:=⟨#[123]⟩);have c2:=fis_ok (W0:=W0) (nb:=nb) (t:=t) (x:=⟨#[125]⟩);have e2:(⟨#[123]⟩:ByteArray).toList= [123]:=by kernel_rfl
     have e3:(⟨#[125]⟩:ByteArray).toList= [125]:=by kernel_rfl
     rw[e2]at c1;rw[e3]at c2;have hwo:=w64_id (n:=x.opn + 1) (by omega) (by omega);simp only[w64]at hwo;simp[h1,g1,g2,g3,g8,lbox,hr,hm,ho,hz,hw,e1,ht];cases h6:t.kind !=6 with
     | false=>
      simp[h6]at hk;subst hk;simp[g8];exact⟨a,_,hf,.inr ⟨t,rfl⟩,by simp[lbox],by simp[g1],by simp[g2],by simp[g3],by simp[g8]⟩
     | true=>
      simp;refine CallGoal.same c1 ?_;cases h7:isO t [123]with
      | true=>
       simp[h6,h7]at hk;subst hk;simp[g8];exact⟨a,_,hf,.inr ⟨t,rfl⟩,by simp[lbox],by simp[g1],by simp[g2],by simp[g3],by simp[g8]⟩
      | false=>
       simp;refine CallGoal.same c2 ?_;cases h8:isO t [125]with
       | true=>
        simp[h6,h7,h8]at hk;subst hk;simp[g8];exact⟨a,_,hf,.inr ⟨t,rfl⟩,by simp[lbox],by simp[g1],by simp[g2],by simp[g3],by simp[g8]⟩
       | false=>
        simp[h6,h7,h8]at hk;subst hk;simp[g8,hwo];exact⟨a,_,hf,.inr ⟨t,rfl⟩,by simp[lbox],by simp[g1],by simp[g2],by simp[g3],by simp[g8,hwo]⟩
  clear g1 g2 g3 g8 hr hm ho hz hf;rintro⟨tm,hp⟩ ⟨a,rest,hf,hrest,g0,g1,g2,g3,g8⟩;simp only at g0 g1 g2 g3 g8;subst g0;have hr:=fresh_refs hf;have hm:=fresh_map hf;have ho:=fresh_own hf;have hz:=fresh_fz hf;obtain⟨n,hn9⟩:=Int.eq_ofNat_of_zero_le hop.1;have hn64:n≤64:=by omega
  have ep:(x.opn + k).toNat=n:=by omega
  rw[hn9]at g8;rw[ep];have c1:=repeat_ok (W0:=W0) (nb:=nb) hn64;have hps:=pad_size n;have c2:=write_ok (W0:=W0) (nb:=nb) (l:=l) (src:=src) (x:=X) (s:=pad n) hf (by rw[hXo,ByteArray.size_append,hps];omega);simp only[lbox]at c2;rcases hrest with rfl | ⟨t,rfl⟩
  all_goals (
   simp[g1,lbox,hr,hm,ho,hz];refine drawWp.intro [] [4] mixed (by kernel_rfl) (by kernel_rfl) (by kernel_rfl) ?_;simp[g1,g8,lbox,hr,hm,ho,hz];refine CallGoal.same c1 ?_;simp[g1,g8,lbox,hr,hm,ho,hz];refine CallGoal.same c2 ?_;simp;refine⟨by simp,by simp,?_⟩;simp;subst hX;exact .keep (by simp[lbox,bytesR_append]) (.refl _) (by simp) (by simp[lbox,bytesR_append]) (by simp[lbox,bytesR_append]) (by simp[lbox,bytesR_append])
   )
end Fo
end Go.Proofs.Dm
