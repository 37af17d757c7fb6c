/- Part of the proof: contracts of the functions, walked by the D-machine. No condition. -/
import Derived.Test.YtmlhdhpjcipcdaaGreatDoorTa
import Derived.Test.YtmlhdhpjcipcdaaGreatDoorSd
set_option linter.unusedSimpArgs false
set_option linter.unusedVariables false
set_option maxHeartbeats 4000000
namespace Go.Proofs.Dm
open Go Go.Proofs Go.Proofs.Tryz
namespace Rs
open Sc
def rbox (s:ByteArray) (x:SS):List DV:= [.p (.str s),i64 x.at_,i64 x.line,.own 42 5 (x.l.map encT),.own 45 4 (x.c.map encC)]
attribute [local simp] rbox takes handsOn isTmp Op.operands Call.operands
theorem add_ok {W0 nb s x k e} (h1:x.at_≤e) (h2:e≤s.size) (h3:s.size < 1099511627776) (hl:x.l.length < 1000000000):DCalls ⟨Tryz.prog,W0,nb⟩ 103 [.ref 0 0,i64 k,i64 (e:Nat)] [rbox s x] (.tup []) [rbox s (add s k e x)]:=by
 have ha1:(x.l.length + 1)* 48≤140737488355328:=by omega
 have ha2:x.l.length≤9223372036854775806:=by omega
 refine dcalls_end Tryz.func103 rfl (by kernel_rfl) 39 Tryz.ntmps103 #[] rfl (Nat.le_of_ble_eq_true rfl) ?_;simp;refine drawWp.intro [(4,9),(4,13),(4,19),(9,19),(13,19),(4,23),(9,23),(13,23),(19,23)] [4,9,13,19,23,26] mixed (by kernel_rfl) (by kernel_rfl) (by kernel_rfl) ?_;simp[ha1,ha2,h1,h2];refine⟨by simp,by simp,?_⟩;simp[add];exact .keep (by simp[encT]) (.refl _) (by simp) (by simp[encT]) (by simp[encT]) (by simp[encT])
theorem semi_ok {W0 nb s x} (hl:x.l.length < 1000000000):DCalls ⟨Tryz.prog,W0,nb⟩ 67 [.ref 0 0] [rbox s x] (.tup []) [rbox s (semi x)]:=by
 refine dcalls_end Tryz.func67 rfl (by kernel_rfl) 41 Tryz.ntmps67 #[] rfl (Nat.le_of_ble_eq_true rfl) ?_;simp;refine drawWp.intro [] [14] mixed (by kernel_rfl) (by kernel_rfl) (by kernel_rfl) ?_;rcases List.eq_nil_or_concat x.l with h | ⟨l',t,h⟩
 ·have hs:semi x=x:=by simp[semi,h]
  rw[hs];simp[h];refine⟨by simp[h],by simp[h],?_⟩;simp[h];exact .keep (by simp[h]) (.refl _) (by simp) (by simp[h]) (by simp[h]) (by simp[h])
 ·rw[List.concat_eq_append]at h;obtain⟨a,li,l,c⟩:=x;simp only at h hl;subst h;have hw:=w64_id (n:=(l'.length:Int)) (by omega) (by simp at hl;omega);simp only[w64]at hw;simp[hw,encT];refine CallGoal.same (ends_ok (t:=t)) ?_;simp;refine⟨by simp[hw,encT],by simp[hw,encT],?_⟩;simp;cases he:ends t with
  | true=>
   have hs:semi ⟨a,li,l' ++ [t],c⟩=⟨a,li,(l' ++ [t])++ [⟨6,⟨#[59]⟩,a,li,true⟩],c⟩:=by simp[semi,he]
   rw[hs];have ha1:(l'.length + 1 + 1)* 48≤140737488355328:=by simp at hl;omega
   have ha2:l'.length + 1≤9223372036854775806:=by simp at hl;omega
   have ha3:l'.length≤9223372036854775805:=by omega
   simp;refine drawWp.intro [(4,8),(4,12),(8,12)] [4,8,12,15] mixed (by kernel_rfl) (by kernel_rfl) (by kernel_rfl) ?_;simp[ha1,ha2,ha3];refine⟨by simp,by simp,?_⟩;simp;exact .keep (by simp[encT]) (.refl _) (by simp) (by simp[encT]) (by simp[encT]) (by simp[encT])
  | false=>
   have hs:semi ⟨a,li,l' ++ [t],c⟩=⟨a,li,l' ++ [t],c⟩:=by simp[semi,he]
   rw[hs];simp;exact .keep (by simp[encT]) (.refl _) (by simp) (by simp[encT]) (by simp[encT]) (by simp[encT])
theorem to_ok {W0 nb s x} {i:Nat} {w:Bool} (h1:i≤s.size) (h3:s.size < 1099511627776):
  DCalls ⟨Tryz.prog,W0,nb⟩ 106 [.ref 0 0,i64 (i:Nat),.p (.bool w)] [rbox s x] (i64 (stop s (fun c=>digit c ||(w&&letter c)) i)) [rbox s x]:=by
 generalize hp:(fun c=>digit c ||(w&&letter c))=p;refine dcalls_end Tryz.func106 rfl (by kernel_rfl) 38 Tryz.ntmps106 #[.tmp 6] rfl (Nat.le_of_ble_eq_true rfl) ?_;simp;refine⟨fun m st=>∃j:Nat,stop s p j=stop s p i∧m=s.size - j∧j≤s.size∧st.hp= [rbox s x]∧st.tm 0= .ref 0 0∧st.tm 1=i64 (j:Nat)∧st.tm 2= .p (.bool w),s.size - i,.here ⟨i,rfl,rfl,h1,by simp,by simp,by simp,by simp⟩,?_⟩;rintro m ⟨tm,hp⟩ ⟨i,h,rfl,hi,h0,g0,g1,g2⟩;simp only at h0 g0 g1 g2;subst h0;rw[stop_eq]at h;simp[g0,g1,g2];rcases Nat.lt_or_ge i s.size with hlt | hge
 ·have hw:=w64_id (n:=(i:Int)+ 1) (by omega) (by omega);simp only[w64]at hw;have hb:s[i]? =some s[i]:=by simp[hlt]
  rw[hb]at h;simp only at h;simp[hlt,g0,g1,g2];refine CallGoal.same (digit_ok) ?_;simp;have hpe:p s[i]=(digit s[i] ||(w&&letter s[i])):=by rw[←hp]
  rw[hpe]at h;cases hd:digit s[i]with
  | true=>
   rw[hd,Bool.true_or,if_pos rfl]at h;simp[g0,g1,g2];exact .same (s.size -(i + 1)) (by omega) ⟨i + 1,h,rfl,by omega,by simp,by simp[g0],by simp[hw],by simp[g2]⟩
  | false=>
   rw[hd,Bool.false_or]at h;cases hww:w with
   | false=>
    simp only[hww,Bool.false_and,Bool.false_eq_true,if_false]at h;subst hww;simp[g0,g1,g2,←h];exact .keep (by simp[g1]) (.refl _) (by simp) (by simp[g1]) (by simp[g1]) (by simp[g1])
   | true=>
    simp only[hww,Bool.true_and]at h;subst hww;simp[hlt,g0,g1,g2];refine CallGoal.same (letter_ok) ?_;simp;cases hq:letter s[i]with
    | true=>
     rw[hq,if_pos rfl]at h;simp[g0,g1,g2];exact .same (s.size -(i + 1)) (by omega) ⟨i + 1,h,rfl,by omega,by simp,by simp[g0],by simp[hw],by simp[g2]⟩
    | false=>
     rw[hq]at h;simp only[Bool.false_eq_true,if_false]at h;simp[g0,g1,g2,←h];exact .keep (by simp[g1]) (.refl _) (by simp) (by simp[g1]) (by simp[g1]) (by simp[g1])
 ·have hb:s[i]? =none:=by simp[hge]
  rw[hb]at h;simp only at h;simp[show ¬i < s.size by omega,g0,g1,g2,←h];exact .keep (by simp[g1]) (.refl _) (by simp) (by simp[g1]) (by simp[g1]) (by simp[g1])
end Rs
end Go.Proofs.Dm
set_option maxHeartbeats 4000000
namespace Go.Proofs.Dm
open Go Go.Proofs Go.Proofs.Tryz
namespace Rs
open Sc
theorem slashes_get {s:ByteArray} {i:Nat}:slashes s i=(decide (s[i]? =some 47)&&decide (s[i + 1]? =some 47)):=by
 rw[ba_get,ba_get];have hs:=ba_size s;have e:(s.extract i (i + 2)).toList=(s.data.toList.drop i).take 2:=by
  rw[Lib.toList_data,ext_list,Nat.add_sub_cancel_left]
 simp only[slashes,e]
 by_cases h:i + 2≤s.size
 ·have h1:i < s.data.toList.length:=by omega
  have h2:i + 1 < s.data.toList.length:=by omega
  rw[List.drop_eq_getElem_cons h1,List.drop_eq_getElem_cons h2,List.getElem?_eq_getElem h1,List.getElem?_eq_getElem h2];simp only[h,decide_true,Bool.true_and,List.take_succ_cons,List.take_zero,Option.some.injEq];generalize s.data.toList[i]=a;generalize s.data.toList[i + 1]=b;rw[Bool.eq_iff_iff];simp
 ·have:s.data.toList[i + 1]? =none:=by simp;omega
  simp[h,this]
theorem opR_slash {s x} (h:s[x.at_]? =some 47):∀n,n≤2→opR s x n=none
 | 0,_=>rfl
 | n + 1,hn=>by
  obtain⟨hlt,hd⟩:=drop_next s h;have e:(s.extract x.at_ (x.at_ +(n + 1))).toList=47::(s.data.toList.drop (x.at_ + 1)).take n:=by
   rw[Lib.toList_data,ext_list,hd,Nat.add_sub_cancel_left];rfl
  have hf:isIn ops (s.extract x.at_ (x.at_ +(n + 1)))=false:=by
   simp[isIn,ops,eqB,e]
  simp only[opR,hf,Bool.and_false,Bool.false_eq_true,if_false];exact opR_slash h n (by omega)
attribute [local simp] rbox takes handsOn isTmp Op.operands Call.operands
theorem comment_ok {W0 nb s x} (hg:s[x.at_]? =some 47) (h3:s.size < 1099511627776) (hl:x.l.length < 100000000) (hc:x.c.length < 100000000):DCalls ⟨Tryz.prog,W0,nb⟩ 104 [.ref 0 0] [rbox s x] (.p (.bool (slashes s x.at_))) [rbox s (if slashes s x.at_ then note s x else x)]:=by
 obtain⟨h1,hd⟩:=drop_next s hg;have hw1:=w64_id (n:=(x.at_:Int)+ 1) (by omega) (by omega);simp only[w64]at hw1;rw[slashes_get,decide_eq_true hg,Bool.true_and];have hlen:=semi_len x;refine dcalls_end Tryz.func104 rfl (by kernel_rfl) 89 Tryz.ntmps104 #[.tmp 2] rfl (Nat.le_of_ble_eq_true rfl) ?_;simp;refine drawWp.intro [] [8,19] mixed (by kernel_rfl) (by kernel_rfl) (by kernel_rfl) ?_;have tn:((x.at_:Int)+ 1).toNat=x.at_ + 1:=by omega
 rcases Nat.lt_or_ge (x.at_ + 1) s.size with q | q
 ·have q1:¬(s.size:Int)≤(x.at_:Int)+ 1:=by omega
  have q2:(0:Int)≤(x.at_:Int)+ 1:=by omega
  have hb:s[x.at_ + 1]? =some s[x.at_ + 1]:=by simp
  rw[hb];simp[hw1,q1,q2,tn,q];generalize s[x.at_ + 1]=d at *;refine⟨by simp[hw1,q1,q2],by simp[hw1,q1,q2],?_⟩;simp
  by_cases hd47:d=47
  ·subst hd47;simp;refine CallGoal.same (semi_ok (by omega)) ?_;simp;refine LoopGoal.cut (fun st=>st.hp= [rbox s (semi x)]∧st.tm 0= .ref 0 0∧st.tm 3=i64 (eol s x.at_:Nat)) ?_ ?_
   ·refine⟨fun m st=>∃j:Nat,eol s j=eol s x.at_∧m=s.size - j∧j≤s.size∧st.hp= [rbox s (semi x)]∧st.tm 0= .ref 0 0∧st.tm 3=i64 (j:Nat),s.size - x.at_,.here ⟨x.at_,rfl,rfl,by omega,by simp,by simp,by simp⟩,?_⟩;rintro m ⟨tm,hp⟩ ⟨i,h,rfl,hi,h0,g0,g3⟩;simp only at h0 g0 g3;subst h0;rw[eol,stop_eq]at h;rcases Nat.lt_or_ge i s.size with hlt | hge
    ·have hw:=w64_id (n:=(i:Int)+ 1) (by omega) (by omega);simp only[w64]at hw;have hb:s[i]? =some s[i]:=by simp[hlt]
     rw[hb]at h;simp only at h;simp[hlt,g0,g3]
     by_cases hq:s[i]=10
     ·simp[hq]at h;simp[hq,g0,g3,←h]
     ·rw[if_pos (by simpa using hq)]at h;have hq':¬s[i].toNat=10:=by
       intro e;apply hq;exact UInt8.toNat_inj.1 e
      have hq2:((s[i].toNat:Int) !=10)=true:=by simp;omega
      simp[hq2,g0,g3];exact .same (s.size -(i + 1)) (by omega) ⟨i + 1,h,rfl,by omega,by simp,by simp[g0],by simp[hw]⟩
    ·have hb:s[i]? =none:=by simp[hge]
     rw[hb]at h;simp only at h;simp[show ¬i < s.size by omega,g0,g3,←h]
   ·rintro⟨tm,hp⟩ ⟨h0,g0,g3⟩;simp only at h0 g0 g3;subst h0;have hle:=stop_le s (fun b=>b !=10) x.at_ (Nat.le_of_lt h1);rw[show stop s (fun b=>b !=10) x.at_=eol s x.at_ from rfl]at hle;have hw4:=w64_id (n:=((semi x).l.length:Int)) (by omega) (by omega);simp only[w64]at hw4;have ha1:(x.c.length + 1)* 40≤140737488355328:=by omega
    have ha2:x.c.length≤9223372036854775806:=by omega
    simp[g0,g3];refine drawWp.intro [(4,8),(4,12),(4,18),(8,18),(12,18),(4,22),(8,22),(12,22),(18,22),(4,26),(18,26),(22,26)] [4,8,12,18,22,26,30] mixed (by kernel_rfl) (by kernel_rfl) (by kernel_rfl) ?_;simp[g0,g3,ha1,ha2,hw4,hle.1,hle.2];refine⟨by simp,by simp,?_⟩;simp[note,g0,g3];exact .keep (by simp[encC]) (.refl _) (by simp) (by simp[encC]) (by simp[encC]) (by simp[encC])
  ·have hq':¬d.toNat=47:=by
    intro e;apply hd47;exact UInt8.toNat_inj.1 e
   have hq2:((d.toNat:Int) !=47)=true:=by simp;omega
   simp[hq2,hd47];exact .kk
 ·have q1:(s.size:Int)≤(x.at_:Int)+ 1:=by omega
  have hb:s[x.at_ + 1]? =none:=by simp;omega
  rw[hb];simp[hw1,q1];refine⟨by simp[hw1,q1],by simp[hw1,q1],?_⟩;simp;exact .kk
end Rs
end Go.Proofs.Dm
set_option maxHeartbeats 8000000
namespace Go.Proofs.Dm
open Go Go.Proofs Go.Proofs.Tryz
namespace Rs
open Sc
theorem not_slash {s:ByteArray} {i:Nat} {c:UInt8} (hg:s[i]? =some c) (h:c≠47):slashes s i=false:=by
 rw[slashes_get,hg];simp[h]
theorem ld {c:UInt8} (h:digit c=true):letter c=false:=by
 simp only[digit,Bool.and_eq_true,decide_eq_true_eq]at h;simp only[letter,Bool.or_eq_false_iff,Bool.and_eq_false_iff,decide_eq_false_iff_not,beq_eq_false_iff_ne];omega
theorem u8_ne {c:UInt8} {k:Nat} (hk:k < 256):((c.toNat:Int)==(k:Int))=decide (c=UInt8.ofNat k):=by
 rw[Bool.eq_iff_iff];simp only[beq_iff_eq,decide_eq_true_eq];constructor
 ·intro h;apply UInt8.toNat_inj.1;simp;omega
 ·rintro rfl;simp;omega
theorem runTo_end (s:ByteArray) (p:UInt8→Bool):∀n i,n=s.size - i→∀b,s[runTo s p n i]? =some b→p b=false
 | 0,i,h,b,hb=>by
  have:s.size≤i:=by omega
  simp[runTo,this]at hb
 | n + 1,i,h,b,hb=>by
  simp only[runTo]at hb;have hlt:i < s.size:=by omega
  have hg:s[i]? =some s[i]:=by simp
  rw[hg]at hb;simp only at hb;split at hb
  ·exact runTo_end s p n (i + 1) (by omega) b hb
  ·rename_i hp;rw[hg]at hb;cases hb;simpa using hp
theorem stop_end (s:ByteArray) (p:UInt8→Bool) (i:Nat):∀b,s[stop s p i]? =some b→p b=false:=runTo_end s p _ i rfl
theorem step_ref (s:ByteArray) (x:SS) {c:UInt8} (hg:s[x.at_]? =some c):Sc.step s x=
  (if(c.toNat:Int)==32 ||(c.toNat:Int)==9 then some {x with at_:=x.at_ + 1}
  else if(c.toNat:Int)==10 then some {semi x with at_:=x.at_ + 1,line:=x.line + 1}
  else if(c.toNat:Int)==59 then some (add s 6 (x.at_ + 1) x)
  else if(c.toNat:Int)==47 then(if slashes s x.at_ then some (note s x)else none)
  else if(c.toNat:Int)==34 then textS s x
  else if digit c then numS s x (stop s digit x.at_)
  else if letter c then nameS s x (stop s wordB x.at_)
  else opR s x 2):=by
 have e10:=u8_ne (c:=c) (k:=10) (by decide);have e32:=u8_ne (c:=c) (k:=32) (by decide);have e9:=u8_ne (c:=c) (k:=9) (by decide);have e59:=u8_ne (c:=c) (k:=59) (by decide);have e47:=u8_ne (c:=c) (k:=47) (by decide);have e34:=u8_ne (c:=c) (k:=34) (by decide);simp only[Sc.step,hg];rw[show((c.toNat:Int)==10)=_ from e10,show((c.toNat:Int)==32)=_ from e32,show((c.toNat:Int)==9)=_ from e9,show((c.toNat:Int)==59)=_ from e59,show((c.toNat:Int)==47)=_ from e47,show((c.toNat:Int)==34)=_ from e34]
 by_cases h:c=UInt8.ofNat 10
 ·subst h;rfl
 by_cases h1:c=UInt8.ofNat 32
 ·subst h1;rfl
 by_cases h2:c=UInt8.ofNat 9
 ·subst h2;rfl
 by_cases h3:c=UInt8.ofNat 47
 ·subst h3;have hop:=opR_slash (s:=s) (x:=x) hg 2 (by decide);rw[hop];cases slashes s x.at_ <;> rfl
 rw[not_slash hg (by simpa using h3)]
 by_cases h4:c=UInt8.ofNat 59
 ·subst h4;rfl
 by_cases h5:c=UInt8.ofNat 34
 ·subst h5;rfl
 simp only[h,h1,h2,h3,h4,h5,decide_false,Bool.or_self,Bool.false_eq_true,if_false];cases hd:digit c with
 | true=>rw[ld hd];simp
 | false=>simp
attribute [local simp] rbox takes handsOn isTmp Op.operands Call.operands
theorem one_ok {W0 nb s x} (h1:x.at_ < s.size) (h3:s.size < 1099511627776) (hli:0≤x.line∧x.line < 1099511627776) (hl:x.l.length < 100000000) (hc:x.c.length < 100000000):DCalls ⟨Tryz.prog,W0,nb⟩ 66 [.ref 0 0] [rbox s x] (.p (.bool (Sc.step s x).isSome)) [rbox s ((Sc.step s x).getD x)]:=by
 have hg:s[x.at_]? =some s[x.at_]:=by simp
 have hw1:=w64_id (n:=(x.at_:Int)+ 1) (by omega) (by omega);have hw2:=w64_id (n:=x.line + 1) (by omega) (by omega);simp only[w64]at hw1 hw2;have hge:(0:Int)≤(x.at_:Int):=by omega
 obtain⟨R,hR⟩:∃R,Sc.step s x=R:=⟨_,rfl⟩
 rw[hR];have hle34:s[x.at_]=34→x.at_ + 1≤s.size:=fun _=>h1
 rw[step_ref s x hg]at hR;have hcc:s[x.at_]? =some s[x.at_]:=hg;refine dcalls_end Tryz.func66 rfl (by kernel_rfl) 244 Tryz.ntmps66 #[.tmp 2] rfl (Nat.le_of_ble_eq_true rfl) ?_;simp;refine drawWp.intro [] [7] mixed (by kernel_rfl) (by kernel_rfl) (by kernel_rfl) ?_;simp[h1,hge];refine⟨by simp,by simp,?_⟩;simp;generalize s[x.at_]=c at *;cases q1:((c.toNat:Int)==32 ||(c.toNat:Int)==9)with
 | true=>
  rw[q1,if_pos rfl]at hR;subst hR;cases q3:(c.toNat:Int)==32 <;> simp[q3]at q1 <;> simp[q3,q1,hw1]
  all_goals exact .keep (by simp[q3,q1,hw1]) (.refl _) (by simp) (by simp[q3,q1,hw1]) (by simp) (by simp)
 | false=>
 rw[q1]at hR;simp only[Bool.false_eq_true,if_false]at hR;simp only[Bool.or_eq_false_iff]at q1;simp[q1.1,q1.2];refine ifGoal_of (fun q2=> ?_) (fun q2=> ?_)
 ·rw[q2,if_pos rfl]at hR;subst hR;simp;refine CallGoal.same (semi_ok (by omega)) ?_;simp[hw1,hw2];exact .kk
 rw[q2]at hR;simp only[Bool.false_eq_true,if_false]at hR;simp;refine ifGoal_of (fun q3=> ?_) (fun q3=> ?_)
 ·rw[q3,if_pos rfl]at hR;subst hR;have hp:=add_ok (W0:=W0) (nb:=nb) (s:=s) (x:=x) (k:=6) (e:=x.at_ + 1) (by omega) (by omega) h3 (by omega);simp[hw1];refine CallGoal.same hp ?_;simp;exact .kk
 rw[q3]at hR;simp only[Bool.false_eq_true,if_false]at hR;simp;refine ifGoal_of (fun q4=> ?_) (fun q4=> ?_)
 ·rw[q4,if_pos rfl]at hR;have hc47:c=47:=by
   have:=beq_iff_eq.1 q4;exact UInt8.toNat_inj.1 (by simp;omega)
  subst hc47;simp;refine CallGoal.same (comment_ok (x:=x) hg h3 (by omega) (by omega)) ?_;subst hR;cases slashes s x.at_ <;> simp
  all_goals exact .kk
 rw[q4]at hR;simp only[Bool.false_eq_true,if_false]at hR;simp;refine ifGoal_of (fun q5=> ?_) (fun q5=> ?_)
 ·rw[q5,if_pos rfl]at hR;have hc34:c=34:=by
   have:=beq_iff_eq.1 q5;exact UInt8.toNat_inj.1 (by simp;omega)
  subst hc34;simp[hw1];refine LoopGoal.cut (fun st=>st.hp= [rbox s x]∧st.tm 0= .ref 0 0∧st.tm 4=i64 (textE s x.at_:Nat)) ?_ ?_
  ·refine⟨fun m st=>∃j:Nat,stop s (fun b=>b !=34&&b !=10) j=textE s x.at_∧m=s.size - j∧j≤s.size∧st.hp= [rbox s x]∧st.tm 0= .ref 0 0∧st.tm 4=i64 (j:Nat),s.size -(x.at_ + 1),.here ⟨x.at_ + 1,rfl,rfl,by omega,by simp,by simp,by simp⟩,?_⟩;rintro m ⟨tm,hp⟩ ⟨i,h,rfl,hi,h0,g0,g3⟩;simp only at h0 g0 g3;subst h0;rw[stop_eq]at h;rcases Nat.lt_or_ge i s.size with hlt | hge
   ·have hw:=w64_id (n:=(i:Int)+ 1) (by omega) (by omega);simp only[w64]at hw;have hb:s[i]? =some s[i]:=by simp[hlt]
    rw[hb]at h;simp only at h;simp[hlt,g0,g3];generalize hgi:s[i]=b at *;have e1:((b.toNat:Int) !=34)=(b !=34):=by
     have:=u8_ne (c:=b) (k:=34) (by decide);rw[bne,show((b.toNat:Int)==34)=_ from this];rw[Bool.eq_iff_iff];simp
    have e2:((b.toNat:Int) !=10)=(b !=10):=by
     have:=u8_ne (c:=b) (k:=10) (by decide);rw[bne,show((b.toNat:Int)==10)=_ from this];rw[Bool.eq_iff_iff];simp
    rw[e1];cases q34:b !=34 with
    | false=>
     rw[q34,Bool.false_and]at h;simp only[Bool.false_eq_true,if_false]at h;simp[g0,g3,←h]
    | true=>
     simp[hlt,g0,g3,hb,hgi];rw[e2];cases q10:b !=10 with
     | false=>
      rw[q10,Bool.and_false]at h;simp only[Bool.false_eq_true,if_false]at h;simp[g0,g3,←h]
     | true=>
      rw[q34,q10,Bool.and_self,if_pos rfl]at h;simp[g0,g3];exact .same (s.size -(i + 1)) (by omega) ⟨i + 1,h,rfl,by omega,by simp,by simp[g0],by simp[hw]⟩
   ·have hb:s[i]? =none:=by simp[hge]
    rw[hb]at h;simp only at h;simp[show ¬i < s.size by omega,g0,g3,←h]
  ·rintro⟨tm,hp⟩ ⟨h0,g0,g3⟩;simp only at h0 g0 g3;subst h0;have hle:=stop_le s (fun b=>b !=34&&b !=10) (x.at_ + 1) (by omega);rw[show stop s (fun b=>b !=34&&b !=10) (x.at_ + 1)=textE s x.at_ from rfl]at hle;have hend:=stop_end s (fun b=>b !=34&&b !=10) (x.at_ + 1);rw[show stop s (fun b=>b !=34&&b !=10) (x.at_ + 1)=textE s x.at_ from rfl]at hend;simp only[textS]at hR;generalize hE:textE s x.at_=e at *;have hw:=w64_id (n:=(e:Int)+ 1) (by omega) (by omega);simp only[w64]at hw;rcases Nat.lt_or_ge e s.size with hlt | hge
   ·have hb:s[e]? =some s[e]:=by simp[hlt]
    have hne:((e:Int)==s.size)=false:=beq_eq_false_iff_ne.2 (by omega);simp[hlt,g0,g3,hne];rw[hb]at hR hend;generalize s[e]=b at *;have hq:=hend b rfl;have e2:((b.toNat:Int)==10)=(b==10):=by
     have:=u8_ne (c:=b) (k:=10) (by decide);rw[show((b.toNat:Int)==10)=_ from this];rw[Bool.eq_iff_iff];simp
    rw[e2]
    by_cases q10:b=10
    ·subst q10;rw[if_neg (by simp)]at hR;subst hR;simp;exact .kk
    ·have hb34:b=34:=by simpa [q10]using hq
     subst hb34;rw[if_pos rfl]at hR;subst hR;simp[g0,g3,hw];have hp:=add_ok (W0:=W0) (nb:=nb) (s:=s) (x:=x) (k:=3) (e:=e + 1) (by omega) (by omega) h3 (by omega);simp at hp;refine CallGoal.same hp ?_;simp;exact .kk
   ·have he:e=s.size:=by omega
    have hb:s[e]? =none:=by simp[hge]
    rw[hb,if_neg (by simp)]at hR;subst hR;simp[g0,g3,he];exact .kk
 rw[q5]at hR;simp only[Bool.false_eq_true,if_false]at hR;simp;refine CallGoal.same digit_ok ?_;simp;refine ifGoal_of (fun q6=> ?_) (fun q6=> ?_)
 ·rw[q6,if_pos rfl]at hR;simp;have ht:=to_ok (W0:=W0) (nb:=nb) (s:=s) (x:=x) (i:=x.at_) (w:=false) (by omega) h3;simp only[Bool.false_and,Bool.or_false]at ht;simp only[show(fun c=>digit c)=digit from rfl]at ht;have hle:=stop_le s digit x.at_ (Nat.le_of_lt h1);simp only[numS,hg]at hR;generalize hE:stop s digit x.at_=e at *;refine CallGoal.same ht ?_;have hw:=w64_id (n:=(e:Int)- x.at_) (by omega) (by omega);simp only[w64]at hw;simp[hw];have hadd:=add_ok (W0:=W0) (nb:=nb) (s:=s) (x:=x) (k:=2) (e:=e) (by omega) (by omega) h3 (by omega)
  by_cases p12:12 < e - x.at_
  ·have p12':(12:Int)<(e:Int)- x.at_:=by omega
   simp only[p12,decide_true,Bool.true_or,if_true]at hR;subst hR;simp[p12'];exact .kk
  have p12':¬(12:Int)<(e:Int)- x.at_:=by omega
  simp only[p12,decide_false,Bool.false_or]at hR;have rest:∀tm:Nat→DV,True:=fun _=>trivial
  by_cases p1:1 < e - x.at_
  ·have p1':(1:Int)<(e:Int)- x.at_:=by omega
   simp[p12',p1',hw];cases p48:((c.toNat:Int)==48)with
   | true=>
    simp only[p1,p48,decide_true,Bool.and_self,Option.any_some,Bool.true_or,if_true]at hR;subst hR;simp;exact .kk
   | false=>
    simp only[p48,Bool.and_false,Option.any_some,Bool.false_or]at hR;rcases Nat.lt_or_ge e s.size with hlt | hge
    ·have hb:s[e]? =some s[e]:=by simp[hlt]
     rw[hb]at hR;simp only[Option.any_some]at hR;simp[hlt];refine CallGoal.same letter_ok ?_;simp;cases hq:letter s[e]with
     | true=>
      simp only[hq,if_true]at hR;subst hR;simp;exact .kk
     | false=>
      simp only[hq,Bool.false_eq_true,if_false]at hR;subst hR;simp;refine CallGoal.same hadd ?_;simp;exact .kk
    ·have hb:s[e]? =none:=by simp[hge]
     rw[hb]at hR;simp only[Option.any_none,Bool.false_eq_true,if_false]at hR;subst hR;simp[show ¬e < s.size by omega];refine CallGoal.same hadd ?_;simp;exact .kk
  ·have p1':¬(1:Int)<(e:Int)- x.at_:=by omega
   simp only[p1,decide_false,Bool.false_and,Bool.false_or]at hR;simp[p12',p1',hw];rcases Nat.lt_or_ge e s.size with hlt | hge
   ·have hb:s[e]? =some s[e]:=by simp[hlt]
    rw[hb]at hR;simp only[Option.any_some]at hR;simp[hlt];refine CallGoal.same letter_ok ?_;simp;cases hq:letter s[e]with
    | true=>
     simp only[hq,if_true]at hR;subst hR;simp;exact .kk
    | false=>
     simp only[hq,Bool.false_eq_true,if_false]at hR;subst hR;simp;refine CallGoal.same hadd ?_;simp;exact .kk
   ·have hb:s[e]? =none:=by simp[hge]
    rw[hb]at hR;simp only[Option.any_none,Bool.false_eq_true,if_false]at hR;subst hR;simp[show ¬e < s.size by omega];refine CallGoal.same hadd ?_;simp;exact .kk
 rw[q6]at hR;simp only[Bool.false_eq_true,if_false]at hR;simp;refine CallGoal.same letter_ok ?_;simp;refine ifGoal_of (fun q7=> ?_) (fun q7=> ?_)
 ·rw[q7,if_pos rfl]at hR;simp;have ht:=to_ok (W0:=W0) (nb:=nb) (s:=s) (x:=x) (i:=x.at_) (w:=true) (by omega) h3;simp only[Bool.true_and]at ht;rw[show(fun c=>digit c || letter c)=wordB from by funext c;exact Bool.or_comm _ _]at ht;have hle:=stop_le s wordB x.at_ (Nat.le_of_lt h1);simp only[nameS]at hR;generalize hE:stop s wordB x.at_=e at *;refine CallGoal.same ht ?_;have hw:=w64_id (n:=(e:Int)- x.at_) (by omega) (by omega);simp only[w64]at hw;simp[hw]
  by_cases p:24 < e - x.at_
  ·have p':(24:Int)<(e:Int)- x.at_:=by omega
   rw[if_pos p]at hR;subst hR;simp[p'];exact .kk
  ·have p':¬(24:Int)<(e:Int)- x.at_:=by omega
   rw[if_neg p]at hR;subst hR;simp[p'];refine drawWp.intro [] [7] mixed (by kernel_rfl) (by kernel_rfl) (by kernel_rfl) ?_;simp[hle.1,hle.2];refine CallGoal.same key_ok ?_;simp;refine⟨by simp,by simp,?_⟩;simp;cases hk:isIn keys (s.extract x.at_ e)with
   | true=>
    simp;refine CallGoal.same (add_ok (x:=x) (k:=5) hle.1 hle.2 h3 (by omega)) ?_;simp;exact .kk
   | false=>
    simp;refine CallGoal.same (add_ok (x:=x) (k:=1) hle.1 hle.2 h3 (by omega)) ?_;simp;exact .kk
 rw[q7]at hR;simp only[Bool.false_eq_true,if_false]at hR;simp;refine⟨fun n st=>n≤2∧opR s x n=R∧st.hp= [rbox s x]∧st.tm 0= .ref 0 0∧st.tm 8=i64 (n:Nat),2,.here ⟨by omega,hR,by simp,by simp,by simp⟩,?_⟩;rintro n ⟨tm,hp⟩ ⟨hn,h,h0,g0,g8⟩;simp only at h0 g0 g8;subst h0;cases n with
 | zero=>
  simp[g0,g8];rw[←h];simp[opR];exact .kk
 | succ n=>
  have hw1:=w64_id (n:=(x.at_:Int)+((n:Int)+ 1)) (by omega) (by omega);have hw3:=w64_id (n:=(n:Int)) (by omega) (by omega);simp only[w64]at hw1 hw3;have tn:((x.at_:Int)+((n:Int)+ 1)).toNat=x.at_ +(n + 1):=by omega
  simp only[opR]at h;have hn1:(1:Int)≤(n:Int)+ 1:=by omega
  simp[g0,g8,hn1];refine drawWp.intro [] [9,20,24] mixed (by kernel_rfl) (by kernel_rfl) (by kernel_rfl) ?_;simp[g0,g8,hw1]
  by_cases q:x.at_ +(n + 1)≤s.size
  ·have q2:(x.at_:Int)+((n:Int)+ 1)≤s.size:=by omega
   have q3:(x.at_:Int)≤(x.at_:Int)+((n:Int)+ 1):=by omega
   simp[q2,q3,hw1,tn,g0,g8];refine CallGoal.same (op_ok) ?_;cases hq:isIn ops (s.extract x.at_ (x.at_ +(n + 1)))with
   | true=>
    rw[hq,decide_eq_true q,Bool.and_self,if_pos rfl]at h;simp[hq];refine⟨by simp[g0,g8,q2],by simp[g0,g8,q2],?_⟩;simp[g0,g8,hw1];have hadd:=add_ok (W0:=W0) (nb:=nb) (s:=s) (x:=x) (k:=4) (e:=x.at_ +(n + 1)) (by omega) q h3 (by omega);simp at hadd;refine CallGoal.same hadd ?_;simp[←h];exact .kk
   | false=>
    rw[hq,Bool.and_false]at h;simp only[Bool.false_eq_true,if_false]at h;simp[hq];refine⟨by simp[g0,g8,q2],by simp[g0,g8,q2],?_⟩;simp[g0,g8,hw3];exact .same n (by omega) ⟨by omega,h,by simp,by simp[g0],by simp⟩
  ·have q2:¬(x.at_:Int)+((n:Int)+ 1)≤s.size:=by omega
   rw[decide_eq_false q,Bool.false_and]at h;simp only[Bool.false_eq_true,if_false]at h;simp[q2,g0,g8];refine⟨by simp[g0,g8,q2],by simp[g0,g8,q2],?_⟩;simp[g0,g8,hw3];exact .same n (by omega) ⟨by omega,h,by simp,by simp[g0],by simp⟩
end Rs
end Go.Proofs.Dm
set_option maxHeartbeats 8000000
set_option maxRecDepth 100000
namespace Go.Proofs.Dm
open Go Go.Proofs Go.Proofs.Tryz
namespace Rs
open Sc
attribute [local simp] rbox takes handsOn isTmp Op.operands Call.operands
theorem fault_ok {W0 nb s} (h3:s.size < 1099511627776):DCalls ⟨Tryz.prog,W0,nb⟩ 65 [.p (.str s)] [] (i64 (faultF s s.size 0)) []:=by
 rw[←faultR_eq];obtain⟨R,hR⟩:∃R,faultR s s.size 0=R:=⟨_,rfl⟩
 rw[hR];refine dcalls_end Tryz.func65 rfl (by kernel_rfl) 47 Tryz.ntmps65 #[.tmp 2] rfl (Nat.le_of_ble_eq_true rfl) ?_;simp;refine⟨fun m st=>∃i:Nat,faultR s m i=R∧s.size≤m + i∧i≤s.size + 4∧st.hp= []∧st.tm 0= .p (.str s)∧st.tm 3=i64 (i:Nat),s.size,.here ⟨0,hR,by omega,by omega,by simp,by simp,by simp⟩,?_⟩;rintro m ⟨tm,hp⟩ ⟨i,h,hm,hi,h0,g0,g3⟩;simp only at h0 g0 g3;subst h0;rcases Nat.lt_or_ge i s.size with hlt | hge
 ·obtain⟨m,rfl⟩:∃k,m=k + 1:=⟨m - 1,by omega⟩
  have hz:(s.extract i s.size).size=s.size - i:=by simp
  simp only[faultR,if_pos hlt]at h;have hb:s[i]? =some s[i]:=by simp[hlt]
  simp only[badR,hb,Option.any_some]at h;have hp4:=decR_pos (s.extract i s.size) (by omega);simp[g0,g3,hlt,Nat.le_of_lt hlt];refine CallGoal.same (decode_ok (by omega) (by omega)) ?_;generalize decR (s.extract i s.size)=d at *;obtain⟨w,ok⟩:=d;simp only at h hp4;obtain⟨w,rfl⟩:∃k:Nat,w=(k:Int):=⟨w.toNat,by omega⟩
  simp only[Int.toNat_natCast]at h;have hw:=w64_id (n:=(i:Int)+ w) (by omega) (by omega);simp only[w64]at hw;generalize hgi:s[i]=c at *;cases ok with
  | false=>
   simp only[Bool.not_false,Bool.true_or,if_true]at h;subst h;simp[g0,g3];exact .keep (by simp[g3]) (.refl _) (by simp) (by simp[g3]) (by simp[g3]) (by simp[g3])
  | true=>
   simp only[Bool.not_true,Bool.false_or]at h;cases c1:decide ((c.toNat:Int)< 32)<;> cases c2:((c.toNat:Int) !=9)<;> cases c3:((c.toNat:Int) !=10)<;> cases c4:((c.toNat:Int)==127)<;> simp only[c1,c2,c3,c4,Bool.and_self,Bool.and_true,Bool.and_false,Bool.true_and,Bool.false_and,Bool.or_self,Bool.or_true,Bool.or_false,Bool.true_or,Bool.false_or,Bool.false_eq_true,if_true,if_false]at h <;> simp only[decide_eq_true_eq,decide_eq_false_iff_not]at c1 <;> simp[g0,g3,hlt,hgi,c1,c2,c3,c4]
   all_goals first
    |(exact .same m (by omega) ⟨i + w,h,by omega,by omega,by simp,by simp[g0],by simp[hw]⟩)
    | exact .keep (by simp[←h,g3]) (.refl _) (by simp) (by simp) (by simp) (by simp)
    | skip
 ·have:faultR s m i= -1:=by
   cases m with
   | zero=>rfl
   | succ m=>simp only[faultR,if_neg (by omega:¬i < s.size)]
  rw[this]at h;subst h;simp[g0,g3,show ¬i < s.size by omega];exact .kk
def scanI (s:ByteArray) (L:SS×Int) (F:Int) (m:Nat) (st:St):Prop:=∃x,st.hp= [rbox s x]∧st.tm 0= .p (.str s)∧st.tm 5= .ref 0 0∧st.tm 6=i64 F∧x.at_≤s.size∧x.l.length≤x.at_∧x.c.length≤x.at_∧0≤x.line∧x.line≤x.at_ + 1∧loopS s m x=L∧s.size < x.at_ + m
def fault0 (s:ByteArray):Int:=if 2000 < s.size∧(faultF s s.size 0 < 0∨2000 < faultF s s.size 0)then 2000 else faultF s s.size 0
theorem loopS_end {s}:∀n x,x.at_≤s.size→s.size < x.at_ + n→((loopS s n x).2= -1∧(loopS s n x).1.at_=s.size)∨((loopS s n x).2=(loopS s n x).1.at_)
 | 0,x,h,h2=>by omega
 | n + 1,x,h,h2=>by
  simp only[loopS];split
  ·rename_i hlt;cases hs:Sc.step s x with
   | none=>exact .inr rfl
   | some y=>
    have h1:=step_ok hlt hs;exact loopS_end n y h1.2.1 (by omega)
  ·exact .inl ⟨rfl,by simp only;omega⟩
theorem faultF_ge (s:ByteArray):∀n i,faultF s n i= -1∨0≤faultF s n i
 | 0,_=> .inl rfl
 | n + 1,i=>by
  simp only[faultF];split
  ·split
   ·exact .inr (by omega)
   ·exact faultF_ge s n _
  ·exact .inl rfl
theorem scanF_eq (s:ByteArray) (f:Int) (h:f= -1∨0≤f):scanF s f=(if 0≤f then(if fault0 s < 0∨f < fault0 s then f else fault0 s)else fault0 s):=by
 have hf:=faultF_ge s s.size 0;simp only[scanF,least,fault0]
 repeat' split
 all_goals omega
attribute [local simp] rbox takes handsOn isTmp Op.operands Call.operands
theorem scan_ok {W0 nb s} (hs:s.size < 10000000):DCalls ⟨Tryz.prog,W0,nb⟩ 32 [.p (.str s)] [] (.tup [toks (scanP s).1,coms (scanP s).2.1,i64 (scanP s).2.2]) []:=by
 obtain⟨R,hR⟩:∃R,scanP s=R:=⟨_,rfl⟩
 rw[hR];obtain⟨L,hL⟩:∃L,loopS s (s.size + 1) ⟨0,1,[],[]⟩=L:=⟨_,rfl⟩
 have hLe:=loopS_end (s:=s) (s.size + 1) ⟨0,1,[],[]⟩ (Nat.zero_le _) (by simp);simp only[scanP,hL]at hR;have hLb:=loopS_ok (s:=s) (s.size + 1) ⟨0,1,[],[]⟩ (Nat.zero_le _);rw[hL]at hLb hLe;simp only[List.length_nil]at hLb;rw[scanF_eq s L.2 (by omega)]at hR;have hff:=faultF_ge s s.size 0;refine dcalls_end Tryz.func32 rfl (by kernel_rfl) 77 Tryz.ntmps32 #[.tmp 2,.tmp 3,.tmp 4] rfl (Nat.le_of_ble_eq_true rfl) ?_;simp;refine CallGoal.same (fault_ok (by omega)) ?_;have hF:∃F,fault0 s=F:=⟨_,rfl⟩
 obtain⟨F,hF⟩:=hF;rw[hF]at hR;simp only[fault0]at hF;generalize faultF s s.size 0=f0 at *;simp;apply join (J:=fun st=>st.hp= [rbox s ⟨0,1,[],[]⟩]∧st.tm 0= .p (.str s)∧st.tm 5= .ref 0 0∧st.tm 6=i64 F)
 case main=>
  intro key
  by_cases a:2000 < s.size
  ·have a':(2000:Int)< s.size:=by omega
   by_cases b:f0 < 0
   ·rw[if_pos ⟨a,.inl b⟩]at hF;simp[a',b];exact key _ ⟨by simp,by simp,by simp,by simp[hF]⟩
   ·by_cases c:2000 < f0
    ·rw[if_pos ⟨a,.inr c⟩]at hF;simp[a',b,c];exact key _ ⟨by simp,by simp,by simp,by simp[hF]⟩
    ·rw[if_neg (by omega)]at hF;simp[a',b,c];exact key _ ⟨by simp,by simp,by simp,by simp[hF]⟩
  ·have a':¬(2000:Int)< s.size:=by omega
   rw[if_neg (by omega)]at hF;simp[a'];exact key _ ⟨by simp,by simp,by simp,by simp[hF]⟩
 case key=>
  have hFF:F= -1∨0≤F:=by
   split at hF <;> omega
  rintro⟨tm,hp⟩ ⟨h0,g0,g5,g6⟩;simp only at h0 g0 g5 g6;subst h0;refine⟨scanI s L F,s.size + 1,.here ⟨⟨0,1,[],[]⟩,by simp,by simp[g0],by simp[g5],by simp[g6],by simp,by simp,by simp,by simp,by simp,hL,by simp⟩,?_⟩;rintro m ⟨tm,hp⟩ ⟨x,h0,g0,g5,g6,b1,b2,b3,b4,b5,hc,hm⟩;simp only at h0 g0 g5 g6;subst h0;obtain⟨m,rfl⟩:∃k,m=k + 1:=⟨m - 1,by omega⟩
  by_cases hlt:x.at_ < s.size
  ·simp only[loopS,if_pos hlt]at hc;simp[g0,g5,g6,hlt];refine CallGoal.same (one_ok (x:=x) hlt (by omega) (by omega) (by omega) (by omega)) ?_;cases hst:Sc.step s x with
   | some y=>
    rw[hst]at hc;simp only at hc;have hy:=step_ok hlt hst;simp[g0,g5,g6];exact .same m (by omega) ⟨y,by simp,by simp[g0],by simp[g5],by simp[g6],by omega,by omega,by omega,by omega,by omega,hc,by omega⟩
   | none=>
    rw[hst]at hc;simp only at hc;subst hc;simp only at hR;rw[if_pos (by omega:(0:Int)≤(x.at_:Int))]at hR;simp[g0,g5,g6]
    by_cases c1:F < 0
    ·have e:(if F < 0∨(x.at_:Int)< F then(x.at_:Int)else F)=x.at_:=if_pos (.inl c1);rw[e,if_pos (by omega)]at hR;subst hR;simp[c1,g5,g6];exact .keep (by simp[toks,coms]) (.refl _) (by simp) (by simp[toks,coms]) (by simp[toks,coms]) (by simp[toks,coms])
    ·by_cases c2:(x.at_:Int)< F
     ·have e:(if F < 0∨(x.at_:Int)< F then(x.at_:Int)else F)=x.at_:=if_pos (.inr c2);rw[e,if_pos (by omega)]at hR;subst hR;simp[c1,c2,g5,g6];exact .keep (by simp[toks,coms]) (.refl _) (by simp) (by simp[toks,coms]) (by simp[toks,coms]) (by simp[toks,coms])
     ·have e:(if F < 0∨(x.at_:Int)< F then(x.at_:Int)else F)=F:=if_neg (by omega);rw[e,if_pos (by omega)]at hR;subst hR;simp[c1,c2,g5,g6];exact .keep (by simp[toks,coms,g6]) (.refl _) (by simp) (by simp[toks,coms,g6]) (by simp[toks,coms,g6]) (by simp[toks,coms,g6])
  ·simp only[loopS,if_neg hlt]at hc;subst hc;simp only at hR;rw[if_neg (by omega:¬(0:Int)≤ -1)]at hR;have hat:x.at_=s.size:=by omega
   simp[g0,g5,g6,hlt]
   by_cases c1:0≤F
   ·rw[if_pos c1]at hR;subst hR;simp[c1,g5,g6];exact .keep (by simp[toks,coms,g6]) (.refl _) (by simp) (by simp[toks,coms,g6]) (by simp[toks,coms,g6]) (by simp[toks,coms,g6])
   ·rw[if_neg c1]at hR;subst hR;have hsl:=semi_len x;have hz:=w64_id (n:=(s.size:Int)) (by omega) (by omega);simp only[w64]at hz;have ha1:((semi x).l.length + 1)* 48≤140737488355328:=by omega
    have ha2:(semi x).l.length≤9223372036854775806:=by omega
    simp[c1,g0,g5,g6];refine CallGoal.same (semi_ok (x:=x) (by omega)) ?_;simp[g0,g5];refine drawWp.intro [(4,10)] [4,10,13] mixed (by kernel_rfl) (by kernel_rfl) (by kernel_rfl) ?_;simp[g0,g5,ha1,ha2,hz];refine⟨by simp,by simp,?_⟩;simp[g0,g5];refine drawWp.intro [(3,7)] [7] mixed (by kernel_rfl) (by kernel_rfl) (by kernel_rfl) ?_;simp[g0,g5];refine⟨by simp,by simp,?_⟩;exact .keep (by simp[toks,coms,ended,encT,hat]) (.refl _) (by simp) (by simp[toks,coms,ended,encT,hat]) (by simp[toks,coms,ended,encT,hat]) (by simp[toks,coms,ended,encT,hat])
end Rs
end Go.Proofs.Dm
