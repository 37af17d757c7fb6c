/- Part of the proof: contracts of the functions, walked by the D-machine. No condition. -/
import Derived.Test.YtmlhdhpjcipcdaaGreatDoorSb
set_option linter.unusedSimpArgs false
set_option linter.unusedVariables false
set_option maxHeartbeats 4000000
namespace Go.Proofs.Dm
open Go Go.Proofs Go.Proofs.Tryz
namespace Sc
attribute [local simp] xbox takes handsOn isTmp Op.operands Call.operands
theorem op_ok {W0 nb s x} (h1:x.at_ < s.size) (h3:s.size < 1099511627776) (hl:x.l.length < 1000000000):DCalls ⟨Tryz.prog,W0,nb⟩ 145 [.ref 0 0] [xbox s x (-1)] (.tup []) [res s x (opR s x 2)]:=by
 obtain⟨R,hR⟩:∃R,opR s x 2=R:=⟨_,rfl⟩
 rw[hR];refine dcalls_end Tryz.func145 rfl (by kernel_rfl) 61 Tryz.ntmps145 #[] rfl (Nat.le_of_ble_eq_true rfl) ?_;simp;refine⟨fun n st=>n≤2∧opR s x n=R∧st.hp= [xbox s x (-1)]∧st.tm 0= .ref 0 0∧st.tm 2=i64 (n:Nat),2,.here ⟨by omega,hR,by simp,by simp,by simp⟩,?_⟩;rintro n ⟨tm,hp⟩ ⟨hn,h,h0,g0,g2⟩;simp only at h0 g0 g2;subst h0;cases n with
 | zero=>
  simp[g0,g2];rw[←h];simp[opR,res];exact .kk
 | succ n=>
  have hw1:=w64_id (n:=(s.size:Int)- x.at_) (by omega) (by omega);have hw2:=w64_id (n:=(x.at_:Int)+((n:Int)+ 1)) (by omega) (by omega);have hw3:=w64_id (n:=(n:Int)) (by omega) (by omega);simp only[w64]at hw1 hw2 hw3;have tn:((x.at_:Int)+((n:Int)+ 1)).toNat=x.at_ +(n + 1):=by omega
  simp only[opR]at h;simp[g0,g2];refine drawWp.intro [] [8,20,24] mixed (by kernel_rfl) (by kernel_rfl) (by kernel_rfl) ?_;simp[g0,g2,hw1]
  by_cases q:x.at_ +(n + 1)≤s.size
  ·have q1:(n:Int)+ 1≤(s.size:Int)- x.at_:=by omega
   have q2:(x.at_:Int)+((n:Int)+ 1)≤s.size:=by omega
   have q3:(x.at_:Int)≤(x.at_:Int)+((n:Int)+ 1):=by omega
   simp[q1,q2,q3,hw2,tn,g0,g2];refine CallGoal.same (isOp_ok) ?_;cases hq:isIn ops (s.extract x.at_ (x.at_ +(n + 1)))with
   | true=>
    rw[hq,decide_eq_true q,Bool.and_self,if_pos rfl]at h;simp[hq];refine⟨by simp[g0,g2,q1],by simp[g0,g2,q1],?_⟩;simp[g0,g2];refine drawWp.intro [] [4,8,12] mixed (by kernel_rfl) (by kernel_rfl) (by kernel_rfl) ?_;simp[g0,g2,hw2,tn,q2,q3];refine CallGoal.same (putA_ok (x:=x) (k:=4) (by omega) q h3 hl) ?_;simp;refine⟨by simp,by simp,?_⟩;simp[←h,res];exact .kk
   | false=>
    rw[hq,Bool.and_false]at h;simp only[Bool.false_eq_true,if_false]at h;simp[hq];refine⟨by simp[g0,g2,q1],by simp[g0,g2,q1],?_⟩;simp[g0,g2,hw3];exact .same n (by omega) ⟨by omega,h,by simp,by simp[g0],by simp⟩
  ·have q1:¬(n:Int)+ 1≤(s.size:Int)- x.at_:=by omega
   rw[decide_eq_false q,Bool.false_and]at h;simp only[Bool.false_eq_true,if_false]at h;simp[q1,g0,g2];refine⟨by simp[g0,g2,q1],by simp[g0,g2,q1],?_⟩;simp[g0,g2,hw3];exact .same n (by omega) ⟨by omega,h,by simp,by simp[g0],by simp⟩
end Sc
end Go.Proofs.Dm
set_option maxHeartbeats 4000000
namespace Go.Proofs.Dm
open Go Go.Proofs Go.Proofs.Tryz
namespace Sc
attribute [local simp] xbox takes handsOn isTmp Op.operands Call.operands
@[simp] theorem mapRefs_res (f:Nat→Nat) (s x y):mapRefs f (res s x y)=res s x y:=by cases y <;> simp[res,mapRefs,mapRef]
@[simp] theorem refsDs_res (s x y):refsDs (res s x y)= []:=by cases y <;> simp[res,refsDs,refsD]
theorem semi_len (x:SS):(semi x).l.length≤x.l.length + 1:=by unfold semi;split <;> simp
theorem one_ok {W0 nb s x} (h1:x.at_ < s.size) (h3:s.size < 1099511627776) (hli:0≤x.line∧x.line < 1099511627776) (hl:x.l.length < 100000000) (hc:x.c.length < 100000000):DCalls ⟨Tryz.prog,W0,nb⟩ 86 [.ref 0 0] [xbox s x (-1)] (.tup []) [res s x (step s x)]:=by
 have hg:s[x.at_]? =some s[x.at_]:=by simp
 have hw1:=w64_id (n:=(x.at_:Int)+ 1) (by omega) (by omega);have hw2:=w64_id (n:=x.line + 1) (by omega) (by omega);simp only[w64]at hw1 hw2;have hge:(0:Int)≤(x.at_:Int):=by omega
 have hR:step s x=step s x:=rfl;generalize hRe:step s x=R at *;clear hR;refine dcalls_end Tryz.func86 rfl (by kernel_rfl) 122 Tryz.ntmps86 #[] rfl (Nat.le_of_ble_eq_true rfl) ?_;simp;refine drawWp.intro [] [7] mixed (by kernel_rfl) (by kernel_rfl) (by kernel_rfl) ?_;simp[h1,hge];refine⟨by simp,by simp,?_⟩;simp;simp only[step,hg]at hRe;generalize hcc:s[x.at_]=c at *;refine ifGoal_of (fun q1=> ?_) (fun q1=> ?_)
 ·rw[q1,if_pos rfl]at hRe;subst hRe;simp;refine CallGoal.same (semi_ok (by omega)) ?_;simp[hw1,hw2,res];exact .kk
 rw[q1]at hRe;simp only[Bool.false_eq_true,if_false]at hRe;simp;cases q2:((c.toNat:Int)==32 ||(c.toNat:Int)==9)with
 | true=>
  rw[q2,if_pos rfl]at hRe;subst hRe;cases q3:(c.toNat:Int)==32 <;> simp[q3]at q2 <;> simp[q3,q2,hw1,res]
  all_goals exact .keep (by simp[q3,q2,hw1]) (.refl _) (by simp) (by simp[q3,q2,hw1]) (by simp) (by simp)
 | false=>
 rw[q2]at hRe;simp only[Bool.false_eq_true,if_false]at hRe;simp only[Bool.or_eq_false_iff]at q2;simp[q2.1,q2.2];refine drawWp.intro [] [7] mixed (by kernel_rfl) (by kernel_rfl) (by kernel_rfl) ?_;simp[h1,hge,Nat.le_of_lt h1];refine CallGoal.same (hasPrefix_ok (Nat.le_of_lt h1)) ?_;simp;refine⟨by simp,by simp,?_⟩;simp;refine ifGoal_of (fun q3=> ?_) (fun q3=> ?_)
 ·rw[q3,if_pos rfl]at hRe;subst hRe;simp;refine CallGoal.same (semi_ok (by omega)) ?_;simp;have hlen:=semi_len x;have hle:=stop_le s (fun b=>b !=10) x.at_ (Nat.le_of_lt h1);rw[show stop s (fun b=>b !=10) x.at_=eol s x.at_ from rfl]at hle;have hrest:=rest_ok (W0:=W0) (nb:=nb) (s:=s) (x:=semi x) (f:= -1) (by simp;omega) h3;simp only[semi_at]at hrest;have ez:(s.extract x.at_ (eol s x.at_)).size=eol s x.at_ - x.at_:=by simp;omega
  have hw3:=w64_id (n:=(x.at_:Int)+((eol s x.at_ - x.at_:Nat):Int)) (by omega) (by omega);have hw4:=w64_id (n:=((semi x).l.length:Int)) (by omega) (by omega);have hw5:(x.at_:Int)+((eol s x.at_ - x.at_:Nat):Int)=(eol s x.at_:Int):=by omega
  rw[hw5]at hw3;simp only[w64]at hw3 hw4;simp only[xbox,semi_line,semi_c,semi_at]at hrest;refine CallGoal.same hrest ?_;simp;have ha1:(x.c.length + 1)* 40≤140737488355328:=by omega
  have ha2:x.c.length≤9223372036854775806:=by omega
  refine drawWp.intro [(4,9),(4,13),(9,13),(4,17),(9,17),(13,17)] [4,9,13,17,21] mixed (by kernel_rfl) (by kernel_rfl) (by kernel_rfl) ?_;simp[ha1,ha2,hw4];refine⟨by simp,by simp,?_⟩;simp[ez,Nat.min_eq_left hle.2,hw5,hw3];simp[res,note];exact .keep (by simp[encC]) (.refl _) (by simp) (by simp[encC]) (by simp[encC]) (by simp[encC])
 rw[q3]at hRe;simp only[Bool.false_eq_true,if_false]at hRe;simp;refine CallGoal.same letter_ok ?_;simp;refine ifGoal_of (fun q4=> ?_) (fun q4=> ?_)
 ·rw[q4,if_pos rfl]at hRe;subst hRe;simp;refine CallGoal.same (run_ok (x:=x) (f:= -1) (fun b=>word_ok) (Nat.le_of_lt h1) h3) ?_;simp;have hle:=stop_le s wordB x.at_ (Nat.le_of_lt h1);refine CallGoal.same (name_ok (x:=x) hle.1 hle.2 h3 (by omega)) ?_;simp;exact .kk
 rw[q4]at hRe;simp only[Bool.false_eq_true,if_false]at hRe;simp;refine CallGoal.same digit_ok ?_;simp;refine ifGoal_of (fun q5=> ?_) (fun q5=> ?_)
 ·rw[q5,if_pos rfl]at hRe;subst hRe;simp;refine CallGoal.same (run_ok (x:=x) (f:= -1) (fun b=>digit_ok) (Nat.le_of_lt h1) h3) ?_;simp;have hle:=stop_le s digit x.at_ (Nat.le_of_lt h1);have hlt:x.at_ < stop s digit x.at_:=by
   rw[stop_eq,hg];simp only[q5,if_true];have:=stop_le s digit (x.at_ + 1) (by omega);omega
  refine CallGoal.same (number_ok (x:=x) hlt hle.2 h3 (by omega)) ?_;simp;exact .kk
 rw[q5]at hRe;simp only[Bool.false_eq_true,if_false]at hRe;simp;refine ifGoal_of (fun q6=> ?_) (fun q6=> ?_)
 ·rw[q6,if_pos rfl]at hRe;subst hRe;have hc34:c=34:=by
   have:=beq_iff_eq.1 q6;exact UInt8.toNat_inj.1 (by simp;omega)
  subst hc34;simp;refine CallGoal.same (rest_ok (x:=x) (f:= -1) (Nat.le_of_lt h1) h3) ?_;simp;refine CallGoal.same (text_ok (x:=x) hg h3 (by omega)) ?_;simp;exact .kk
 rw[q6]at hRe;simp only[Bool.false_eq_true,if_false]at hRe;simp;refine ifGoal_of (fun q7=> ?_) (fun q7=> ?_)
 ·rw[q7,if_pos rfl]at hRe;subst hRe;have hc59:c=59:=by
   have:=beq_iff_eq.1 q7;exact UInt8.toNat_inj.1 (by simp;omega)
  subst hc59;have e1:s.extract x.at_ (x.at_ + 1)=⟨#[59]⟩:=by
   apply ba_ext;have hd:=drop_next s hg;rw[ext_list,hd.2];simp
  have hp:=putA_ok (W0:=W0) (nb:=nb) (s:=s) (x:=x) (f:= -1) (k:=6) (e:=x.at_ + 1) (by omega) (by omega) h3 (by omega);rw[e1]at hp;simp;refine CallGoal.same hp ?_;simp[res];exact .kk
 rw[q7]at hRe;simp only[Bool.false_eq_true,if_false]at hRe;subst hRe;simp;refine CallGoal.same (op_ok (x:=x) h1 h3 (by omega)) ?_;simp;exact .kk
end Sc
end Go.Proofs.Dm
