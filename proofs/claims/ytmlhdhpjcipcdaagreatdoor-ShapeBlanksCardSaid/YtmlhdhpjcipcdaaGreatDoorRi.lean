/- Part of the proof: contracts of the functions, walked by the D-machine. No condition. -/
import Derived.Test.YtmlhdhpjcipcdaaGreatDoorRa
import Derived.Test.YtmlhdhpjcipcdaaGreatDoorSc
import Derived.Test.YtmlhdhpjcipcdaaGreatDoorPb
import Derived.Test.YtmlhdhpjcipcdaaGreatDoorRc
import Derived.Test.YtmlhdhpjcipcdaaGreatDoorRd
import Derived.Test.YtmlhdhpjcipcdaaGreatDoorTe
set_option linter.unusedSimpArgs false
set_option linter.unusedVariables false
set_option maxHeartbeats 4000000
namespace Go.Proofs.Dm
open Go Go.Proofs Go.Proofs.Tryz Go.Proofs.Dm.Sc
namespace Rp
attribute [local simp] rbox encT encN encNs takes handsOn isTmp Op.operands Call.operands
theorem ahead_get {l:List Tok} {rs:RS} {t:Tok} (h:ahead l rs=some t):0≤w64 (rs.at_ + 1)∧(w64 (rs.at_ + 1)).toNat < l.length∧l[(w64 (rs.at_ + 1)).toNat]? =some t:=by
 unfold ahead at h;split at h
 ·rename_i h0;refine⟨h0,(List.getElem?_eq_some_iff.1 h).1,h⟩
 ·cases h
theorem simpleR_ok {W0 nb l E L} (hE:HE ⟨Tryz.prog,W0,nb⟩ l E) (hL:HN ⟨Tryz.prog,W0,nb⟩ l 225 L):HN ⟨Tryz.prog,W0,nb⟩ l 226 (simpleR l E L):=by
 intro rs ⟨k0,t0,ks0⟩ rs' h;unfold simpleR at h;obtain⟨b,h1,h⟩:=Option.bind_eq_some_iff.1 h
 try dsimp only at h1 h
 refine dcalls_end Tryz.func226 rfl (by kernel_rfl) 99 Tryz.ntmps226 #[.cell 2 26] rfl (Nat.le_of_ble_eq_true rfl) ?_;simp;refine drawWp.intro [] [10,25,39] mixed (by kernel_rfl) (by kernel_rfl) (by kernel_rfl) ?_
 try simp
 refine CallGoal.same (kindQ_ok h1) ?_
 try simp
 cases b with
 | false=>
  simp only[Bool.false_eq_true,if_false]at h
  try simp (maxSteps:=4000000)
  refine⟨by simp,by simp,?_⟩
  try simp
  unfold restR at h;obtain⟨⟨⟨k4,t4,ks4⟩,r4⟩,h4,h⟩:=Option.bind_eq_some_iff.1 h
  try dsimp only at h4 h
  obtain⟨q,h5,h⟩:=Option.bind_eq_some_iff.1 h
  try dsimp only at h5 h
  refine CallGoal.same (hE h4) ?_
  try simp
  try simp
  unfold isN at h5;cases h6:decide (r4.bad < 0)with
  | false=>
   simp only[h6,Bool.false_eq_true,if_false,Option.some.injEq]at h5;subst h5;simp only[Bool.false_eq_true,if_false]at h;simp only[Option.some.injEq,Prod.mk.injEq,Nd.mk.injEq]at h;obtain⟨⟨rfl,rfl,rfl⟩,rfl⟩:=h;simp[h6];refine CallGoal.intro (leaf_p (by simp) (by simp)) (.cons (.refl _) (.cons (.refl _) (.cons (.fr _ _ _) .nil))) ?_
   try simp
   exact Pp.endE (by simp) (by simp) (by simp) (by simp)
  | true=>
   simp only[h6,if_true]at h5;simp[h6];refine CallGoal.same (isW_ok h5) ?_
   try simp[h6]
   cases q with
   | false=>
    simp only[Bool.false_eq_true,if_false]at h;simp only[Option.some.injEq,Prod.mk.injEq,Nd.mk.injEq]at h;obtain⟨⟨rfl,rfl,rfl⟩,rfl⟩:=h;simp;refine CallGoal.intro (leaf_p (by simp) (by simp)) (.cons (.refl _) (.cons (.refl _) (.cons (.fr _ _ _) .nil))) ?_
    try simp
    exact Pp.endE (by simp) (by simp) (by simp) (by simp)
   | true=>
    simp only[if_true]at h;obtain⟨⟨⟨k7,t7,ks7⟩,r7⟩,h7,h⟩:=Option.bind_eq_some_iff.1 h
    try dsimp only at h7 h
    simp only[Option.some.injEq,Prod.mk.injEq,Nd.mk.injEq]at h;obtain⟨⟨rfl,rfl,rfl⟩,rfl⟩:=h;simp;refine CallGoal.same (next_ok) ?_
    try simp
    refine drawWp.intro [(1,3)] [1,3] mixed (by kernel_rfl) (by kernel_rfl) (by kernel_rfl) ?_
    try simp
    refine CallGoal.same (hE h7) ?_
    try simp
    refine CallGoal.intro (leaf_p (by simp) (by simp)) (.cons (.refl _) (.cons (.refl _) (.cons (.fr _ _ _) .nil))) ?_
    try simp
    refine⟨by simp,by simp,?_⟩
    try simp
    exact Pp.endE (by simp) (by simp) (by simp) (by simp)
 | true=>
  simp only[if_true]at h;obtain⟨t,h2,h⟩:=Option.bind_eq_some_iff.1 h
  try dsimp only at h2 h
  obtain⟨a1,a2,a3⟩:=ahead_get h2;obtain⟨a4,a5⟩:=List.getElem?_eq_some_iff.1 a3;simp only[w64]at a1 a2 a4 a5;simp[a1,a2,a5];unfold isAss at h;cases b4:t.kind==4 with
  | false=>
   simp only[b4,Bool.false_and,Bool.false_eq_true,if_false]at h
   try simp (maxSteps:=4000000) [b4]
   refine⟨by simp,by simp,?_⟩
   try simp
   unfold restR at h;obtain⟨⟨⟨k4,t4,ks4⟩,r4⟩,h4,h⟩:=Option.bind_eq_some_iff.1 h
   try dsimp only at h4 h
   obtain⟨q,h5,h⟩:=Option.bind_eq_some_iff.1 h
   try dsimp only at h5 h
   refine CallGoal.same (hE h4) ?_
   try simp
   try simp
   unfold isN at h5;cases h6:decide (r4.bad < 0)with
   | false=>
    simp only[h6,Bool.false_eq_true,if_false,Option.some.injEq]at h5;subst h5;simp only[Bool.false_eq_true,if_false]at h;simp only[Option.some.injEq,Prod.mk.injEq,Nd.mk.injEq]at h;obtain⟨⟨rfl,rfl,rfl⟩,rfl⟩:=h;simp[h6];refine CallGoal.intro (leaf_p (by simp) (by simp)) (.cons (.refl _) (.cons (.refl _) (.cons (.fr _ _ _) .nil))) ?_
    try simp
    exact Pp.endE (by simp) (by simp) (by simp) (by simp)
   | true=>
    simp only[h6,if_true]at h5;simp[h6];refine CallGoal.same (isW_ok h5) ?_
    try simp[h6]
    cases q with
    | false=>
     simp only[Bool.false_eq_true,if_false]at h;simp only[Option.some.injEq,Prod.mk.injEq,Nd.mk.injEq]at h;obtain⟨⟨rfl,rfl,rfl⟩,rfl⟩:=h;simp;refine CallGoal.intro (leaf_p (by simp) (by simp)) (.cons (.refl _) (.cons (.refl _) (.cons (.fr _ _ _) .nil))) ?_
     try simp
     exact Pp.endE (by simp) (by simp) (by simp) (by simp)
    | true=>
     simp only[if_true]at h;obtain⟨⟨⟨k7,t7,ks7⟩,r7⟩,h7,h⟩:=Option.bind_eq_some_iff.1 h
     try dsimp only at h7 h
     simp only[Option.some.injEq,Prod.mk.injEq,Nd.mk.injEq]at h;obtain⟨⟨rfl,rfl,rfl⟩,rfl⟩:=h;simp;refine CallGoal.same (next_ok) ?_
     try simp
     refine drawWp.intro [(1,3)] [1,3] mixed (by kernel_rfl) (by kernel_rfl) (by kernel_rfl) ?_
     try simp
     refine CallGoal.same (hE h7) ?_
     try simp
     refine CallGoal.intro (leaf_p (by simp) (by simp)) (.cons (.refl _) (.cons (.refl _) (.cons (.fr _ _ _) .nil))) ?_
     try simp
     refine⟨by simp,by simp,?_⟩
     try simp
     exact Pp.endE (by simp) (by simp) (by simp) (by simp)
  | true=>
   simp only[b4,Bool.true_and]at h;cases b5:t.text.toList== [58,61]with
   | true=>
    simp only[b5,Bool.true_or,if_true]at h
    try simp (maxSteps:=4000000) [b4,b5,a1,a2,a5]
    refine⟨by simp,by simp,?_⟩
    try simp
    unfold assR at h;obtain⟨q,h6,h⟩:=Option.bind_eq_some_iff.1 h
    try dsimp only at h6 h
    refine CallGoal.same (next_ok) ?_
    try simp
    refine CallGoal.same (isW_ok h6) ?_
    try simp
    cases q with
    | true=>
     simp only[if_true]at h;obtain⟨⟨⟨k7,t7,ks7⟩,r7⟩,h7,h⟩:=Option.bind_eq_some_iff.1 h
     try dsimp only at h7 h
     simp only[Option.some.injEq,Prod.mk.injEq,Nd.mk.injEq]at h;obtain⟨⟨rfl,rfl,rfl⟩,rfl⟩:=h;simp;refine CallGoal.same (next_ok) ?_
     try simp
     refine CallGoal.same (hE h7) ?_
     try simp
     refine CallGoal.intro (leaf_p (by simp) (by simp)) (.cons (.refl _) (.cons (.refl _) (.cons (.fr _ _ _) .nil))) ?_
     try simp
     exact Pp.endE (by simp) (by simp) (by simp) (by simp)
    | false=>
     simp only[Bool.false_eq_true,if_false]at h;obtain⟨⟨⟨k7,t7,ks7⟩,r7⟩,h7,h⟩:=Option.bind_eq_some_iff.1 h
     try dsimp only at h7 h
     simp only[Option.some.injEq,Prod.mk.injEq,Nd.mk.injEq]at h;obtain⟨⟨rfl,rfl,rfl⟩,rfl⟩:=h;simp;refine CallGoal.same (next_ok) ?_
     try simp
     refine CallGoal.same (hL h7) ?_
     try simp
     refine CallGoal.intro (leaf_p (by simp) (by simp)) (.cons (.refl _) (.cons (.refl _) (.cons (.fr _ _ _) .nil))) ?_
     try simp
     exact Pp.endE (by simp) (by simp) (by simp) (by simp)
   | false=>
    cases b6:t.text.toList== [58]with
    | true=>
     simp only[b5,b6,Bool.false_or,if_true]at h
     try simp (maxSteps:=4000000) [b4,b5,b6,a1,a2,a5]
     refine⟨by simp,by simp,?_⟩
     try simp
     unfold assR at h;obtain⟨q,h6,h⟩:=Option.bind_eq_some_iff.1 h
     try dsimp only at h6 h
     refine CallGoal.same (next_ok) ?_
     try simp
     refine CallGoal.same (isW_ok h6) ?_
     try simp
     cases q with
     | true=>
      simp only[if_true]at h;obtain⟨⟨⟨k7,t7,ks7⟩,r7⟩,h7,h⟩:=Option.bind_eq_some_iff.1 h
      try dsimp only at h7 h
      simp only[Option.some.injEq,Prod.mk.injEq,Nd.mk.injEq]at h;obtain⟨⟨rfl,rfl,rfl⟩,rfl⟩:=h;simp;refine CallGoal.same (next_ok) ?_
      try simp
      refine CallGoal.same (hE h7) ?_
      try simp
      refine CallGoal.intro (leaf_p (by simp) (by simp)) (.cons (.refl _) (.cons (.refl _) (.cons (.fr _ _ _) .nil))) ?_
      try simp
      exact Pp.endE (by simp) (by simp) (by simp) (by simp)
     | false=>
      simp only[Bool.false_eq_true,if_false]at h;obtain⟨⟨⟨k7,t7,ks7⟩,r7⟩,h7,h⟩:=Option.bind_eq_some_iff.1 h
      try dsimp only at h7 h
      simp only[Option.some.injEq,Prod.mk.injEq,Nd.mk.injEq]at h;obtain⟨⟨rfl,rfl,rfl⟩,rfl⟩:=h;simp;refine CallGoal.same (next_ok) ?_
      try simp
      refine CallGoal.same (hL h7) ?_
      try simp
      refine CallGoal.intro (leaf_p (by simp) (by simp)) (.cons (.refl _) (.cons (.refl _) (.cons (.fr _ _ _) .nil))) ?_
      try simp
      exact Pp.endE (by simp) (by simp) (by simp) (by simp)
    | false=>
     simp only[b5,b6,Bool.or_self,Bool.false_eq_true,if_false]at h
     try simp (maxSteps:=4000000) [b4,b5,b6,a1,a2,a5]
     refine⟨by simp,by simp,?_⟩
     try simp
     unfold restR at h;obtain⟨⟨⟨k4,t4,ks4⟩,r4⟩,h4,h⟩:=Option.bind_eq_some_iff.1 h
     try dsimp only at h4 h
     obtain⟨q,h5,h⟩:=Option.bind_eq_some_iff.1 h
     try dsimp only at h5 h
     refine CallGoal.same (hE h4) ?_
     try simp
     try simp
     unfold isN at h5;cases h6:decide (r4.bad < 0)with
     | false=>
      simp only[h6,Bool.false_eq_true,if_false,Option.some.injEq]at h5;subst h5;simp only[Bool.false_eq_true,if_false]at h;simp only[Option.some.injEq,Prod.mk.injEq,Nd.mk.injEq]at h;obtain⟨⟨rfl,rfl,rfl⟩,rfl⟩:=h;simp[h6];refine CallGoal.intro (leaf_p (by simp) (by simp)) (.cons (.refl _) (.cons (.refl _) (.cons (.fr _ _ _) .nil))) ?_
      try simp
      exact Pp.endE (by simp) (by simp) (by simp) (by simp)
     | true=>
      simp only[h6,if_true]at h5;simp[h6];refine CallGoal.same (isW_ok h5) ?_
      try simp[h6]
      cases q with
      | false=>
       simp only[Bool.false_eq_true,if_false]at h;simp only[Option.some.injEq,Prod.mk.injEq,Nd.mk.injEq]at h;obtain⟨⟨rfl,rfl,rfl⟩,rfl⟩:=h;simp;refine CallGoal.intro (leaf_p (by simp) (by simp)) (.cons (.refl _) (.cons (.refl _) (.cons (.fr _ _ _) .nil))) ?_
       try simp
       exact Pp.endE (by simp) (by simp) (by simp) (by simp)
      | true=>
       simp only[if_true]at h;obtain⟨⟨⟨k7,t7,ks7⟩,r7⟩,h7,h⟩:=Option.bind_eq_some_iff.1 h
       try dsimp only at h7 h
       simp only[Option.some.injEq,Prod.mk.injEq,Nd.mk.injEq]at h;obtain⟨⟨rfl,rfl,rfl⟩,rfl⟩:=h;simp;refine CallGoal.same (next_ok) ?_
       try simp
       refine drawWp.intro [(1,3)] [1,3] mixed (by kernel_rfl) (by kernel_rfl) (by kernel_rfl) ?_
       try simp
       refine CallGoal.same (hE h7) ?_
       try simp
       refine CallGoal.intro (leaf_p (by simp) (by simp)) (.cons (.refl _) (.cons (.refl _) (.cons (.fr _ _ _) .nil))) ?_
       try simp
       refine⟨by simp,by simp,?_⟩
       try simp
       exact Pp.endE (by simp) (by simp) (by simp) (by simp)
end Rp
end Go.Proofs.Dm
set_option maxHeartbeats 4000000
namespace Go.Proofs.Dm
open Go Go.Proofs Go.Proofs.Tryz
namespace Rk
attribute [local simp] takes handsOn isTmp Op.operands Call.operands
open Sc
theorem in_ok {W0 nb xs s} (hl:xs.length < 1000000):DCalls ⟨Tryz.prog,W0,nb⟩ 157 [.p (.str s),.p (.sl 1 (rowsS xs))] [] (.p (.bool (isIn xs s))) []:=by
 refine dcalls_end Tryz.func157 rfl (by kernel_rfl) 18 Tryz.ntmps157 #[.tmp 4] rfl (Nat.le_of_ble_eq_true rfl) ?_;simp;refine⟨fun m st=>∃i,isIn (xs.drop i) s=isIn xs s∧m=xs.length - i∧i≤xs.length∧st.hp= []∧st.tm 0= .p (.str s)∧st.tm 1= .p (.sl 1 (rowsS xs))∧st.tm 5=i64 (i:Nat),xs.length,.here ⟨0,by simp,by simp,by simp,by simp,by simp,by simp,by simp⟩,?_⟩;rintro m ⟨tm,hp⟩ ⟨i,h,rfl,hi,h0,h1,h2,h4⟩;simp only at h0 h1 h2 h4;subst h0;have hrl:(rowsS xs).length=xs.length:=by simp[rowsS]
 simp[h1,h2,h4,hrl];rcases Nat.lt_or_ge i xs.length with hlt | hge
 ·have hg:(rowsS xs)[i]? =some [.str xs[i]]:=by simp[rowsS,hlt]
  have hd:xs.drop i=xs[i]::xs.drop (i + 1):=List.drop_eq_getElem_cons hlt;rw[hd]at h;simp only[isIn,List.any_cons]at h;have hw:=w64_id (n:=(i:Int)+ 1) (by omega) (by omega);simp only[w64]at hw;have he:(xs[i].toList==s.toList)=eqB s xs[i]:=by simp only[eqB];exact Bool.beq_comm
  simp[hlt,h1,h2,h4,hg,rowsS,he];cases hq:eqB s xs[i]with
  | true=>
   rw[hq,Bool.true_or]at h;rw[show isIn xs s=true from h.symm];simp;exact .kk
  | false=>
   rw[hq,Bool.false_or]at h;simp[h1,h2,h4];exact .same (xs.length -(i + 1)) (by omega) ⟨i + 1,h,rfl,by omega,by simp,by simp[h1],by simp[h2,rowsS],by simp[hw]⟩
 ·have:i=xs.length:=by omega
  subst this;rw[←h];simp[isIn];exact .kk
def ranksL:List (List ByteArray):= [[⟨#[124,124]⟩],[⟨#[38,38]⟩],[⟨#[61,61]⟩,⟨#[33,61]⟩,⟨#[60]⟩],[⟨#[43]⟩,⟨#[45]⟩],[⟨#[42]⟩]]
def rankAt (s:ByteArray):List (List ByteArray)→Nat→Int
 | [],_=>0
 | r::rs,i=>if isIn r s then(i:Int)+ 1 else rankAt s rs (i + 1)
def rowR (r:List ByteArray):List PD:= [.sl 1 (rowsS r)]
theorem rank_eq (s:ByteArray):rankAt s ranksL 0=Pp.rank s:=by
 have e:∀a:List UInt8,(ByteArray.mk a.toArray).toList=a:=by intro a;simp[ByteArray.toList_eq]
 simp only[ranksL,rankAt,isIn,List.any_cons,List.any_nil,Bool.or_false,eqB,Pp.rank,e];generalize s.1.toList=x;cases x== [124,124] <;> cases x== [38,38] <;> cases x== [61,61] <;> cases x== [33,61] <;> cases x== [60] <;> cases x== [43] <;> cases x== [45] <;> cases x== [42] <;> rfl
def rkI (s:ByteArray) (R:Int) (m:Nat) (st:St):Prop:=∃i:Nat,rankAt s (ranksL.drop i) i=R∧m=5 - i∧i≤5∧st.hp= []∧st.tm 0= .p (.str s)∧st.tm 3= .own 53 1 (ranksL.map rowR)∧st.tm 4=i64 (i:Nat)
theorem rank_ok {W0 nb s}:DCalls ⟨Tryz.prog,W0,nb⟩ 213 [.p (.str s)] [] (i64 (Pp.rank s)) []:=by
 rw[←rank_eq];obtain⟨R,hR⟩:∃R,rankAt s ranksL 0=R:=⟨_,rfl⟩
 rw[hR];refine dcalls_end Tryz.func213 rfl (by kernel_rfl) 25 Tryz.ntmps213 #[.tmp 2] rfl (Nat.le_of_ble_eq_true rfl) ?_;simp;refine⟨rkI s R,5,.here ⟨0,hR,by simp,by simp,by simp,by simp,by simp[ranksL,rowR,rowsS],by simp⟩,?_⟩;rintro m ⟨tm,hp⟩ ⟨i,h,rfl,hi,h0,h1,h3,h4⟩;simp only at h0 h1 h3 h4;subst h0;have hrl:ranksL.length=5:=rfl;simp[h3,h4,hrl];rcases Nat.lt_or_ge i 5 with hlt | hge
 ·have hlt':i < ranksL.length:=by rw[hrl];exact hlt
  have hd:ranksL.drop i=ranksL[i]::ranksL.drop (i + 1):=List.drop_eq_getElem_cons hlt';rw[hd]at h;simp only[rankAt]at h;have hw:=w64_id (n:=(i:Int)+ 1) (by omega) (by omega);simp only[w64]at hw;have hsm:ranksL[i].length < 1000000:=by
   have:∀r∈ranksL,r.length < 1000000:=by decide
   exact this _ (List.getElem_mem hlt')
  have hi5:(i:Int)< 5:=by omega
  simp[hi5,hlt',h1,h3,h4,rowR,hrl,List.getElem?_eq_getElem hlt'];refine CallGoal.same (in_ok hsm) ?_;cases hq:isIn ranksL[i] s with
  | true=>
   rw[hq,if_pos rfl]at h;subst h;simp[h4,hw];exact .kk
  | false=>
   rw[hq]at h;simp only[Bool.false_eq_true,if_false]at h;simp[h4,hw];exact .same (5 -(i + 1)) (by omega) ⟨i + 1,h,rfl,by omega,by simp,by simp[h1],by simp[h3],by simp[hw]⟩
 ·have:i=5:=by omega
  subst this;simp[ranksL,rankAt]at h;subst h;simp;exact .kk
end Rk
end Go.Proofs.Dm
set_option maxHeartbeats 4000000
namespace Go.Proofs.Dm
open Go Go.Proofs Go.Proofs.Tryz Go.Proofs.Dm.Sc
namespace Rp
attribute [local simp] rbox encT encN encNs takes handsOn isTmp Op.operands Call.operands
def HX (C:Ctx) (l:List Tok) (k:Int) (X:RM):Prop:=∀{rs nd rs'},X rs=some (nd,rs')→DCalls C 192 [.ref 0 0,i64 k] [rbox l rs] (.agg ((encN nd).map .p)) [rbox l rs']
theorem expr6 {W0 nb l U} (hU:HN ⟨Tryz.prog,W0,nb⟩ l 212 U):HX ⟨Tryz.prog,W0,nb⟩ l 6 U:=by
 intro rs ⟨k0,t0,ks0⟩ rs' h;refine dcalls_end Tryz.func192 rfl (by kernel_rfl) 51 Tryz.ntmps192 #[.cell 4 26] rfl (Nat.le_of_ble_eq_true rfl) ?_;simp;refine CallGoal.same (hU h) ?_
 try simp
 exact .kk
theorem exprStep {W0 nb l N} {X:RM} {k:Int} (k1:1≤k) (k5:k≤5) (hX:HX ⟨Tryz.prog,W0,nb⟩ l (k + 1) X):HX ⟨Tryz.prog,W0,nb⟩ l k (fun rs=>(X rs).bind fun x=>exprL l X k N x.1 x.2):=by
 intro rs ⟨k0,t0,ks0⟩ rs' h;dsimp only at h;obtain⟨⟨⟨k1',t1,ks1⟩,p1⟩,g1,h⟩:=Option.bind_eq_some_iff.1 h
 try dsimp only at g1 h
 have hw:=w64_id (n:=k + 1) (by omega) (by omega);simp only[w64]at hw;have hk:¬5 < k:=by omega
 refine dcalls_end Tryz.func192 rfl (by kernel_rfl) 51 Tryz.ntmps192 #[.cell 4 26] rfl (Nat.le_of_ble_eq_true rfl) ?_;simp[hk,hw];refine CallGoal.same (hX g1) ?_
 try simp[hw]
 refine⟨fun m s=>∃kx tx ksx ps,exprL l X k m (.mk kx tx ksx) ps=some (.mk k0 t0 ks0,rs')∧s.hp= [rbox l ps,[i64 0,i64 0,.own 26 3 []],[i64 kx,i64 tx,.p (.sl 3 (encNs ksx))]]∧s.tm 0= .ref 0 0∧s.tm 1=i64 k∧s.tm 4= .ref 1 0∧s.tm 5= .ref 2 0,N,.here ⟨k1',t1,ks1,p1,h,?_⟩,?_⟩
 ·simp
 rintro m ⟨tm,hp⟩ ⟨kx,tx,ksx,ps,h,e1,e3,e4,e5,e6⟩;simp only at e1 e3 e4 e5 e6;subst e1;cases m with
 | zero=>cases h
 | succ m=>
  simp only[exprL]at h;simp[e3,e4,e6];refine drawWp.intro [] [17] mixed (by kernel_rfl) (by kernel_rfl) (by kernel_rfl) ?_
  try simp
  try simp[e3,e4,e6]
  cases b1:decide (ps.bad < 0)with
  | false=>
   simp only[b1,Bool.false_eq_true,if_false]at h;simp only[Option.some.injEq,Prod.mk.injEq,Nd.mk.injEq]at h;obtain⟨⟨rfl,rfl,rfl⟩,rfl⟩:=h;simp[b1,e3,e4,e6];refine⟨by simp[e3,e4],by simp[e3,e4],?_⟩
   try simp
   try simp[e5,e6]
   exact .keep (by simp[e5]) (.refl _) (by simp) (by simp[e5]) (by simp[e5]) (by simp[e5])
  | true=>
   simp only[b1,if_true]at h;obtain⟨t,h2,h⟩:=Option.bind_eq_some_iff.1 h
   try dsimp only at h2 h
   have h3:kindQ l ps 4=some (t.kind==4):=by simp only[kindQ,h2];rfl
   have h4:0≤ps.at_∧l[ps.at_.toNat]? =some t:=by
    unfold here at h2;split at h2
    ·rename_i q;exact⟨q,h2⟩
    ·cases h2
   simp[b1,e3];refine CallGoal.same (kindQ_ok h3) ?_
   try simp[e3,e4,e6]
   cases b2:t.kind==4 with
   | false=>
    simp only[b2,Bool.false_eq_true,if_false]at h;simp only[Option.some.injEq,Prod.mk.injEq,Nd.mk.injEq]at h;obtain⟨⟨rfl,rfl,rfl⟩,rfl⟩:=h
    try simp[b2,e3,e4,e6]
    refine⟨by simp[e3,e4],by simp[e3,e4],?_⟩
    try simp
    try simp[e5,e6]
    exact .keep (by simp[e5]) (.refl _) (by simp) (by simp[e5]) (by simp[e5]) (by simp[e5])
   | true=>
    simp only[b2,if_true]at h
    try simp[b2,e3,h4.1,h4.2]
    refine CallGoal.same (Rk.rank_ok) ?_
    try simp[e3,e4,e6]
    cases b3:Pp.rank t.text==k with
    | false=>
     simp only[b3,Bool.false_eq_true,if_false]at h;simp only[Option.some.injEq,Prod.mk.injEq,Nd.mk.injEq]at h;obtain⟨⟨rfl,rfl,rfl⟩,rfl⟩:=h
     try simp[b3,e3,e4,e6]
     refine⟨by simp[e3,e4],by simp[e3,e4],?_⟩
     try simp
     try simp[e5,e6]
     exact .keep (by simp[e5]) (.refl _) (by simp) (by simp[e5]) (by simp[e5]) (by simp[e5])
    | true=>
     simp only[b3,if_true]at h;obtain⟨⟨⟨k2,t2,ks2⟩,p2⟩,h6,h⟩:=Option.bind_eq_some_iff.1 h
     try dsimp only at h6 h
     try simp[b3,e3,e4]
     refine⟨by simp[e3,e4],by simp[e3,e4],?_⟩
     try simp
     try simp[e3,e6]
     refine CallGoal.same (next_ok) ?_
     try simp[e3,e4,e6]
     refine drawWp.intro [(1,5)] [1,5] mixed (by kernel_rfl) (by kernel_rfl) (by kernel_rfl) ?_
     try simp
     try simp[e3,e4,e6,hw]
     refine CallGoal.same (hX h6) ?_
     try simp[e3,e4,e6]
     refine CallGoal.intro (leaf_pF (by simp) (by simp)) (.cons (.refl _) (.cons (.refl _) (.cons (.fr _ _ _) .nil))) ?_
     try simp[e3,e4,e6]
     refine⟨by simp[e3,e4,e6],by simp[e3,e4,e6],?_⟩
     try simp
     try simp[e3,e4,e6]
     refine .same m (by omega) ⟨_,_,_,_,h,?_⟩;simp[e3,e4,e5,e6]
theorem exprT_ok {W0 nb l U N} (hU:HN ⟨Tryz.prog,W0,nb⟩ l 212 U):∀j:Nat,j≤5→HX ⟨Tryz.prog,W0,nb⟩ l (6 -(j:Int)) (exprT l U N j)
 | 0,_=>expr6 hU
 | j + 1,hj=>by
  have this:HX ⟨Tryz.prog,W0,nb⟩ l (6 -(j:Int)) (exprT l U N j):=exprT_ok (N:=N) hU j (by omega);have e:(6 -(j:Int))=(5 -(j:Int))+ 1:=by omega
  rw[e]at this;have e2:(6 -((j + 1:Nat):Int))=5 -(j:Int):=by omega
  rw[e2];exact exprStep (by omega) (by omega) this
theorem exprE_ok {W0 nb l U N} (hU:HN ⟨Tryz.prog,W0,nb⟩ l 212 U):HE ⟨Tryz.prog,W0,nb⟩ l (exprE l U N):=by
 intro k rs nd rs' h;simp only[exprE]at h;split at h
 ·rename_i hk;have hk:k=1:=by simpa using hk
  subst hk;exact exprT_ok (N:=N) hU 5 (by omega) h
 ·cases h
end Rp
end Go.Proofs.Dm
set_option maxHeartbeats 4000000
namespace Go.Proofs.Dm
open Go Go.Proofs Go.Proofs.Tryz Go.Proofs.Dm.Sc
namespace Rp
attribute [local simp] rbox encT encN encNs takes handsOn isTmp Op.operands Call.operands
def HC (C:Ctx) (l:List Tok) (K:Nd→RM):Prop:=∀{k t ks rs nd rs'},K (.mk k t ks) rs=some (nd,rs')→DCalls C 232 [.ref 0 0,.agg [i64 k,i64 t,.p (.sl 3 (encNs ks))]] [rbox l rs] (.agg ((encN nd).map .p)) [rbox l rs']
def prJ (l:List Tok) (K:Nd→RM) (N:Nat) (r:Nd×RS) (s:St):Prop:=∃k t ks ps,primL l K N (.mk k t ks) ps=some r∧s.hp= [rbox l ps,[i64 0,i64 0,.own 26 3 []],[i64 k,i64 t,.p (.sl 3 (encNs ks))]]∧s.tm 0= .ref 0 0∧s.tm 2= .ref 1 0∧s.tm 3= .ref 2 0
theorem prim_ok {W0 nb l E K N} (hE:HE ⟨Tryz.prog,W0,nb⟩ l E) (hK:HC ⟨Tryz.prog,W0,nb⟩ l K):HN ⟨Tryz.prog,W0,nb⟩ l 223 (primR l E K N):=by
 intro rs ⟨k0,t0,ks0⟩ rs' h;unfold primR at h;refine dcalls_end Tryz.func223 rfl (by kernel_rfl) 74 Tryz.ntmps223 #[.cell 2 26] rfl (Nat.le_of_ble_eq_true rfl) ?_;simp;cases b0:decide (0≤rs.bad)with
 | true=>
  simp only[b0,if_true]at h;simp only[Option.some.injEq,Prod.mk.injEq,Nd.mk.injEq]at h;obtain⟨⟨rfl,rfl,rfl⟩,rfl⟩:=h;simp;exact Pp.endE (by simp) (by simp) (by simp) (by simp)
 | false=>
  simp only[b0,Bool.false_eq_true,if_false]at h;simp;apply join (J:=prJ l K N (.mk k0 t0 ks0,rs'))
  case main=>
   intro key;obtain⟨b1,h1,h⟩:=Option.bind_eq_some_iff.1 h
   try dsimp only at h1 h
   refine CallGoal.same (kindQ_ok h1) ?_
   try simp
   cases b1 with
   | true=>
    simp only[if_true]at h;simp;refine CallGoal.same (next_ok) ?_
    try simp
    refine CallGoal.same (leaf_nilF) ?_
    try simp
    exact key _ ⟨_,_,_,_,h,by simp,by simp,by simp,by simp⟩
   | false=>
    simp only[Bool.false_eq_true,if_false]at h;simp;obtain⟨b2,h2,h⟩:=Option.bind_eq_some_iff.1 h
    try dsimp only at h2 h
    refine CallGoal.same (kindQ_ok h2) ?_
    try simp
    cases b2 with
    | true=>
     simp only[if_true]at h;simp;refine CallGoal.same (next_ok) ?_
     try simp
     refine CallGoal.same (leaf_nilF) ?_
     try simp
     exact key _ ⟨_,_,_,_,h,by simp,by simp,by simp,by simp⟩
    | false=>
     simp only[Bool.false_eq_true,if_false]at h;simp;obtain⟨b3,h3,h⟩:=Option.bind_eq_some_iff.1 h
     try dsimp only at h3 h
     refine CallGoal.same (kindQ_ok h3) ?_
     try simp
     cases b3 with
     | true=>
      simp only[if_true]at h;simp;refine CallGoal.same (next_ok) ?_
      try simp
      refine CallGoal.same (leaf_nilF) ?_
      try simp
      exact key _ ⟨_,_,_,_,h,by simp,by simp,by simp,by simp⟩
     | false=>
      simp only[Bool.false_eq_true,if_false]at h;simp;obtain⟨b4,h4,h⟩:=Option.bind_eq_some_iff.1 h
      try dsimp only at h4 h
      refine CallGoal.same (isW_ok h4) ?_
      try simp
      cases b4 with
      | false=>
       simp only[Bool.false_eq_true,if_false]at h;simp only[Option.some.injEq,Prod.mk.injEq,Nd.mk.injEq]at h;obtain⟨⟨rfl,rfl,rfl⟩,rfl⟩:=h;simp;refine CallGoal.same (fail_ok) ?_
       try simp
       exact Pp.endE (by simp) (by simp) (by simp) (by simp)
      | true=>
       simp only[if_true]at h;obtain⟨⟨⟨k5,t5,ks5⟩,p5⟩,h5,h⟩:=Option.bind_eq_some_iff.1 h
       try dsimp only at h5 h
       obtain⟨⟨n6,p6⟩,h6,h⟩:=Option.bind_eq_some_iff.1 h
       try dsimp only at h6 h
       simp;refine CallGoal.same (openR_ok) ?_
       try simp
       refine CallGoal.same (next_ok) ?_
       try simp
       refine CallGoal.same (hE h5) ?_
       try simp
       refine CallGoal.intro (leaf_pF (by simp) (by simp)) (.cons (.refl _) (.cons (.refl _) (.cons (.fr _ _ _) .nil))) ?_
       try simp
       refine CallGoal.same (want_ok h6) ?_
       try simp
       refine CallGoal.same (shut_ok) ?_
       try simp
       exact key _ ⟨_,_,_,_,h,by simp,by simp,by simp,by simp⟩
  case key=>
   rintro⟨tm,hp⟩ ⟨k1,t1,ks1,p1,h,e1,e3,e4,e5⟩;simp only at e1 e3 e4 e5;subst e1;simp[e3];refine⟨fun m s=>prJ l K m (.mk k0 t0 ks0,rs') s,N,.here ⟨k1,t1,ks1,p1,h,by simp,by simp[e3],by simp[e4],by simp[e5]⟩,?_⟩;rintro m ⟨tm,hp⟩ ⟨kx,tx,ksx,ps,h,e1,e3,e4,e5⟩;simp only at e1 e3 e4 e5;subst e1;cases m with
   | zero=>cases h
   | succ m=>
    simp only[primL]at h;simp[e3,e5];cases q1:decide (ps.bad < 0)with
    | false=>
     simp only[q1,Bool.false_eq_true,if_false]at h;simp only[Option.some.injEq,Prod.mk.injEq,Nd.mk.injEq]at h;obtain⟨⟨rfl,rfl,rfl⟩,rfl⟩:=h;simp[e4,e5];exact .keep (by simp[e4]) (.refl _) (by simp) (by simp[e4]) (by simp[e4]) (by simp[e4])
    | true=>
     simp only[q1,if_true]at h;obtain⟨b,h2,h⟩:=Option.bind_eq_some_iff.1 h
     try dsimp only at h2 h
     obtain⟨c,h3,h⟩:=Option.bind_eq_some_iff.1 h
     try dsimp only at h3 h
     simp[e3];refine CallGoal.same (isW_ok h2) ?_
     try simp[e3,e5]
     cases b with
     | true=>
      simp[e3,e5];refine CallGoal.same (isW_ok h3) ?_
      try simp[e3,e5]
      cases c with
      | true=>
       simp only[if_true]at h;obtain⟨⟨n7,p7⟩,h7,h⟩:=Option.bind_eq_some_iff.1 h
       try dsimp only at h7 h
       try simp[e3,e5]
       refine CallGoal.same (next_ok) ?_
       try simp[e3,e5]
       refine drawWp.intro [(1,2)] [2] mixed (by kernel_rfl) (by kernel_rfl) (by kernel_rfl) ?_
       try simp
       try simp[e3,e5]
       refine CallGoal.same (wantK_ok h7) ?_
       try simp[e3,e5]
       refine CallGoal.intro (leaf_pF (by simp) (by simp)) (.cons (.refl _) (.cons (.refl _) (.cons (.fr _ _ _) .nil))) ?_
       try simp[e3,e5]
       refine⟨by simp[e3,e5],by simp[e3,e5],?_⟩
       try simp
       try simp[e3,e5]
       refine .same m (by omega) ⟨_,_,_,_,h,?_⟩;simp[e3,e4,e5]
      | false=>
       simp only[Bool.false_eq_true,if_false,if_true]at h;obtain⟨⟨⟨k7,t7,ks7⟩,p7⟩,h7,h⟩:=Option.bind_eq_some_iff.1 h
       try dsimp only at h7 h
       simp[e3,e5];refine CallGoal.same (hK h7) ?_
       try simp[e3,e5]
       refine .same m (by omega) ⟨_,_,_,_,h,?_⟩;simp[e3,e4,e5]
     | false=>
      simp[e3,e5];refine CallGoal.same (isW_ok h3) ?_
      try simp[e3,e5]
      cases c with
      | true=>
       simp only[if_true]at h;simp[e3,e5];refine CallGoal.same (isW_ok h3) ?_
       try simp[e3,e5]
       obtain⟨⟨n7,p7⟩,h7,h⟩:=Option.bind_eq_some_iff.1 h
       try dsimp only at h7 h
       try simp[e3,e5]
       refine CallGoal.same (next_ok) ?_
       try simp[e3,e5]
       refine drawWp.intro [(1,2)] [2] mixed (by kernel_rfl) (by kernel_rfl) (by kernel_rfl) ?_
       try simp
       try simp[e3,e5]
       refine CallGoal.same (wantK_ok h7) ?_
       try simp[e3,e5]
       refine CallGoal.intro (leaf_pF (by simp) (by simp)) (.cons (.refl _) (.cons (.refl _) (.cons (.fr _ _ _) .nil))) ?_
       try simp[e3,e5]
       refine⟨by simp[e3,e5],by simp[e3,e5],?_⟩
       try simp
       try simp[e3,e5]
       refine .same m (by omega) ⟨_,_,_,_,h,?_⟩;simp[e3,e4,e5]
      | false=>
       simp only[Bool.false_eq_true,if_false]at h;simp only[Option.some.injEq,Prod.mk.injEq,Nd.mk.injEq]at h;obtain⟨⟨rfl,rfl,rfl⟩,rfl⟩:=h;simp[e4,e5];exact .keep (by simp[e4]) (.refl _) (by simp) (by simp[e4]) (by simp[e4]) (by simp[e4])
end Rp
end Go.Proofs.Dm
set_option maxHeartbeats 4000000
namespace Go.Proofs.Dm
open Go Go.Proofs Go.Proofs.Tryz Go.Proofs.Dm.Sc
namespace Rp
attribute [local simp] rbox encT encN encNs takes handsOn isTmp Op.operands Call.operands
def caI (l:List Tok) (E:Int→RM) (x:List DV) (tok:Int) (rs:List Nd) (rp:RS) (m:Nat) (s:St):Prop:=∃(first:Bool) (ks1:List Nd) (ps1:RS),callL l E m first ks1 ps1=some (rs,rp)∧s.hp= [rbox l ps1,x,[i64 0,i64 0,.own 26 3 []],[i64 26,i64 tok,.own 26 3 (encNs ks1)]]∧s.tm 0= .ref 0 0∧s.tm 4= .ref 2 0∧s.tm 5= .ref 3 0∧s.tm 6= .p (.bool first)
def caJ (l:List Tok) (x:List DV) (tok:Int) (rs:List Nd) (rp:RS) (s:St):Prop:=s.hp= [rbox l rp,x,[i64 0,i64 0,.own 26 3 []],[i64 26,i64 tok,.own 26 3 (encNs rs)]]∧s.tm 0= .ref 0 0∧s.tm 4= .ref 2 0∧s.tm 5= .ref 3 0
theorem callR_ok {W0 nb l E N} (hE:HE ⟨Tryz.prog,W0,nb⟩ l E):HC ⟨Tryz.prog,W0,nb⟩ l (callR l E N):=by
 intro k t ks ps ⟨k0,t0,ks0⟩ ps' h;unfold callR at h;obtain⟨⟨rs,rp⟩,h1,h⟩:=Option.bind_eq_some_iff.1 h
 try dsimp only at h1 h
 obtain⟨⟨n2,p2⟩,h2,h⟩:=Option.bind_eq_some_iff.1 h
 try dsimp only at h2 h
 simp only[Option.some.injEq,Prod.mk.injEq,Nd.mk.injEq]at h;obtain⟨⟨rfl,rfl,rfl⟩,rfl⟩:=h;refine dcalls_end Tryz.func232 rfl (by kernel_rfl) 45 Tryz.ntmps232 #[.cell 4 26] rfl (Nat.le_of_ble_eq_true rfl) ?_;simp;refine CallGoal.same (openR_ok) ?_
 try simp
 refine drawWp.intro2 [(1,2),(1,5),(4,5)] [2] mixed (by kernel_rfl) (by kernel_rfl) (by kernel_rfl) ?_
 try simp
 refine CallGoal.same (next_ok) ?_
 try simp
 refine CallGoal.intro (leaf_p (by simp) (by simp)) (.cons (.refl _) (.cons (.refl _) (.cons (.fr _ _ _) .nil))) ?_
 try simp
 refine⟨by simp,by simp,by simp,?_⟩
 try simp
 refine LoopGoal.cut (caJ l [i64 k,i64 t,.p (.sl 3 (encNs ks))] (next l (openR ps)).1 rs rp) ?_ ?_
 ·refine⟨caI l E [i64 k,i64 t,.p (.sl 3 (encNs ks))] (next l (openR ps)).1 rs rp,N,.here ⟨true,[.mk k t ks],_,h1,by simp,by simp,by simp,by simp,by simp⟩,?_⟩;rintro m ⟨tm,hp⟩ ⟨first,ks1,ps1,g,e1,e3,e4,e5,e6⟩;simp only at e1 e3 e4 e5 e6;subst e1;cases m with
  | zero=>cases g
  | succ m=>
   simp only[callL]at g;simp[e3,e5,e6];cases g1:decide (ps1.bad < 0)with
   | false=>
    simp only[g1,Bool.false_eq_true,if_false,Option.some.injEq,Prod.mk.injEq]at g;obtain⟨rfl,rfl⟩:=g;simp[e3,e4,e5,e6];exact⟨by simp,by simp[e3],by simp[e4],by simp[e5]⟩
   | true=>
    simp only[g1,if_true]at g;obtain⟨b1,g2,g⟩:=Option.bind_eq_some_iff.1 g;cases first with
    | true=>
     simp[e3,e6];refine CallGoal.same (isW_ok g2) ?_
     try simp[e3,e5,e6]
     cases b1 with
     | true=>
      simp only[if_true,Option.some.injEq,Prod.mk.injEq]at g;obtain⟨rfl,rfl⟩:=g;simp[e3,e4,e5,e6];exact⟨by simp,by simp[e3],by simp[e4],by simp[e5]⟩
     | false=>
      simp only[Bool.false_eq_true,if_false,if_true]at g;obtain⟨⟨⟨k4,t4,ks4⟩,q4⟩,g5,g⟩:=Option.bind_eq_some_iff.1 g;obtain⟨ks',g6,g⟩:=Option.bind_eq_some_iff.1 g;obtain⟨rfl,g7,g8⟩:=Pp.app_some g6;dsimp only at g g5;simp[e3,e6];refine drawWp.intro [(1,3)] [3] mixed (by kernel_rfl) (by kernel_rfl) (by kernel_rfl) ?_
      try simp
      try simp[e3,e5]
      refine CallGoal.same (hE g5) ?_
      try simp[e3,e5,e6,g7,g8]
      refine⟨by simp[e3,e5],by simp[e3,e5],?_⟩
      try simp
      try simp[e3,e5,e6]
      refine .same m (by omega) ⟨false,_,_,g,?_⟩;simp[e3,e4,e5,e6,encNs_append]
    | false=>
     simp[e3,e6];refine CallGoal.same (isW_ok g2) ?_
     try simp[e3,e5,e6]
     cases b1 with
     | true=>
      simp only[if_true,Option.some.injEq,Prod.mk.injEq]at g;obtain⟨rfl,rfl⟩:=g;simp[e3,e4,e5,e6];exact⟨by simp,by simp[e3],by simp[e4],by simp[e5]⟩
     | false=>
      simp only[Bool.false_eq_true,if_false]at g;obtain⟨⟨n9,w9⟩,g9,g⟩:=Option.bind_eq_some_iff.1 g;obtain⟨⟨⟨k4,t4,ks4⟩,q4⟩,g5,g⟩:=Option.bind_eq_some_iff.1 g;obtain⟨ks',g6,g⟩:=Option.bind_eq_some_iff.1 g;obtain⟨rfl,g7,g8⟩:=Pp.app_some g6;dsimp only at g g5;simp[e3,e6];refine CallGoal.same (want_ok g9) ?_
      try simp[e3,e5,e6]
      refine drawWp.intro [(1,3)] [3] mixed (by kernel_rfl) (by kernel_rfl) (by kernel_rfl) ?_
      try simp
      try simp[e3,e5]
      refine CallGoal.same (hE g5) ?_
      try simp[e3,e5,e6,g7,g8]
      refine⟨by simp[e3,e5],by simp[e3,e5],?_⟩
      try simp
      try simp[e3,e5,e6]
      refine .same m (by omega) ⟨false,_,_,g,?_⟩;simp[e3,e4,e5,e6,encNs_append]
 rintro⟨tm,hp⟩ ⟨e1,e3,e4,e5⟩;simp only at e1 e3 e4 e5;subst e1;simp[e3];refine CallGoal.same (want_ok h2) ?_
 try simp[e3,e5]
 refine CallGoal.same (shut_ok) ?_
 try simp[e3,e4,e5]
 exact Pp.endE (by simp[e4]) (by simp) (by simp[e4]) (by simp[e4])
end Rp
end Go.Proofs.Dm
set_option maxHeartbeats 4000000
namespace Go.Proofs.Dm
open Go Go.Proofs Go.Proofs.Tryz Go.Proofs.Dm.Sc
namespace Rp
attribute [local simp] rbox encT encN encNs takes handsOn isTmp Op.operands Call.operands
def fiI (l:List Tok) (D:RM) (N:Nat) (rs:List Nd) (rp:RS) (m:Nat) (s:St):Prop:=∃(imp:Bool) (ks1:List Nd) (ps1:RS),fileL l D N m imp ks1 ps1=some (rs,rp)∧s.hp= [rbox l ps1,[i64 0,i64 0,.own 26 3 []],[i64 1,i64 0,.own 26 3 (encNs ks1)]]∧s.tm 0= .ref 0 0∧s.tm 2= .ref 1 0∧s.tm 3= .ref 2 0∧s.tm 4= .p (.bool imp)
def fiJ (l:List Tok) (rs:List Nd) (rp:RS) (s:St):Prop:=s.hp= [rbox l rp,[i64 0,i64 0,.own 26 3 []],[i64 1,i64 0,.own 26 3 (encNs rs)]]∧s.tm 0= .ref 0 0∧s.tm 2= .ref 1 0∧s.tm 3= .ref 2 0
theorem fileR_ok {W0 nb l D N} (hD:HN ⟨Tryz.prog,W0,nb⟩ l 135 D):HN ⟨Tryz.prog,W0,nb⟩ l 84 (fileR l D N):=by
 intro rs0 ⟨k0,t0,ks0⟩ rs' h;unfold fileR at h;obtain⟨⟨n1,p1⟩,h1,h⟩:=Option.bind_eq_some_iff.1 h
 try dsimp only at h1 h
 obtain⟨⟨n2,p2⟩,h2,h⟩:=Option.bind_eq_some_iff.1 h
 try dsimp only at h2 h
 obtain⟨⟨n3,p3⟩,h3,h⟩:=Option.bind_eq_some_iff.1 h
 try dsimp only at h3 h
 obtain⟨⟨rs,rp⟩,h4,h⟩:=Option.bind_eq_some_iff.1 h
 try dsimp only at h4 h
 simp only[Option.some.injEq,Prod.mk.injEq,Nd.mk.injEq]at h;obtain⟨⟨rfl,rfl,rfl⟩,rfl⟩:=h;refine dcalls_end Tryz.func84 rfl (by kernel_rfl) 52 Tryz.ntmps84 #[.cell 2 26] rfl (Nat.le_of_ble_eq_true rfl) ?_;simp;refine CallGoal.same (leaf_nil) ?_
 try simp
 refine CallGoal.same (want_ok h1) ?_
 try simp
 refine drawWp.intro [(1,3),(1,4)] [3,4] mixed (by kernel_rfl) (by kernel_rfl) (by kernel_rfl) ?_
 try simp
 refine CallGoal.same (wantK_ok h2) ?_
 try simp
 refine CallGoal.same (leaf_nil) ?_
 try simp
 refine⟨by simp,by simp,?_⟩
 try simp
 refine CallGoal.same (wantK_ok h3) ?_
 try simp
 refine LoopGoal.cut (fiJ l rs rp) ?_ ?_
 ·refine⟨fiI l D N rs rp,N,.here ⟨true,[.mk 2 n2 []],p3,h4,by simp,by simp,by simp,by simp,by simp⟩,?_⟩;rintro m ⟨tm,hp⟩ ⟨imp,ks1,ps1,g,e1,e3,e4,e5,e6⟩;simp only at e1 e3 e4 e5 e6;subst e1;cases m with
  | zero=>cases g
  | succ m=>
   simp only[fileL]at g;simp[e3,e5,e6];cases g1:decide (ps1.bad < 0)with
   | false=>
    simp only[g1,Bool.false_eq_true,if_false,Option.some.injEq,Prod.mk.injEq]at g;obtain⟨rfl,rfl⟩:=g;simp[e3,e4,e5,e6];exact⟨by simp,by simp[e3],by simp[e4],by simp[e5]⟩
   | true=>
    simp only[g1,if_true]at g;obtain⟨r1,g2,g⟩:=Option.bind_eq_some_iff.1 g;obtain⟨b1,g3,g⟩:=Option.bind_eq_some_iff.1 g;simp[e3];refine CallGoal.same (semis_ok g2) ?_
    try simp[e3,e5,e6]
    refine CallGoal.same (kindQ_ok g3) ?_
    try simp[e3,e5,e6]
    cases b1 with
    | true=>
     simp only[if_true,Option.some.injEq,Prod.mk.injEq]at g;obtain⟨rfl,rfl⟩:=g;simp[e3,e4,e5,e6];exact⟨by simp,by simp[e3],by simp[e4],by simp[e5]⟩
    | false=>
     simp only[Bool.false_eq_true,if_false]at g;obtain⟨b2,g4,g⟩:=Option.bind_eq_some_iff.1 g;cases imp with
     | false=>
      simp only[Bool.false_eq_true,if_false,Option.some.injEq]at g4;subst g4;simp only[Bool.false_eq_true,if_false]at g;obtain⟨⟨⟨k5,t5,ks5⟩,w5⟩,g5,g⟩:=Option.bind_eq_some_iff.1 g;obtain⟨ks',g6,g⟩:=Option.bind_eq_some_iff.1 g;obtain⟨⟨n9,w9⟩,g9,g⟩:=Option.bind_eq_some_iff.1 g;obtain⟨rfl,g7,g8⟩:=Pp.app_some g6;dsimp only at g g5 g9
      try simp[e3,e5,e6]
      refine drawWp.intro [(1,3)] [3] mixed (by kernel_rfl) (by kernel_rfl) (by kernel_rfl) ?_
      try simp
      try simp[e3,e5,e6]
      refine CallGoal.same (hD g5) ?_
      try simp[e3,e5,e6,g7,g8]
      refine⟨by simp[e3,e5],by simp[e3,e5],?_⟩
      try simp
      try simp[e3,e5,e6]
      refine CallGoal.same (wantK_ok g9) ?_
      try simp[e3,e5,e6]
      refine .same m (by omega) ⟨false,_,_,g,?_⟩;simp[e3,e4,e5,e6,encNs_append]
     | true=>
      simp only[if_true]at g4;simp[e3,e5,e6];refine CallGoal.same (isW_ok g4) ?_
      try simp[e3,e5,e6]
      cases b2 with
      | false=>
       simp only[Bool.false_eq_true,if_false]at g;obtain⟨⟨⟨k5,t5,ks5⟩,w5⟩,g5,g⟩:=Option.bind_eq_some_iff.1 g;obtain⟨ks',g6,g⟩:=Option.bind_eq_some_iff.1 g;obtain⟨⟨n9,w9⟩,g9,g⟩:=Option.bind_eq_some_iff.1 g;obtain⟨rfl,g7,g8⟩:=Pp.app_some g6;dsimp only at g g5 g9
       try simp[e3,e5,e6]
       refine drawWp.intro [(1,3)] [3] mixed (by kernel_rfl) (by kernel_rfl) (by kernel_rfl) ?_
       try simp
       try simp[e3,e5,e6]
       refine CallGoal.same (hD g5) ?_
       try simp[e3,e5,e6,g7,g8]
       refine⟨by simp[e3,e5],by simp[e3,e5],?_⟩
       try simp
       try simp[e3,e5,e6]
       refine CallGoal.same (wantK_ok g9) ?_
       try simp[e3,e5,e6]
       refine .same m (by omega) ⟨false,_,_,g,?_⟩;simp[e3,e4,e5,e6,encNs_append]
      | true=>
       simp only[if_true]at g;obtain⟨⟨n5,w5⟩,g5,g⟩:=Option.bind_eq_some_iff.1 g;obtain⟨ks',g6,g⟩:=Option.bind_eq_some_iff.1 g;obtain⟨⟨n9,w9⟩,g9,g⟩:=Option.bind_eq_some_iff.1 g;obtain⟨rfl,g7,g8⟩:=Pp.app_some g6;dsimp only at g g9;simp[e3,e5,e6];refine CallGoal.same (next_ok) ?_
       try simp[e3,e5,e6]
       refine drawWp.intro [(1,3),(1,4)] [3,4] mixed (by kernel_rfl) (by kernel_rfl) (by kernel_rfl) ?_
       try simp
       try simp[e3,e5,e6]
       refine CallGoal.same (wantK_ok g5) ?_
       try simp[e3,e5,e6]
       refine CallGoal.same (leaf_nil) ?_
       try simp[e3,e5,e6,g7,g8]
       refine⟨by simp[e3,e5],by simp[e3,e5],?_⟩
       try simp
       try simp[e3,e5,e6]
       refine CallGoal.same (wantK_ok g9) ?_
       try simp[e3,e5,e6]
       refine .same m (by omega) ⟨true,_,_,g,?_⟩;simp[e3,e4,e5,e6,encNs_append]
 rintro⟨tm,hp⟩ ⟨e1,e3,e4,e5⟩;simp only at e1 e3 e4 e5;subst e1;simp[e3,e4,e5];exact Pp.endE (by simp[e4]) (by simp) (by simp[e4]) (by simp[e4])
end Rp
end Go.Proofs.Dm
set_option maxHeartbeats 4000000
namespace Go.Proofs.Dm
open Go Go.Proofs Go.Proofs.Tryz Go.Proofs.Dm.Sc
namespace Rp
attribute [local simp] rbox encT encN encNs takes handsOn isTmp Op.operands Call.operands
theorem parse_ok {W0 nb l F nd k} (hl:l≠ []) (hF:HN ⟨Tryz.prog,W0,nb⟩ l 84 F) (h:parseR F=some (nd,k)):DCalls ⟨Tryz.prog,W0,nb⟩ 45 [.p (.sl 5 (l.map encT))] [] (.tup [.agg ((encN nd).map .p),i64 k]) []:=by
 unfold parseR at h;obtain⟨⟨⟨k1,t1,ks1⟩,p1⟩,h1,h⟩:=Option.bind_eq_some_iff.1 h
 try dsimp only at h1 h
 have hl':((l.length:Int)==0)=false:=by
  have:l.length≠0:=by simpa using hl
  simp;omega
 refine dcalls_end Tryz.func45 rfl (by kernel_rfl) 26 Tryz.ntmps45 #[.cell 2 26,.tmp 3] rfl (Nat.le_of_ble_eq_true rfl) ?_;simp[hl,hl'];refine CallGoal.same (hF h1) ?_
 try simp
 cases g1:decide (0≤p1.bad)with
 | true=>
  simp only[g1,if_true]at h;simp only[Option.some.injEq,Prod.mk.injEq]at h;obtain⟨rfl,rfl⟩:=h;simp;refine drawWp.intro [(4,5)] [4,5] mixed (by kernel_rfl) (by kernel_rfl) (by kernel_rfl) ?_
  try simp
  refine⟨by simp,by simp,?_⟩
  try simp
  exact .kk
 | false=>
  simp only[g1,Bool.false_eq_true,if_false]at h;simp only[Option.some.injEq,Prod.mk.injEq]at h;obtain⟨rfl,rfl⟩:=h;simp;exact .kk
end Rp
end Go.Proofs.Dm
set_option maxHeartbeats 8000000
namespace Go.Proofs.Dm
open Go Go.Proofs Go.Proofs.Tryz Go.Proofs.Dm.Sc
namespace Rp
attribute [local simp] rbox encT encN encNs takes handsOn isTmp Op.operands Call.operands
structure RFok (C:Ctx) (l:List Tok) (F:RF):Prop where
 unary:HN C l 212 F.unary
 block:HN C l 195 F.block
 ifs:HN C l 224 F.ifs
 stmt:HN C l 214 F.stmt
theorem RFok.step {W0 nb l F N} (h:RFok ⟨Tryz.prog,W0,nb⟩ l F):RFok ⟨Tryz.prog,W0,nb⟩ l (stepR l N F) where
 unary:=unary_ok h.unary (prim_ok (exprE_ok h.unary) (callR_ok (exprE_ok h.unary)))
 block:=block_ok h.stmt
 ifs:=ifs_ok (exprE_ok h.unary) h.block h.ifs
 stmt:=stmtR_ok (vars_ok (exprE_ok h.unary)) (consts_ok (exprE_ok h.unary)) h.block h.ifs (fors_ok (exprE_ok h.unary) h.block) (simpleR_ok (exprE_ok h.unary) (fors_ok (exprE_ok h.unary) h.block)) (exprE_ok h.unary)
theorem rf_ok {W0 nb l N}:∀n,RFok ⟨Tryz.prog,W0,nb⟩ l (rf l N n)
 | 0=>⟨fun{_ _ _} h=>by simp[rf,noR]at h,fun{_ _ _} h=>by simp[rf,noR]at h,fun{_ _ _} h=>by simp[rf,noR]at h,fun{_ _ _} h=>by simp[rf,noR]at h⟩
 | n + 1=>(rf_ok n).step
theorem fileRF_ok {W0 nb l N n}:HN ⟨Tryz.prog,W0,nb⟩ l 84 (fileRF l N (rf l N n)):=
 fileR_ok (declR_ok (vars_ok (exprE_ok (rf_ok n).unary)) (consts_ok (exprE_ok (rf_ok n).unary)) structs_ok (funcs_ok (rf_ok n).block))
theorem text_ok {W0 nb} {s:ByteArray} (hs:s.size < 10000000) {F} {nd l k} (hl:(scanP s).1≠ []∨0≤(scanP s).2.2) (hF:HN ⟨Tryz.prog,W0,nb⟩ (scanP s).1 84 F) (h:textOf (scanP s).1 (scanP s).2.2 (parseR F)=some (nd,l,k)):
  DCalls ⟨Tryz.prog,W0,nb⟩ 23 [.p (.str s)] [] (.tup [.agg ((encN nd).map .p),.p (.sl 5 (l.map encT)),i64 k]) []:=by
 have ca:=Rs.scan_ok (W0:=W0) (nb:=nb) (s:=s) hs;obtain⟨A,hA⟩:∃A,scanP s=A:=⟨_,rfl⟩
 rw[hA]at ca h hF hl;obtain⟨x,xc,f⟩:=A;simp only[Sc.toks,coms]at ca h hF hl;unfold textOf at h;refine dcalls_end Tryz.func23 rfl (by kernel_rfl) 35 Tryz.ntmps23 #[.cell 2 26,.tmp 3,.tmp 4] rfl (Nat.le_of_ble_eq_true rfl) ?_;simp;refine CallGoal.same ca ?_;simp;cases g1:decide (0≤f)with
 | true=>
  simp only[g1,if_true]at h;simp only[Option.some.injEq,Prod.mk.injEq]at h;obtain⟨rfl,rfl,rfl⟩:=h;simp;exact .kk
 | false=>
  have g1':¬0≤f:=by simpa using g1
  have hx:x≠ []:=by
   rcases hl with q | q
   ·exact q
   ·exact absurd q g1'
  simp only[g1,Bool.false_eq_true,if_false]at h;obtain⟨⟨⟨k1,t1,ks1⟩,e⟩,h3,h⟩:=Option.bind_eq_some_iff.1 h
  try dsimp only at h3 h
  simp;refine CallGoal.same (parse_ok hx hF h3) ?_
  try simp
  cases g2:decide (0≤e)with
  | true=>
   simp only[g2,if_true]at h;obtain⟨tok,j1,h⟩:=Option.bind_eq_some_iff.1 h
   try dsimp only at j1 h
   simp only[Option.some.injEq,Prod.mk.injEq]at h;obtain⟨rfl,rfl,rfl⟩:=h;have g2':0≤e:=by simpa using g2
   simp;refine drawWp.intro [(5,6)] [5,6] mixed (by kernel_rfl) (by kernel_rfl) (by kernel_rfl) ?_
   try simp
   try simp[j1,g2',encT]
   refine⟨by simp[j1,g2'],by simp[j1,g2'],?_⟩
   try simp
   try simp
   exact .kk
  | false=>
   simp only[g2,Bool.false_eq_true,if_false]at h;simp only[Option.some.injEq,Prod.mk.injEq]at h;obtain⟨rfl,rfl,rfl⟩:=h;simp;exact .kk
end Rp
end Go.Proofs.Dm
