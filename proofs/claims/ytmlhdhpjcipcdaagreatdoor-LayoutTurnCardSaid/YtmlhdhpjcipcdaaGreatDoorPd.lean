/- Part of the proof: contracts of the functions, walked by the D-machine. No condition. -/
import Derived.Test.YtmlhdhpjcipcdaaGreatDoorPc
set_option linter.unusedSimpArgs false
set_option linter.unusedVariables false
set_option maxHeartbeats 4000000
namespace Go.Proofs.Dm
open Go Go.Proofs Go.Proofs.Tryz Go.Proofs.Dm.Sc
namespace Pp
attribute [local simp] pbox encT encN encNs takes handsOn isTmp Op.operands Call.operands
def callL (l:List Tok) (E:PS→Option (Nd×PS)):Nat→List Nd→PS→Option (List Nd×PS)
 | 0,_,_=>none
 | n + 1,ks,ps=>if decide (ps.fault < 0)then(isW l ps ⟨#[41]⟩).bind fun b=>if b then some (ks,ps)else(E ps).bind fun r=>(app ks r.1).bind fun ks'=>
   (isW l r.2 ⟨#[41]⟩).bind fun c=>if c then callL l E n ks' r.2 else(want l r.2 ⟨#[44]⟩).bind fun p3=>(isW l p3 ⟨#[41]⟩).bind fun d=>callL l E n ks' (if d then bad p3 else p3)
  else some (ks,ps)
def callB (l:List Tok) (E:PS→Option (Nd×PS)) (n:Nat) (x:Nd) (ps:PS):Option (Nd×PS):=
 (callL l E n [x] (skip (openP ps))).bind fun r=>(want l r.2 ⟨#[41]⟩).bind fun p2=>some (.mk 26 (tk (skip (openP ps))) r.1,closeP p2)
theorem call_ok {W0 nb l E n} (hE:HN ⟨Tryz.prog,W0,nb⟩ l 216 E):HC ⟨Tryz.prog,W0,nb⟩ l (callB l E n):=by
 intro k t ks ps ⟨k0,t0,ks0⟩ ps' h;unfold callB at h;obtain⟨⟨rs,rp⟩,h1,h⟩:=Option.bind_eq_some_iff.1 h
 try dsimp only at h1 h
 obtain⟨p2,h2,h⟩:=Option.bind_eq_some_iff.1 h
 try dsimp only at h2 h
 simp only[Option.some.injEq,Prod.mk.injEq,Nd.mk.injEq]at h;obtain⟨⟨rfl,rfl,rfl⟩,rfl⟩:=h;refine dcalls_end Tryz.func243 rfl (by kernel_rfl) 44 Tryz.ntmps243 #[.cell 4 26] rfl (Nat.le_of_ble_eq_true rfl) ?_;simp;refine CallGoal.same (openP_ok) ?_
 try simp
 refine drawWp.intro2 [(1,2),(1,5),(4,5)] [2] mixed (by kernel_rfl) (by kernel_rfl) (by kernel_rfl) ?_
 try simp
 refine CallGoal.same (skip_ok) ?_
 try simp
 refine CallGoal.same (node_own) ?_
 try simp
 refine⟨by simp,by simp,by simp,?_⟩
 try simp
 refine⟨fun m s=>∃ks1 ps1,callL l E m ks1 ps1=some (rs,rp)∧s.hp= [pbox l ps1,[i64 k,i64 t,.p (.sl 3 (encNs ks))],[i64 0,i64 0,.own 26 3 []],[i64 26,i64 (tk (skip (openP ps))),.own 26 3 (encNs ks1)]]∧s.tm 0= .ref 0 0∧s.tm 4= .ref 2 0∧s.tm 5= .ref 3 0,n,.here ⟨_,_,h1,?_⟩,?_⟩
 ·simp
 rintro m ⟨tm,hp⟩ ⟨ks1,ps1,h,e1,e3,e4,e5⟩;simp only at e1 e3 e4 e5;subst e1;cases m with
 | zero=>cases h
 | succ m=>
  simp only[callL]at h;simp[e3,e5];cases g1:decide (ps1.fault < 0)with
  | false=>
   simp only[g1,Bool.false_eq_true,if_false]at h;simp only[Option.some.injEq,Prod.mk.injEq]at h;obtain⟨rfl,rfl⟩:=h;simp[e3];refine CallGoal.same (want_ok h2) ?_
   try simp[e3,e5]
   refine CallGoal.same (closeP_ok) ?_
   try simp[e4,e5]
   exact Pp.endE (by simp[e4]) (by simp) (by simp[e4]) (by simp[e4])
  | true=>
   simp only[g1,if_true]at h;obtain⟨b,g2,h⟩:=Option.bind_eq_some_iff.1 h
   try dsimp only at g2 h
   simp[e3];refine CallGoal.same (isW_ok g2) ?_
   try simp[e3,e5]
   cases b with
   | true=>
    simp only[if_true]at h;simp only[Option.some.injEq,Prod.mk.injEq]at h;obtain⟨rfl,rfl⟩:=h;simp[e3];refine CallGoal.same (want_ok h2) ?_
    try simp[e3,e5]
    refine CallGoal.same (closeP_ok) ?_
    try simp[e4,e5]
    exact Pp.endE (by simp[e4]) (by simp) (by simp[e4]) (by simp[e4])
   | false=>
    simp only[Bool.false_eq_true,if_false]at h;obtain⟨⟨⟨k2,t2,ks2⟩,q2⟩,g3,h⟩:=Option.bind_eq_some_iff.1 h
    try dsimp only at g3 h
    obtain⟨ks',g4,h⟩:=Option.bind_eq_some_iff.1 h
    try dsimp only at g4 h
    obtain⟨c,g5,h⟩:=Option.bind_eq_some_iff.1 h
    try dsimp only at g5 h
    obtain⟨rfl,g7,g8⟩:=app_some g4;simp[e3];refine drawWp.intro [(1,3)] [3] mixed (by kernel_rfl) (by kernel_rfl) (by kernel_rfl) ?_
    try simp
    try simp[e3,e5]
    refine CallGoal.same (hE g3) ?_
    try simp[e3,e5,g7,g8]
    refine⟨by simp[e3,e5],by simp[e3,e5],?_⟩
    try simp
    try simp[e3,e5]
    refine CallGoal.same (isW_ok g5) ?_
    try simp[e3,e5]
    cases c with
    | true=>
     simp only[if_true]at h
     try simp
     refine .same m (by omega) ⟨_,_,h,?_⟩;simp[e3,e4,e5,encNs_append]
    | false=>
     simp only[Bool.false_eq_true,if_false]at h;obtain⟨p3,g9,h⟩:=Option.bind_eq_some_iff.1 h
     try dsimp only at g9 h
     obtain⟨d,g10,h⟩:=Option.bind_eq_some_iff.1 h
     try dsimp only at g10 h
     simp[e3];refine CallGoal.same (want_ok g9) ?_
     try simp[e3,e5]
     refine CallGoal.same (isW_ok g10) ?_
     try simp[e3,e5]
     cases d with
     | true=>
      simp only[if_true]at h;simp[e3];refine CallGoal.same (bad_ok) ?_
      try simp[e3,e5]
      refine .same m (by omega) ⟨_,_,h,?_⟩;simp[e3,e4,e5,encNs_append]
     | false=>
      simp only[Bool.false_eq_true,if_false]at h
      try simp
      refine .same m (by omega) ⟨_,_,h,?_⟩;simp[e3,e4,e5,encNs_append]
end Pp
end Go.Proofs.Dm
