/- Part of the proof: contracts of the functions, walked by the D-machine. No condition. -/
import Derived.Test.YtmlhdhpjcipcdaaGreatDoorRa
import Derived.Test.YtmlhdhpjcipcdaaGreatDoorRb
import Derived.Test.YtmlhdhpjcipcdaaGreatDoorRc
set_option linter.unusedSimpArgs false
set_option linter.unusedVariables false
set_option maxHeartbeats 4000000
namespace Go.Proofs.Dm
open Go Go.Proofs Go.Proofs.Tryz Go.Proofs.Dm.Sc
namespace Rp
attribute [local simp] rbox encT encN encNs takes handsOn isTmp Op.operands Call.operands
def declR (l:List Tok) (V C S F:RS→Option (Nd×RS)) (rs:RS):Option (Nd×RS):=
 (isW l rs ⟨#[118,97,114]⟩).bind fun b0=>if b0 then V rs else
 (isW l rs ⟨#[99,111,110,115,116]⟩).bind fun b1=>if b1 then C rs else
 (isW l rs ⟨#[116,121,112,101]⟩).bind fun b2=>if b2 then S rs else
 (isW l rs ⟨#[102,117,110,99]⟩).bind fun b3=>if b3 then F rs else
 some (.mk 0 0 [],fail rs)
theorem declR_ok {W0 nb l V C S F} (hV:HN ⟨Tryz.prog,W0,nb⟩ l 165 V) (hC:HN ⟨Tryz.prog,W0,nb⟩ l 166 C) (hS:HN ⟨Tryz.prog,W0,nb⟩ l 167 S) (hF:HN ⟨Tryz.prog,W0,nb⟩ l 168 F):HN ⟨Tryz.prog,W0,nb⟩ l 135 (declR l V C S F):=by
 intro rs ⟨k0,t0,ks0⟩ rs' h;unfold declR at h;refine dcalls_end Tryz.func135 rfl (by kernel_rfl) 26 Tryz.ntmps135 #[.cell 2 26] rfl (Nat.le_of_ble_eq_true rfl) ?_;simp;obtain⟨b0,g0,h⟩:=Option.bind_eq_some_iff.1 h
 try dsimp only at g0 h
 refine CallGoal.same (isW_ok g0) ?_
 try simp
 cases b0 with
 | true=>
  simp only[if_true]at h;simp;refine CallGoal.same (hV h) ?_
  try simp
  exact .kk
 | false=>
  simp only[Bool.false_eq_true,if_false]at h;simp;obtain⟨b1,g1,h⟩:=Option.bind_eq_some_iff.1 h
  try dsimp only at g1 h
  refine CallGoal.same (isW_ok g1) ?_
  try simp
  cases b1 with
  | true=>
   simp only[if_true]at h;simp;refine CallGoal.same (hC h) ?_
   try simp
   exact .kk
  | false=>
   simp only[Bool.false_eq_true,if_false]at h;simp;obtain⟨b2,g2,h⟩:=Option.bind_eq_some_iff.1 h
   try dsimp only at g2 h
   refine CallGoal.same (isW_ok g2) ?_
   try simp
   cases b2 with
   | true=>
    simp only[if_true]at h;simp;refine CallGoal.same (hS h) ?_
    try simp
    exact .kk
   | false=>
    simp only[Bool.false_eq_true,if_false]at h;simp;obtain⟨b3,g3,h⟩:=Option.bind_eq_some_iff.1 h
    try dsimp only at g3 h
    refine CallGoal.same (isW_ok g3) ?_
    try simp
    cases b3 with
    | true=>
     simp only[if_true]at h;simp;refine CallGoal.same (hF h) ?_
     try simp
     exact .kk
    | false=>
     simp only[Bool.false_eq_true,if_false]at h;simp;simp only[Option.some.injEq,Prod.mk.injEq,Nd.mk.injEq]at h;obtain⟨⟨rfl,rfl,rfl⟩,rfl⟩:=h;refine CallGoal.same (fail_ok) ?_
     try simp
     exact Pp.endE (by simp) (by simp) (by simp) (by simp)
def backR (l:List Tok) (E:Int→RS→Option (Nd×RS)) (rs:RS):Option (Nd×RS):=
 (kindQ l (next l rs).2 6).bind fun b=>if b then some (.mk 16 (next l rs).1 [],(next l rs).2)else(isW l (next l rs).2 ⟨#[125]⟩).bind fun c=>if c then some (.mk 16 (next l rs).1 [],(next l rs).2)else
  (E 1 (next l rs).2).bind fun e=>some (.mk 16 (next l rs).1 [e.1],e.2)
def leaveR (l:List Tok) (c:Bool) (rs:RS):Option (Nd×RS):=
 (kindQ l (next l rs).2 1).bind fun d=>if d then some (.mk (if c then 18 else 17) rs.at_ [.mk 19 (next l (next l rs).2).1 []],(next l (next l rs).2).2)else some (.mk (if c then 18 else 17) rs.at_ [],(next l rs).2)
def stmtR (l:List Tok) (V C B I L M:RS→Option (Nd×RS)) (E:Int→RS→Option (Nd×RS)) (rs:RS):Option (Nd×RS):=
 (isW l rs ⟨#[118,97,114]⟩).bind fun b0=>if b0 then V rs else
 (isW l rs ⟨#[99,111,110,115,116]⟩).bind fun b1=>if b1 then C rs else
 (isW l rs ⟨#[123]⟩).bind fun b2=>if b2 then B rs else
 (isW l rs ⟨#[105,102]⟩).bind fun b3=>if b3 then I rs else
 (isW l rs ⟨#[102,111,114]⟩).bind fun b4=>if b4 then L rs else
 (isW l rs ⟨#[114,101,116,117,114,110]⟩).bind fun b5=>if b5 then backR l E rs else
 (isW l rs ⟨#[98,114,101,97,107]⟩).bind fun b6=>(isW l rs ⟨#[99,111,110,116,105,110,117,101]⟩).bind fun b7=>if b6 then leaveR l b7 rs else if b7 then leaveR l true rs else M rs
theorem stmtR_ok {W0 nb l V C B I L M E} (hV:HN ⟨Tryz.prog,W0,nb⟩ l 165 V) (hC:HN ⟨Tryz.prog,W0,nb⟩ l 166 C) (hB:HN ⟨Tryz.prog,W0,nb⟩ l 195 B) (hI:HN ⟨Tryz.prog,W0,nb⟩ l 224 I) (hL:HN ⟨Tryz.prog,W0,nb⟩ l 225 L) (hM:HN ⟨Tryz.prog,W0,nb⟩ l 226 M) (hE:HE ⟨Tryz.prog,W0,nb⟩ l E):HN ⟨Tryz.prog,W0,nb⟩ l 214 (stmtR l V C B I L M E):=by
 intro rs ⟨k0,t0,ks0⟩ rs' h;unfold stmtR at h;refine dcalls_end Tryz.func214 rfl (by kernel_rfl) 82 Tryz.ntmps214 #[.cell 2 26] rfl (Nat.le_of_ble_eq_true rfl) ?_;simp;obtain⟨b0,g0,h⟩:=Option.bind_eq_some_iff.1 h
 try dsimp only at g0 h
 refine CallGoal.same (isW_ok g0) ?_
 try simp
 cases b0 with
 | true=>
  simp only[if_true]at h;simp;refine CallGoal.same (hV h) ?_
  try simp
  exact .kk
 | false=>
  simp only[Bool.false_eq_true,if_false]at h;simp;obtain⟨b1,g1,h⟩:=Option.bind_eq_some_iff.1 h
  try dsimp only at g1 h
  refine CallGoal.same (isW_ok g1) ?_
  try simp
  cases b1 with
  | true=>
   simp only[if_true]at h;simp;refine CallGoal.same (hC h) ?_
   try simp
   exact .kk
  | false=>
   simp only[Bool.false_eq_true,if_false]at h;simp;obtain⟨b2,g2,h⟩:=Option.bind_eq_some_iff.1 h
   try dsimp only at g2 h
   refine CallGoal.same (isW_ok g2) ?_
   try simp
   cases b2 with
   | true=>
    simp only[if_true]at h;simp;refine CallGoal.same (hB h) ?_
    try simp
    exact .kk
   | false=>
    simp only[Bool.false_eq_true,if_false]at h;simp;obtain⟨b3,g3,h⟩:=Option.bind_eq_some_iff.1 h
    try dsimp only at g3 h
    refine CallGoal.same (isW_ok g3) ?_
    try simp
    cases b3 with
    | true=>
     simp only[if_true]at h;simp;refine CallGoal.same (hI h) ?_
     try simp
     exact .kk
    | false=>
     simp only[Bool.false_eq_true,if_false]at h;simp;obtain⟨b4,g4,h⟩:=Option.bind_eq_some_iff.1 h
     try dsimp only at g4 h
     refine CallGoal.same (isW_ok g4) ?_
     try simp
     cases b4 with
     | true=>
      simp only[if_true]at h;simp;refine CallGoal.same (hL h) ?_
      try simp
      exact .kk
     | false=>
      simp only[Bool.false_eq_true,if_false]at h;simp;obtain⟨b5,g5,h⟩:=Option.bind_eq_some_iff.1 h
      try dsimp only at g5 h
      refine CallGoal.same (isW_ok g5) ?_
      try simp
      cases b5 with
      | true=>
       simp only[if_true]at h;simp;unfold backR at h;obtain⟨c0,j0,h⟩:=Option.bind_eq_some_iff.1 h
       try dsimp only at j0 h
       refine CallGoal.same (next_ok) ?_
       try simp
       refine CallGoal.same (leaf_nil) ?_
       try simp
       refine CallGoal.same (kindQ_ok j0) ?_
       try simp
       cases c0 with
       | true=>
        simp only[if_true]at h;simp only[Option.some.injEq,Prod.mk.injEq,Nd.mk.injEq]at h;obtain⟨⟨rfl,rfl,rfl⟩,rfl⟩:=h;simp;exact Pp.endE (by simp) (by simp) (by simp) (by simp)
       | false=>
        simp only[Bool.false_eq_true,if_false]at h;simp;obtain⟨c1,j1,h⟩:=Option.bind_eq_some_iff.1 h
        try dsimp only at j1 h
        refine CallGoal.same (isW_ok j1) ?_
        try simp
        cases c1 with
        | true=>
         simp only[if_true]at h;simp only[Option.some.injEq,Prod.mk.injEq,Nd.mk.injEq]at h;obtain⟨⟨rfl,rfl,rfl⟩,rfl⟩:=h;simp;exact Pp.endE (by simp) (by simp) (by simp) (by simp)
        | false=>
         simp only[Bool.false_eq_true,if_false]at h;obtain⟨⟨⟨k4,t4,ks4⟩,r4⟩,j2,h⟩:=Option.bind_eq_some_iff.1 h
         try dsimp only at j2 h
         simp only[Option.some.injEq,Prod.mk.injEq,Nd.mk.injEq]at h;obtain⟨⟨rfl,rfl,rfl⟩,rfl⟩:=h;simp;refine drawWp.intro [(1,3)] [3] mixed (by kernel_rfl) (by kernel_rfl) (by kernel_rfl) ?_
         try simp
         refine CallGoal.same (hE j2) ?_
         try simp
         refine⟨by simp,by simp,?_⟩
         try simp
         exact Pp.endE (by simp) (by simp) (by simp) (by simp)
      | false=>
       simp only[Bool.false_eq_true,if_false]at h;simp;obtain⟨b6,g6,h⟩:=Option.bind_eq_some_iff.1 h
       try dsimp only at g6 h
       obtain⟨b7,g7,h⟩:=Option.bind_eq_some_iff.1 h
       try dsimp only at g7 h
       refine CallGoal.same (isW_ok g6) ?_
       try simp
       cases b6 with
       | true=>
        simp only[if_true]at h;simp;unfold leaveR at h;obtain⟨d,j1,h⟩:=Option.bind_eq_some_iff.1 h
        try dsimp only at j1 h
        refine CallGoal.same (leaf_nil) ?_
        try simp
        refine CallGoal.same (isW_ok g7) ?_
        try simp
        cases b7 with
        | true=>
         simp;refine CallGoal.same (next_ok) ?_
         try simp
         refine CallGoal.same (kindQ_ok j1) ?_
         try simp
         cases d with
         | false=>
          simp only[Bool.false_eq_true,if_false,if_true]at h;simp only[Option.some.injEq,Prod.mk.injEq,Nd.mk.injEq]at h;obtain⟨⟨rfl,rfl,rfl⟩,rfl⟩:=h;simp;exact Pp.endE (by simp) (by simp) (by simp) (by simp)
         | true=>
          simp only[Bool.false_eq_true,if_false,if_true]at h;simp only[Option.some.injEq,Prod.mk.injEq,Nd.mk.injEq]at h;obtain⟨⟨rfl,rfl,rfl⟩,rfl⟩:=h;simp;refine drawWp.intro [(1,3),(1,4)] [3,4] mixed (by kernel_rfl) (by kernel_rfl) (by kernel_rfl) ?_
          try simp
          refine CallGoal.same (next_ok) ?_
          try simp
          refine CallGoal.same (leaf_nil) ?_
          try simp
          refine⟨by simp,by simp,?_⟩
          try simp
          exact Pp.endE (by simp) (by simp) (by simp) (by simp)
        | false=>
         simp;refine CallGoal.same (next_ok) ?_
         try simp
         refine CallGoal.same (kindQ_ok j1) ?_
         try simp
         cases d with
         | false=>
          simp only[Bool.false_eq_true,if_false,if_true]at h;simp only[Option.some.injEq,Prod.mk.injEq,Nd.mk.injEq]at h;obtain⟨⟨rfl,rfl,rfl⟩,rfl⟩:=h;simp;exact Pp.endE (by simp) (by simp) (by simp) (by simp)
         | true=>
          simp only[Bool.false_eq_true,if_false,if_true]at h;simp only[Option.some.injEq,Prod.mk.injEq,Nd.mk.injEq]at h;obtain⟨⟨rfl,rfl,rfl⟩,rfl⟩:=h;simp;refine drawWp.intro [(1,3),(1,4)] [3,4] mixed (by kernel_rfl) (by kernel_rfl) (by kernel_rfl) ?_
          try simp
          refine CallGoal.same (next_ok) ?_
          try simp
          refine CallGoal.same (leaf_nil) ?_
          try simp
          refine⟨by simp,by simp,?_⟩
          try simp
          exact Pp.endE (by simp) (by simp) (by simp) (by simp)
       | false=>
        simp only[Bool.false_eq_true,if_false]at h;simp;refine CallGoal.same (isW_ok g7) ?_
        try simp
        cases b7 with
        | true=>
         simp only[if_true]at h;simp;unfold leaveR at h;obtain⟨d,j1,h⟩:=Option.bind_eq_some_iff.1 h
         try dsimp only at j1 h
         refine CallGoal.same (leaf_nil) ?_
         try simp
         refine CallGoal.same (isW_ok g7) ?_
         try simp
         refine CallGoal.same (next_ok) ?_
         try simp
         refine CallGoal.same (kindQ_ok j1) ?_
         try simp
         cases d with
         | false=>
          simp only[Bool.false_eq_true,if_false,if_true]at h;simp only[Option.some.injEq,Prod.mk.injEq,Nd.mk.injEq]at h;obtain⟨⟨rfl,rfl,rfl⟩,rfl⟩:=h;simp;exact Pp.endE (by simp) (by simp) (by simp) (by simp)
         | true=>
          simp only[Bool.false_eq_true,if_false,if_true]at h;simp only[Option.some.injEq,Prod.mk.injEq,Nd.mk.injEq]at h;obtain⟨⟨rfl,rfl,rfl⟩,rfl⟩:=h;simp;refine drawWp.intro [(1,3),(1,4)] [3,4] mixed (by kernel_rfl) (by kernel_rfl) (by kernel_rfl) ?_
          try simp
          refine CallGoal.same (next_ok) ?_
          try simp
          refine CallGoal.same (leaf_nil) ?_
          try simp
          refine⟨by simp,by simp,?_⟩
          try simp
          exact Pp.endE (by simp) (by simp) (by simp) (by simp)
        | false=>
         simp only[Bool.false_eq_true,if_false]at h;simp;refine CallGoal.same (hM h) ?_
         try simp
         exact .kk
end Rp
end Go.Proofs.Dm
set_option maxHeartbeats 4000000
namespace Go.Proofs.Dm
open Go Go.Proofs Go.Proofs.Tryz Go.Proofs.Dm.Sc
namespace Rp
structure RF where
 unary:RM
 block:RM
 ifs:RM
 stmt:RM
def stepR (l:List Tok) (N:Nat) (F:RF):RF where
 unary:=unary l F.unary (primR l (exprE l F.unary N) (callR l (exprE l F.unary N) N) N)
 block:=blockB l F.stmt N
 ifs:=ifs l (exprE l F.unary N) F.block F.ifs
 stmt:=stmtR l (vars l (exprE l F.unary N)) (consts l (exprE l F.unary N)) F.block F.ifs (fors l (exprE l F.unary N) F.block) (simpleR l (exprE l F.unary N) (fors l (exprE l F.unary N) F.block)) (exprE l F.unary N)
def noR:RM:=fun _=>none
def rf (l:List Tok) (N:Nat):Nat→RF
 | 0=>⟨noR,noR,noR,noR⟩
 | n + 1=>stepR l N (rf l N n)
def fileRF (l:List Tok) (N:Nat) (F:RF):RM:=fileR l (declR l (vars l (exprE l F.unary N)) (consts l (exprE l F.unary N)) (structsB l N) (funcs l F.block N)) N
end Rp
end Go.Proofs.Dm
