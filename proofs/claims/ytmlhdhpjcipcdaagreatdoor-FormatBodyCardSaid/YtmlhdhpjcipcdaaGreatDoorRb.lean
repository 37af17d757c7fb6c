/- Part of the proof: contracts of the functions, walked by the D-machine. No condition. -/
import Derived.Test.YtmlhdhpjcipcdaaGreatDoorRa
set_option linter.unusedSimpArgs false
set_option linter.unusedVariables false
set_option maxHeartbeats 4000000
namespace Go.Proofs.Dm
open Go Go.Proofs Go.Proofs.Tryz Go.Proofs.Dm.Sc
namespace Rp
attribute [local simp] rbox encT encN encNs takes handsOn isTmp Op.operands Call.operands
def blockL (l:List Tok) (S:RS→Option (Nd×RS)) (N:Nat):Nat→List Nd→RS→Option (List Nd×RS)
 | 0,_,_=>none
 | n + 1,ks,rs=>if decide (rs.bad < 0)then(semis l N rs).bind fun r1=>(isW l r1 ⟨#[125]⟩).bind fun b=>if b then some (ks,r1)else(S r1).bind fun r2=>(app ks r2.1).bind fun ks'=>
   if decide (r2.2.bad < 0)then(isW l r2.2 ⟨#[125]⟩).bind fun c=>if c then blockL l S N n ks' r2.2 else(wantK l r2.2 6).bind fun r3=>blockL l S N n ks' r3.2
   else blockL l S N n ks' r2.2
  else some (ks,rs)
def blockB (l:List Tok) (S:RS→Option (Nd×RS)) (N:Nat) (rs:RS):Option (Nd×RS):=
 (isN l rs ⟨#[123]⟩).bind fun b=>(want l (if b then openR rs else rs) ⟨#[123]⟩).bind fun r1=>(blockL l S N N [] r1.2).bind fun r2=>(want l r2.2 ⟨#[125]⟩).bind fun r3=>some (.mk 10 rs.at_ r2.1,shut r3.2)
theorem block_ok {W0 nb l S N} (hS:HN ⟨Tryz.prog,W0,nb⟩ l 214 S):HN ⟨Tryz.prog,W0,nb⟩ l 195 (blockB l S N):=by
 intro rs ⟨k0,t0,ks0⟩ rs' h;unfold blockB at h;obtain⟨b,h1,h⟩:=Option.bind_eq_some_iff.1 h
 try dsimp only at h1 h
 obtain⟨⟨n1,r1⟩,h2,h⟩:=Option.bind_eq_some_iff.1 h
 try dsimp only at h2 h
 obtain⟨⟨r2,q2⟩,h3,h⟩:=Option.bind_eq_some_iff.1 h
 try dsimp only at h3 h
 obtain⟨⟨n3,r3⟩,h4,h⟩:=Option.bind_eq_some_iff.1 h
 try dsimp only at h4 h
 simp only[Option.some.injEq,Prod.mk.injEq,Nd.mk.injEq]at h;obtain⟨⟨rfl,rfl,rfl⟩,rfl⟩:=h;refine dcalls_end Tryz.func195 rfl (by kernel_rfl) 55 Tryz.ntmps195 #[.cell 2 26] rfl (Nat.le_of_ble_eq_true rfl) ?_;refine cwp_cut (fun s=>s.hp= [rbox l rs,[i64 0,i64 0,.own 26 3 []]]∧s.tm 0= .ref 0 0∧s.tm 2= .ref 1 0) ?_ ?_
 ·simp
 rintro⟨tm,hp⟩ ⟨e1,e3,e4⟩;simp only at e1 e3 e4;subst e1;refine cwp_cut (fun s=>s.hp= [rbox l rs,[i64 0,i64 0,.own 26 3 []],[i64 10,i64 rs.at_,.own 26 3 (encNs [])]]∧s.tm 0= .ref 0 0∧s.tm 2= .ref 1 0∧s.tm 3= .ref 2 0) ?_ ?_
 ·simp[e3,e4];refine CallGoal.same (leaf_nil) ?_
  try simp[e3,e4]
 rintro⟨tm,hp⟩ ⟨e1,e3,e4,e5⟩;simp only at e1 e3 e4 e5;subst e1;refine cwp_cut (fun s=>s.hp= [rbox l (if b then openR rs else rs),[i64 0,i64 0,.own 26 3 []],[i64 10,i64 rs.at_,.own 26 3 (encNs [])]]∧s.tm 0= .ref 0 0∧s.tm 2= .ref 1 0∧s.tm 3= .ref 2 0) ?_ ?_
 ·simp[e3];unfold isN at h1;cases h5:decide (rs.bad < 0)with
  | false=>
   simp only[h5,Bool.false_eq_true,if_false,Option.some.injEq]at h1;subst h1;simp[e3,e4,e5]
  | true=>
   simp only[h5,if_true]at h1;simp[e3];refine CallGoal.same (isW_ok h1) ?_
   try simp[e3]
   cases b with
   | false=>simp[e3,e4,e5]
   | true=>
    simp[e3,e4,e5];refine CallGoal.same (openR_ok) ?_
    try simp[e3,e4,e5]
 rintro⟨tm,hp⟩ ⟨e1,e3,e4,e5⟩;simp only at e1 e3 e4 e5;subst e1;simp[e3];refine CallGoal.same (want_ok h2) ?_
 try simp[e3]
 refine LoopGoal.cut (fun s=>s.hp= [rbox l q2,[i64 0,i64 0,.own 26 3 []],[i64 10,i64 rs.at_,.own 26 3 (encNs r2)]]∧s.tm 0= .ref 0 0∧s.tm 2= .ref 1 0∧s.tm 3= .ref 2 0) ?_ ?_
 ·refine⟨fun m s=>∃ks1 rs1,blockL l S N m ks1 rs1=some (r2,q2)∧s.hp= [rbox l rs1,[i64 0,i64 0,.own 26 3 []],[i64 10,i64 rs.at_,.own 26 3 (encNs ks1)]]∧s.tm 0= .ref 0 0∧s.tm 2= .ref 1 0∧s.tm 3= .ref 2 0,N,.here ⟨_,_,h3,?_⟩,?_⟩
  ·simp[e3,e4,e5]
  rintro m ⟨tm,hp⟩ ⟨ks1,rs1,g,e1,e3,e4,e5⟩;simp only at e1 e3 e4 e5;subst e1;cases m with
  | zero=>cases g
  | succ m=>
   simp only[blockL]at g;simp[e3,e5];cases g1:decide (rs1.bad < 0)with
   | false=>
    simp only[g1,Bool.false_eq_true,if_false,Option.some.injEq,Prod.mk.injEq]at g;obtain⟨rfl,rfl⟩:=g;simp[e3,e4,e5]
   | true=>
    simp only[g1,if_true]at g;obtain⟨u1,g2,g⟩:=Option.bind_eq_some_iff.1 g;obtain⟨b,g3,g⟩:=Option.bind_eq_some_iff.1 g;simp[e3];refine CallGoal.same (semis_ok g2) ?_
    try simp[e3,e5]
    refine CallGoal.same (isW_ok g3) ?_
    try simp[e3,e5]
    cases b with
    | true=>
     simp only[if_true,Option.some.injEq,Prod.mk.injEq]at g;obtain⟨rfl,rfl⟩:=g;simp[e3,e4,e5]
    | false=>
     simp only[Bool.false_eq_true,if_false]at g;obtain⟨⟨⟨k2,t2,ks2⟩,u2⟩,g4,g⟩:=Option.bind_eq_some_iff.1 g;obtain⟨ks',g5,g⟩:=Option.bind_eq_some_iff.1 g;obtain⟨rfl,g7,g8⟩:=Pp.app_some g5;dsimp only at g;simp[e3];refine drawWp.intro [(1,3)] [3] mixed (by kernel_rfl) (by kernel_rfl) (by kernel_rfl) ?_
     try simp
     try simp[e3,e5]
     refine CallGoal.same (hS g4) ?_
     try simp[e3,e5,g7,g8]
     refine⟨by simp[e3,e5],by simp[e3,e5],?_⟩
     try simp
     try simp[e3,e5]
     cases g6:decide (u2.bad < 0)with
     | false=>
      simp only[g6,Bool.false_eq_true,if_false]at g;simp[e3];refine .same m (by omega) ⟨_,_,g,?_⟩;simp[e3,e4,e5,encNs_append]
     | true=>
      simp only[g6,if_true]at g;obtain⟨c,g9,g⟩:=Option.bind_eq_some_iff.1 g;simp[e3];refine CallGoal.same (isW_ok g9) ?_
      try simp[e3,e5]
      cases c with
      | true=>
       simp only[if_true]at g;simp;refine .same m (by omega) ⟨_,_,g,?_⟩;simp[e3,e4,e5,encNs_append]
      | false=>
       simp only[Bool.false_eq_true,if_false]at g;obtain⟨⟨n4,u4⟩,g10,g⟩:=Option.bind_eq_some_iff.1 g;simp[e3];refine CallGoal.same (wantK_ok g10) ?_
       try simp[e3,e5]
       refine .same m (by omega) ⟨_,_,g,?_⟩;simp[e3,e4,e5,encNs_append]
 rintro⟨tm,hp⟩ ⟨e1,e3,e4,e5⟩;simp only at e1 e3 e4 e5;subst e1;simp[e3];refine CallGoal.same (want_ok h4) ?_
 try simp[e3,e5]
 refine CallGoal.same (shut_ok) ?_
 try simp[e3,e4,e5]
 exact Pp.endE (by simp[e4]) (by simp) (by simp[e4]) (by simp[e4])
end Rp
end Go.Proofs.Dm
set_option maxHeartbeats 4000000
namespace Go.Proofs.Dm
open Go Go.Proofs Go.Proofs.Tryz Go.Proofs.Dm.Sc
namespace Rp
attribute [local simp] rbox encT encN encNs takes handsOn isTmp Op.operands Call.operands
def structsL (l:List Tok) (N:Nat):Nat→List Nd→RS→Option (List Nd×RS)
 | 0,_,_=>none
 | n + 1,ks,rs=>if decide (rs.bad < 0)then(semis l N rs).bind fun r1=>(isW l r1 ⟨#[125]⟩).bind fun b=>if b then some (ks,r1)else(wantK l r1 1).bind fun f1=>(types l f1.2).bind fun r2=>(app ks (.mk 7 f1.1 [r2.1])).bind fun ks'=>
   if decide (r2.2.bad < 0)then(isW l r2.2 ⟨#[125]⟩).bind fun c=>if c then structsL l N n ks' r2.2 else(wantK l r2.2 6).bind fun r3=>structsL l N n ks' r3.2
   else structsL l N n ks' r2.2
  else some (ks,rs)
def structsB (l:List Tok) (N:Nat) (rs:RS):Option (Nd×RS):=
 (want l rs ⟨#[116,121,112,101]⟩).bind fun w1=>(wantK l w1.2 1).bind fun w2=>(want l w2.2 ⟨#[115,116,114,117,99,116]⟩).bind fun w3=>
 (isN l w3.2 ⟨#[123]⟩).bind fun b=>(want l (if b then openR w3.2 else w3.2) ⟨#[123]⟩).bind fun r1=>(structsL l N N [] r1.2).bind fun r2=>(want l r2.2 ⟨#[125]⟩).bind fun r3=>some (.mk 6 w2.1 r2.1,shut r3.2)
theorem structs_ok {W0 nb l N}:HN ⟨Tryz.prog,W0,nb⟩ l 167 (structsB l N):=by
 intro rs ⟨k0,t0,ks0⟩ rs' h;unfold structsB at h;obtain⟨w1,h7,h⟩:=Option.bind_eq_some_iff.1 h
 try dsimp only at h7 h
 obtain⟨w2,h8,h⟩:=Option.bind_eq_some_iff.1 h
 try dsimp only at h8 h
 obtain⟨w3,h9,h⟩:=Option.bind_eq_some_iff.1 h
 try dsimp only at h9 h
 obtain⟨b,h1,h⟩:=Option.bind_eq_some_iff.1 h
 try dsimp only at h1 h
 obtain⟨⟨n1,r1⟩,h2,h⟩:=Option.bind_eq_some_iff.1 h
 try dsimp only at h2 h
 obtain⟨⟨r2,q2⟩,h3,h⟩:=Option.bind_eq_some_iff.1 h
 try dsimp only at h3 h
 obtain⟨⟨n3,r3⟩,h4,h⟩:=Option.bind_eq_some_iff.1 h
 try dsimp only at h4 h
 simp only[Option.some.injEq,Prod.mk.injEq,Nd.mk.injEq]at h;obtain⟨⟨rfl,rfl,rfl⟩,rfl⟩:=h;refine dcalls_end Tryz.func167 rfl (by kernel_rfl) 67 Tryz.ntmps167 #[.cell 2 26] rfl (Nat.le_of_ble_eq_true rfl) ?_;refine cwp_cut (fun s=>s.hp= [rbox l rs,[i64 0,i64 0,.own 26 3 []]]∧s.tm 0= .ref 0 0∧s.tm 2= .ref 1 0) ?_ ?_
 ·simp
 rintro⟨tm,hp⟩ ⟨e1,e3,e4⟩;simp only at e1 e3 e4;subst e1;refine cwp_cut (fun s=>s.hp= [rbox l w1.2,[i64 0,i64 0,.own 26 3 []]]∧s.tm 0= .ref 0 0∧s.tm 2= .ref 1 0) ?_ ?_
 ·simp[e3,e4];refine CallGoal.same (want_ok h7) ?_
  try simp[e3,e4]
 rintro⟨tm,hp⟩ ⟨e1,e3,e4⟩;simp only at e1 e3 e4;subst e1;refine cwp_cut (fun s=>s.hp= [rbox l w2.2,[i64 0,i64 0,.own 26 3 []],[i64 6,i64 w2.1,.own 26 3 (encNs [])]]∧s.tm 0= .ref 0 0∧s.tm 2= .ref 1 0∧s.tm 3= .ref 2 0) ?_ ?_
 ·simp[e3,e4];refine CallGoal.same (wantK_ok h8) ?_
  try simp[e3,e4]
  refine CallGoal.same (leaf_nil) ?_
  try simp[e3,e4]
 rintro⟨tm,hp⟩ ⟨e1,e3,e4,e5⟩;simp only at e1 e3 e4 e5;subst e1;refine cwp_cut (fun s=>s.hp= [rbox l w3.2,[i64 0,i64 0,.own 26 3 []],[i64 6,i64 w2.1,.own 26 3 (encNs [])]]∧s.tm 0= .ref 0 0∧s.tm 2= .ref 1 0∧s.tm 3= .ref 2 0) ?_ ?_
 ·simp[e3,e4,e5];refine CallGoal.same (want_ok h9) ?_
  try simp[e3,e4,e5]
 rintro⟨tm,hp⟩ ⟨e1,e3,e4,e5⟩;simp only at e1 e3 e4 e5;subst e1;refine cwp_cut (fun s=>s.hp= [rbox l (if b then openR w3.2 else w3.2),[i64 0,i64 0,.own 26 3 []],[i64 6,i64 w2.1,.own 26 3 (encNs [])]]∧s.tm 0= .ref 0 0∧s.tm 2= .ref 1 0∧s.tm 3= .ref 2 0) ?_ ?_
 ·simp[e3];unfold isN at h1;cases h5:decide (w3.2.bad < 0)with
  | false=>
   simp only[h5,Bool.false_eq_true,if_false,Option.some.injEq]at h1;subst h1;simp[e3,e4,e5]
  | true=>
   simp only[h5,if_true]at h1;simp[e3];refine CallGoal.same (isW_ok h1) ?_
   try simp[e3]
   cases b with
   | false=>simp[e3,e4,e5]
   | true=>
    simp[e3,e4,e5];refine CallGoal.same (openR_ok) ?_
    try simp[e3,e4,e5]
 rintro⟨tm,hp⟩ ⟨e1,e3,e4,e5⟩;simp only at e1 e3 e4 e5;subst e1;simp[e3];refine CallGoal.same (want_ok h2) ?_
 try simp[e3]
 refine LoopGoal.cut (fun s=>s.hp= [rbox l q2,[i64 0,i64 0,.own 26 3 []],[i64 6,i64 w2.1,.own 26 3 (encNs r2)]]∧s.tm 0= .ref 0 0∧s.tm 2= .ref 1 0∧s.tm 3= .ref 2 0) ?_ ?_
 ·refine⟨fun m s=>∃ks1 rs1,structsL l N m ks1 rs1=some (r2,q2)∧s.hp= [rbox l rs1,[i64 0,i64 0,.own 26 3 []],[i64 6,i64 w2.1,.own 26 3 (encNs ks1)]]∧s.tm 0= .ref 0 0∧s.tm 2= .ref 1 0∧s.tm 3= .ref 2 0,N,.here ⟨_,_,h3,?_⟩,?_⟩
  ·simp[e3,e4,e5]
  rintro m ⟨tm,hp⟩ ⟨ks1,rs1,g,e1,e3,e4,e5⟩;simp only at e1 e3 e4 e5;subst e1;cases m with
  | zero=>cases g
  | succ m=>
   simp only[structsL]at g;simp[e3,e5];cases g1:decide (rs1.bad < 0)with
   | false=>
    simp only[g1,Bool.false_eq_true,if_false,Option.some.injEq,Prod.mk.injEq]at g;obtain⟨rfl,rfl⟩:=g;simp[e3,e4,e5]
   | true=>
    simp only[g1,if_true]at g;obtain⟨u1,g2,g⟩:=Option.bind_eq_some_iff.1 g;obtain⟨b,g3,g⟩:=Option.bind_eq_some_iff.1 g;simp[e3];refine CallGoal.same (semis_ok g2) ?_
    try simp[e3,e5]
    refine CallGoal.same (isW_ok g3) ?_
    try simp[e3,e5]
    cases b with
    | true=>
     simp only[if_true,Option.some.injEq,Prod.mk.injEq]at g;obtain⟨rfl,rfl⟩:=g;simp[e3,e4,e5]
    | false=>
     simp only[Bool.false_eq_true,if_false]at g;obtain⟨⟨m1,f1⟩,g11,g⟩:=Option.bind_eq_some_iff.1 g;obtain⟨⟨⟨k2,t2,ks2⟩,u2⟩,g4,g⟩:=Option.bind_eq_some_iff.1 g;obtain⟨ks',g5,g⟩:=Option.bind_eq_some_iff.1 g;obtain⟨rfl,g7,g8⟩:=Pp.app_some g5;dsimp only at g;simp[e3];refine CallGoal.same (wantK_ok g11) ?_
     try simp[e3,e5]
     refine CallGoal.same (leaf_nil) ?_
     try simp[e3,e5]
     refine drawWp.intro [(1,3)] [3] mixed (by kernel_rfl) (by kernel_rfl) (by kernel_rfl) ?_
     try simp
     try simp[e3,e5]
     refine CallGoal.same (types_ok g4) ?_
     try simp[e3,e5]
     refine⟨by simp[e3,e5],by simp[e3,e5],?_⟩
     try simp
     simp[e3,e5,g7,g8];cases g6:decide (u2.bad < 0)with
     | false=>
      simp only[g6,Bool.false_eq_true,if_false]at g;simp[e3];refine .drop m (by omega) 3 (by simp) (by simp) (by simp) ⟨_,_,g,?_⟩;simp[dropSt,dropD,e3,e4,e5,encNs_append]
     | true=>
      simp only[g6,if_true]at g;obtain⟨c,g9,g⟩:=Option.bind_eq_some_iff.1 g;simp[e3];refine CallGoal.same (isW_ok g9) ?_
      try simp[e3,e5]
      cases c with
      | true=>
       simp only[if_true]at g;simp;refine .drop m (by omega) 3 (by simp) (by simp) (by simp) ⟨_,_,g,?_⟩;simp[dropSt,dropD,e3,e4,e5,encNs_append]
      | false=>
       simp only[Bool.false_eq_true,if_false]at g;obtain⟨⟨n4,u4⟩,g10,g⟩:=Option.bind_eq_some_iff.1 g;simp[e3];refine CallGoal.same (wantK_ok g10) ?_
       try simp[e3,e5]
       refine .drop m (by omega) 3 (by simp) (by simp) (by simp) ⟨_,_,g,?_⟩;simp[dropSt,dropD,e3,e4,e5,encNs_append]
 rintro⟨tm,hp⟩ ⟨e1,e3,e4,e5⟩;simp only at e1 e3 e4 e5;subst e1;simp[e3];refine CallGoal.same (want_ok h4) ?_
 try simp[e3,e5]
 refine CallGoal.same (shut_ok) ?_
 try simp[e3,e4,e5]
 exact Pp.endE (by simp[e4]) (by simp) (by simp[e4]) (by simp[e4])
end Rp
end Go.Proofs.Dm
set_option maxHeartbeats 4000000
namespace Go.Proofs.Dm
open Go Go.Proofs Go.Proofs.Tryz Go.Proofs.Dm.Sc
namespace Rp
attribute [local simp] rbox encT encN encNs takes handsOn isTmp Op.operands Call.operands
def fors (l:List Tok) (E:Int→RS→Option (Nd×RS)) (B:RS→Option (Nd×RS)) (rs:RS):Option (Nd×RS):=
 (want l rs ⟨#[102,111,114]⟩).bind fun r1=>(E 1 r1.2).bind fun r2=>(B r2.2).bind fun r3=>some (.mk 15 r1.1 [r2.1,r3.1],r3.2)
theorem fors_ok {W0 nb l E B} (hE:HE ⟨Tryz.prog,W0,nb⟩ l E) (hB:HN ⟨Tryz.prog,W0,nb⟩ l 195 B):HN ⟨Tryz.prog,W0,nb⟩ l 225 (fors l E B):=by
 intro rs ⟨k0,t0,ks0⟩ rs' h;unfold fors at h;obtain⟨⟨n1,r1⟩,h1,h⟩:=Option.bind_eq_some_iff.1 h
 try dsimp only at h1 h
 obtain⟨⟨⟨k2,t2,ks2⟩,r2⟩,h2,h⟩:=Option.bind_eq_some_iff.1 h
 try dsimp only at h2 h
 obtain⟨⟨⟨k3,t3,ks3⟩,r3⟩,h3,h⟩:=Option.bind_eq_some_iff.1 h
 try dsimp only at h3 h
 simp only[Option.some.injEq,Prod.mk.injEq,Nd.mk.injEq]at h;obtain⟨⟨rfl,rfl,rfl⟩,rfl⟩:=h;refine dcalls_end Tryz.func225 rfl (by kernel_rfl) 22 Tryz.ntmps225 #[.cell 2 26] rfl (Nat.le_of_ble_eq_true rfl) ?_;simp;refine CallGoal.same (want_ok h1) ?_
 try simp
 refine CallGoal.same (leaf_nil) ?_
 try simp
 refine drawWp.intro [(1,3)] [3] mixed (by kernel_rfl) (by kernel_rfl) (by kernel_rfl) ?_
 try simp
 refine CallGoal.same (hE h2) ?_
 try simp
 refine⟨by simp,by simp,?_⟩
 try simp
 refine drawWp.intro [(1,3)] [3] mixed (by kernel_rfl) (by kernel_rfl) (by kernel_rfl) ?_
 try simp
 refine CallGoal.same (hB h3) ?_
 try simp
 refine⟨by simp,by simp,?_⟩
 try simp
 exact Pp.endE (by simp) (by simp) (by simp) (by simp)
def ifs (l:List Tok) (E:Int→RS→Option (Nd×RS)) (B R:RS→Option (Nd×RS)) (rs:RS):Option (Nd×RS):=
 (want l rs ⟨#[105,102]⟩).bind fun r1=>(E 1 r1.2).bind fun r2=>(B r2.2).bind fun r3=>
  if decide (0≤r3.2.bad)then some (.mk 14 r1.1 [r2.1,r3.1],r3.2)else(isW l r3.2 ⟨#[101,108,115,101]⟩).bind fun b=>if b then
   (isW l (next l r3.2).2 ⟨#[105,102]⟩).bind fun c=>if c then(R (openR (next l r3.2).2)).bind fun r4=>some (.mk 14 r1.1 [r2.1,r3.1,r4.1],shut r4.2)
   else(B (next l r3.2).2).bind fun r4=>some (.mk 14 r1.1 [r2.1,r3.1,r4.1],r4.2)
  else some (.mk 14 r1.1 [r2.1,r3.1],r3.2)
theorem ifs_ok {W0 nb l E B R} (hE:HE ⟨Tryz.prog,W0,nb⟩ l E) (hB:HN ⟨Tryz.prog,W0,nb⟩ l 195 B) (hR:HN ⟨Tryz.prog,W0,nb⟩ l 224 R):HN ⟨Tryz.prog,W0,nb⟩ l 224 (ifs l E B R):=by
 intro rs ⟨k0,t0,ks0⟩ rs' h;unfold ifs at h;obtain⟨⟨n1,r1⟩,h1,h⟩:=Option.bind_eq_some_iff.1 h
 try dsimp only at h1 h
 obtain⟨⟨⟨k2,t2,ks2⟩,r2⟩,h2,h⟩:=Option.bind_eq_some_iff.1 h
 try dsimp only at h2 h
 obtain⟨⟨⟨k3,t3,ks3⟩,r3⟩,h3,h⟩:=Option.bind_eq_some_iff.1 h
 try dsimp only at h3 h
 refine dcalls_end Tryz.func224 rfl (by kernel_rfl) 56 Tryz.ntmps224 #[.cell 2 26] rfl (Nat.le_of_ble_eq_true rfl) ?_;simp;refine CallGoal.same (want_ok h1) ?_
 try simp
 refine CallGoal.same (leaf_nil) ?_
 try simp
 refine drawWp.intro [(1,3)] [3] mixed (by kernel_rfl) (by kernel_rfl) (by kernel_rfl) ?_
 try simp
 refine CallGoal.same (hE h2) ?_
 try simp
 refine⟨by simp,by simp,?_⟩
 try simp
 refine drawWp.intro [(1,3)] [3] mixed (by kernel_rfl) (by kernel_rfl) (by kernel_rfl) ?_
 try simp
 refine CallGoal.same (hB h3) ?_
 try simp
 refine⟨by simp,by simp,?_⟩
 try simp
 cases g1:decide (0≤r3.bad)with
 | true=>
  simp only[g1,if_true]at h;simp only[Option.some.injEq,Prod.mk.injEq,Nd.mk.injEq]at h;obtain⟨⟨rfl,rfl,rfl⟩,rfl⟩:=h;simp;exact Pp.endE (by simp) (by simp) (by simp) (by simp)
 | false=>
  simp only[g1,Bool.false_eq_true,if_false]at h;obtain⟨b,h5,h⟩:=Option.bind_eq_some_iff.1 h
  try dsimp only at h5 h
  simp;refine CallGoal.same (isW_ok h5) ?_
  try simp
  cases b with
  | false=>
   simp only[Bool.false_eq_true,if_false]at h;simp only[Option.some.injEq,Prod.mk.injEq,Nd.mk.injEq]at h;obtain⟨⟨rfl,rfl,rfl⟩,rfl⟩:=h;simp;exact Pp.endE (by simp) (by simp) (by simp) (by simp)
  | true=>
   simp only[if_true]at h;obtain⟨c,h6,h⟩:=Option.bind_eq_some_iff.1 h
   try dsimp only at h6 h
   simp;refine CallGoal.same (next_ok) ?_
   try simp
   refine CallGoal.same (isW_ok h6) ?_
   try simp
   cases c with
   | true=>
    simp only[if_true]at h;obtain⟨⟨⟨k4,t4,ks4⟩,r4⟩,h7,h⟩:=Option.bind_eq_some_iff.1 h
    try dsimp only at h7 h
    simp only[Option.some.injEq,Prod.mk.injEq,Nd.mk.injEq]at h;obtain⟨⟨rfl,rfl,rfl⟩,rfl⟩:=h;simp;refine CallGoal.same (openR_ok) ?_
    try simp
    refine drawWp.intro [(1,3)] [3] mixed (by kernel_rfl) (by kernel_rfl) (by kernel_rfl) ?_
    try simp
    refine CallGoal.same (hR h7) ?_
    try simp
    refine⟨by simp,by simp,?_⟩
    try simp
    refine CallGoal.same (shut_ok) ?_
    try simp
    exact Pp.endE (by simp) (by simp) (by simp) (by simp)
   | false=>
    simp only[Bool.false_eq_true,if_false]at h;obtain⟨⟨⟨k4,t4,ks4⟩,r4⟩,h7,h⟩:=Option.bind_eq_some_iff.1 h
    try dsimp only at h7 h
    simp only[Option.some.injEq,Prod.mk.injEq,Nd.mk.injEq]at h;obtain⟨⟨rfl,rfl,rfl⟩,rfl⟩:=h;simp;refine drawWp.intro [(1,3)] [3] mixed (by kernel_rfl) (by kernel_rfl) (by kernel_rfl) ?_
    try simp
    refine CallGoal.same (hB h7) ?_
    try simp
    refine⟨by simp,by simp,?_⟩
    try simp
    exact Pp.endE (by simp) (by simp) (by simp) (by simp)
end Rp
end Go.Proofs.Dm
