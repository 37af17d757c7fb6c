/- Part of the proof: contracts of the functions, walked by the D-machine. No condition. -/
import Derived.Test.YtmlhdhpjcipcdaaGreatDoorRa
set_option linter.unusedSimpArgs false
set_option linter.unusedVariables false
set_option maxHeartbeats 4000000
namespace Go.Proofs.Dm
open Go Go.Proofs Go.Proofs.Tryz Go.Proofs.Dm.Sc
namespace Rp
attribute [local simp] rbox encT encN encNs takes handsOn isTmp Op.operands Call.operands
def unary (l:List Tok) (U P:RS→Option (Nd×RS)) (rs:RS):Option (Nd×RS):=
 if decide (rs.bad < 0)then(isW l rs ⟨#[45]⟩).bind fun b=>if b then(U (next l (openR rs)).2).bind fun r=>some (.mk 23 (next l (openR rs)).1 [r.1],shut r.2)
  else(isW l rs ⟨#[33]⟩).bind fun c=>if c then(U (next l (openR rs)).2).bind fun r=>some (.mk 23 (next l (openR rs)).1 [r.1],shut r.2)else P rs
 else P rs
theorem unary_ok {W0 nb l U P} (hU:HN ⟨Tryz.prog,W0,nb⟩ l 212 U) (hP:HN ⟨Tryz.prog,W0,nb⟩ l 223 P):HN ⟨Tryz.prog,W0,nb⟩ l 212 (unary l U P):=by
 intro rs ⟨k0,t0,ks0⟩ rs' h;unfold unary at h;refine dcalls_end Tryz.func212 rfl (by kernel_rfl) 32 Tryz.ntmps212 #[.cell 2 26] rfl (Nat.le_of_ble_eq_true rfl) ?_;simp;cases g1:decide (rs.bad < 0)with
 | false=>
  simp only[g1,Bool.false_eq_true,if_false]at h;simp;refine CallGoal.same (hP h) ?_
  try simp
  exact .kk
 | true=>
  simp only[g1,if_true]at h;obtain⟨b,h1,h⟩:=Option.bind_eq_some_iff.1 h
  try dsimp only at h1 h
  simp;refine CallGoal.same (isW_ok h1) ?_
  try simp
  cases b with
  | true=>
   simp only[if_true]at h;obtain⟨⟨⟨k4,t4,ks4⟩,r4⟩,h7,h⟩:=Option.bind_eq_some_iff.1 h
   try dsimp only at h7 h
   simp only[Option.some.injEq,Prod.mk.injEq,Nd.mk.injEq]at h;obtain⟨⟨rfl,rfl,rfl⟩,rfl⟩:=h;simp;refine CallGoal.same (openR_ok) ?_
   try simp
   refine CallGoal.same (next_ok) ?_
   try simp
   refine CallGoal.same (hU h7) ?_
   try simp
   refine CallGoal.intro (leaf_p (by simp) (by simp)) (.cons (.refl _) (.cons (.refl _) (.cons (.fr _ _ _) .nil))) ?_
   try simp
   refine CallGoal.same (shut_ok) ?_
   try simp
   exact Pp.endE (by simp) (by simp) (by simp) (by simp)
  | false=>
   simp only[Bool.false_eq_true,if_false]at h;obtain⟨c,h2,h⟩:=Option.bind_eq_some_iff.1 h
   try dsimp only at h2 h
   simp;refine CallGoal.same (isW_ok h2) ?_
   try simp
   cases c with
   | true=>
    simp only[if_true]at h;obtain⟨⟨⟨k4,t4,ks4⟩,r4⟩,h7,h⟩:=Option.bind_eq_some_iff.1 h
    try dsimp only at h7 h
    simp only[Option.some.injEq,Prod.mk.injEq,Nd.mk.injEq]at h;obtain⟨⟨rfl,rfl,rfl⟩,rfl⟩:=h;simp;refine CallGoal.same (openR_ok) ?_
    try simp
    refine CallGoal.same (next_ok) ?_
    try simp
    refine CallGoal.same (hU h7) ?_
    try simp
    refine CallGoal.intro (leaf_p (by simp) (by simp)) (.cons (.refl _) (.cons (.refl _) (.cons (.fr _ _ _) .nil))) ?_
    try simp
    refine CallGoal.same (shut_ok) ?_
    try simp
    exact Pp.endE (by simp) (by simp) (by simp) (by simp)
   | false=>
    simp only[Bool.false_eq_true,if_false]at h;simp;refine CallGoal.same (hP h) ?_
    try simp
    exact .kk
end Rp
end Go.Proofs.Dm
set_option maxHeartbeats 4000000
namespace Go.Proofs.Dm
open Go Go.Proofs Go.Proofs.Tryz Go.Proofs.Dm.Sc
namespace Rp
attribute [local simp] rbox encT encN encNs takes handsOn isTmp Op.operands Call.operands
def funcsS (l:List Tok) (ks:List Nd) (rs:RS):Option (List Nd×RS):=(wantK l rs 1).bind fun f1=>(types l f1.2).bind fun r2=>(app ks (.mk 9 f1.1 [r2.1])).bind fun ks'=>some (ks',r2.2)
def funcsL (l:List Tok):Nat→Bool→List Nd→RS→Option (List Nd×RS)
 | 0,_,_,_=>none
 | n + 1,first,ks,rs=>if decide (rs.bad < 0)then(isW l rs ⟨#[41]⟩).bind fun b=>if b then some (ks,rs)else
   if first then(funcsS l ks rs).bind fun r=>funcsL l n false r.1 r.2 else(want l rs ⟨#[44]⟩).bind fun w=>(funcsS l ks w.2).bind fun r=>funcsL l n false r.1 r.2
  else some (ks,rs)
def kindN (l:List Tok) (rs:RS) (k:Int):Option Bool:=if decide (rs.bad < 0)then kindQ l rs k else some false
def funcs (l:List Tok) (B:RS→Option (Nd×RS)) (N:Nat) (rs:RS):Option (Nd×RS):=
 (want l rs ⟨#[102,117,110,99]⟩).bind fun w1=>(wantK l w1.2 1).bind fun w2=>(want l w2.2 ⟨#[40]⟩).bind fun w3=>(funcsL l N true [] w3.2).bind fun r=>(want l r.2 ⟨#[41]⟩).bind fun w4=>
  (kindN l w4.2 1).bind fun b=>if b then(types l w4.2).bind fun r4=>(app r.1 r4.1).bind fun ks=>(B r4.2).bind fun r5=>(app ks r5.1).bind fun ks2=>some (.mk 8 w2.1 ks2,r5.2)
  else(B w4.2).bind fun r5=>(app r.1 r5.1).bind fun ks2=>some (.mk 8 w2.1 ks2,r5.2)
def fcI (l:List Tok) (tok:Int) (rs:List Nd) (rp:RS) (m:Nat) (s:St):Prop:=∃(first:Bool) (ks1:List Nd) (ps1:RS),funcsL l m first ks1 ps1=some (rs,rp)∧s.hp= [rbox l ps1,[i64 0,i64 0,.own 26 3 []],[i64 8,i64 tok,.own 26 3 (encNs ks1)]]∧s.tm 0= .ref 0 0∧s.tm 2= .ref 1 0∧s.tm 3= .ref 2 0∧s.tm 4= .p (.bool first)
def fcJ (l:List Tok) (tok:Int) (rs:List Nd) (rp:RS) (s:St):Prop:=s.hp= [rbox l rp,[i64 0,i64 0,.own 26 3 []],[i64 8,i64 tok,.own 26 3 (encNs rs)]]∧s.tm 0= .ref 0 0∧s.tm 2= .ref 1 0∧s.tm 3= .ref 2 0
theorem funcs_ok {W0 nb l B N} (hB:HN ⟨Tryz.prog,W0,nb⟩ l 195 B):HN ⟨Tryz.prog,W0,nb⟩ l 168 (funcs l B N):=by
 intro rs0 ⟨k0,t0,ks0⟩ rs' h;unfold funcs at h;obtain⟨⟨n1,p1⟩,h1,h⟩:=Option.bind_eq_some_iff.1 h
 try dsimp only at h1 h
 obtain⟨⟨n2,p2⟩,h2,h⟩:=Option.bind_eq_some_iff.1 h
 try dsimp only at h2 h
 obtain⟨⟨n3,p3⟩,h3,h⟩:=Option.bind_eq_some_iff.1 h
 try dsimp only at h3 h
 obtain⟨⟨rs,rp⟩,h4,h⟩:=Option.bind_eq_some_iff.1 h
 try dsimp only at h4 h
 obtain⟨⟨n5,p5⟩,h5,h⟩:=Option.bind_eq_some_iff.1 h
 try dsimp only at h5 h
 obtain⟨b,h6,h⟩:=Option.bind_eq_some_iff.1 h
 try dsimp only at h6 h
 refine dcalls_end Tryz.func168 rfl (by kernel_rfl) 74 Tryz.ntmps168 #[.cell 2 26] rfl (Nat.le_of_ble_eq_true rfl) ?_;simp;refine CallGoal.same (want_ok h1) ?_
 try simp
 refine CallGoal.same (wantK_ok h2) ?_
 try simp
 refine CallGoal.same (leaf_nil) ?_
 try simp
 refine CallGoal.same (want_ok h3) ?_
 try simp
 refine LoopGoal.cut (fcJ l n2 rs rp) ?_ ?_
 ·refine⟨fcI l n2 rs rp,N,.here ⟨true,[],p3,h4,by simp,by simp,by simp,by simp,by simp⟩,?_⟩;rintro m ⟨tm,hp⟩ ⟨first,ks1,ps1,g,e1,e3,e4,e5,e6⟩;simp only at e1 e3 e4 e5 e6;subst e1;cases m with
  | zero=>cases g
  | succ m=>
   simp only[funcsL]at g;simp[e3,e5,e6];cases g1:decide (ps1.bad < 0)with
   | false=>
    simp only[g1,Bool.false_eq_true,if_false,Option.some.injEq,Prod.mk.injEq]at g;obtain⟨rfl,rfl⟩:=g;simp[e3,e4,e5,e6];exact⟨by simp,by simp[e3],by simp[e4],by simp[e5]⟩
   | true=>
    simp only[g1,if_true]at g;obtain⟨b1,g2,g⟩:=Option.bind_eq_some_iff.1 g;cases first with
    | true=>
     simp[e3,e6];refine CallGoal.same (isW_ok g2) ?_
     try simp[e3,e5,e6]
     cases b1 with
     | true=>
      simp only[if_true,Option.some.injEq,Prod.mk.injEq]at g;obtain⟨rfl,rfl⟩:=g;simp[e3,e4,e5,e6];exact⟨by simp,by simp[e3],by simp[e4],by simp[e5]⟩
     | false=>
      simp only[Bool.false_eq_true,if_false,if_true]at g;obtain⟨⟨ks2,q2⟩,g3,g⟩:=Option.bind_eq_some_iff.1 g;simp only[funcsS]at g3;obtain⟨⟨m3,f3⟩,g4,g3⟩:=Option.bind_eq_some_iff.1 g3;obtain⟨⟨⟨k4,t4,ks4⟩,q4⟩,g5,g3⟩:=Option.bind_eq_some_iff.1 g3;obtain⟨ks',g6,g3⟩:=Option.bind_eq_some_iff.1 g3;simp only[Option.some.injEq,Prod.mk.injEq]at g3;obtain⟨rfl,rfl⟩:=g3;obtain⟨rfl,g7,g8⟩:=Pp.app_some g6;dsimp only at g g5;simp[e3,e6];refine CallGoal.same (wantK_ok g4) ?_
      try simp[e3,e5,e6]
      refine CallGoal.same (leaf_nil) ?_
      try simp[e3,e5,e6]
      refine drawWp.intro [(1,3)] [3] mixed (by kernel_rfl) (by kernel_rfl) (by kernel_rfl) ?_
      try simp
      try simp[e3,e5,e6]
      refine CallGoal.same (types_ok g5) ?_
      try simp[e3,e5,e6]
      refine⟨by simp[e3,e5],by simp[e3,e5],?_⟩
      try simp
      simp[e3,e5,e6,g7,g8];refine .drop m (by omega) 3 (by simp) (by simp) (by simp) ⟨false,_,_,g,?_⟩;simp[dropSt,dropD,e3,e4,e5,e6,encNs_append]
    | false=>
     simp[e3,e6];refine CallGoal.same (isW_ok g2) ?_
     try simp[e3,e5,e6]
     cases b1 with
     | true=>
      simp only[if_true,Option.some.injEq,Prod.mk.injEq]at g;obtain⟨rfl,rfl⟩:=g;simp[e3,e4,e5,e6];exact⟨by simp,by simp[e3],by simp[e4],by simp[e5]⟩
     | false=>
      simp only[Bool.false_eq_true,if_false]at g;obtain⟨⟨n9,w9⟩,g9,g⟩:=Option.bind_eq_some_iff.1 g;obtain⟨⟨ks2,q2⟩,g3,g⟩:=Option.bind_eq_some_iff.1 g;simp only[funcsS]at g3;obtain⟨⟨m3,f3⟩,g4,g3⟩:=Option.bind_eq_some_iff.1 g3;obtain⟨⟨⟨k4,t4,ks4⟩,q4⟩,g5,g3⟩:=Option.bind_eq_some_iff.1 g3;obtain⟨ks',g6,g3⟩:=Option.bind_eq_some_iff.1 g3;simp only[Option.some.injEq,Prod.mk.injEq]at g3;obtain⟨rfl,rfl⟩:=g3;obtain⟨rfl,g7,g8⟩:=Pp.app_some g6;dsimp only at g g4 g5;simp[e3,e6];refine CallGoal.same (want_ok g9) ?_
      try simp[e3,e5,e6]
      refine CallGoal.same (wantK_ok g4) ?_
      try simp[e3,e5,e6]
      refine CallGoal.same (leaf_nil) ?_
      try simp[e3,e5,e6]
      refine drawWp.intro [(1,3)] [3] mixed (by kernel_rfl) (by kernel_rfl) (by kernel_rfl) ?_
      try simp
      try simp[e3,e5,e6]
      refine CallGoal.same (types_ok g5) ?_
      try simp[e3,e5,e6]
      refine⟨by simp[e3,e5],by simp[e3,e5],?_⟩
      try simp
      simp[e3,e5,e6,g7,g8];refine .drop m (by omega) 3 (by simp) (by simp) (by simp) ⟨false,_,_,g,?_⟩;simp[dropSt,dropD,e3,e4,e5,e6,encNs_append]
 rintro⟨tm,hp⟩ ⟨e1,e3,e4,e5⟩;simp only at e1 e3 e4 e5;subst e1;simp[e3];refine CallGoal.same (want_ok h5) ?_
 try simp[e3,e5]
 unfold kindN at h6;cases h8:decide (p5.bad < 0)with
 | false=>
  simp only[h8,Bool.false_eq_true,if_false,Option.some.injEq]at h6;subst h6;simp only[Bool.false_eq_true,if_false]at h;obtain⟨⟨⟨k3,t3,ks3⟩,q3⟩,h9,h⟩:=Option.bind_eq_some_iff.1 h
  try dsimp only at h9 h
  obtain⟨kl,h10,h⟩:=Option.bind_eq_some_iff.1 h
  try dsimp only at h10 h
  obtain⟨rfl,g9,g10⟩:=Pp.app_some h10;simp only[Option.some.injEq,Prod.mk.injEq,Nd.mk.injEq]at h;obtain⟨⟨rfl,rfl,rfl⟩,rfl⟩:=h
  try simp[e3,e5,h8]
  refine drawWp.intro [(1,3)] [3] mixed (by kernel_rfl) (by kernel_rfl) (by kernel_rfl) ?_
  try simp
  try simp[e3,e5]
  refine CallGoal.same (hB h9) ?_
  try simp[e3,e5,g9,g10]
  refine⟨by simp[e3,e5],by simp[e3,e5],?_⟩
  try simp
  simp[e4,e5];exact Pp.endE (by simp[e4,encNs_append]) (by simp) (by simp[e4,encNs_append]) (by simp[e4,encNs_append])
 | true=>
  simp only[h8,if_true]at h6;simp[e3,h8];refine CallGoal.same (kindQ_ok h6) ?_
  try simp[e3,e5]
  cases b with
  | false=>
   simp only[Bool.false_eq_true,if_false]at h;obtain⟨⟨⟨k3,t3,ks3⟩,q3⟩,h9,h⟩:=Option.bind_eq_some_iff.1 h
   try dsimp only at h9 h
   obtain⟨kl,h10,h⟩:=Option.bind_eq_some_iff.1 h
   try dsimp only at h10 h
   obtain⟨rfl,g9,g10⟩:=Pp.app_some h10;simp only[Option.some.injEq,Prod.mk.injEq,Nd.mk.injEq]at h;obtain⟨⟨rfl,rfl,rfl⟩,rfl⟩:=h
   try simp[e3,e5,h8]
   refine drawWp.intro [(1,3)] [3] mixed (by kernel_rfl) (by kernel_rfl) (by kernel_rfl) ?_
   try simp
   try simp[e3,e5]
   refine CallGoal.same (hB h9) ?_
   try simp[e3,e5,g9,g10]
   refine⟨by simp[e3,e5],by simp[e3,e5],?_⟩
   try simp
   simp[e4,e5];exact Pp.endE (by simp[e4,encNs_append]) (by simp) (by simp[e4,encNs_append]) (by simp[e4,encNs_append])
  | true=>
   simp only[if_true]at h;obtain⟨⟨⟨k2,t2,ks2⟩,q2⟩,h7,h⟩:=Option.bind_eq_some_iff.1 h
   try dsimp only at h7 h
   obtain⟨kk,h8',h⟩:=Option.bind_eq_some_iff.1 h
   try dsimp only at h8' h
   obtain⟨⟨⟨k3,t3,ks3⟩,q3⟩,h9,h⟩:=Option.bind_eq_some_iff.1 h
   try dsimp only at h9 h
   obtain⟨kl,h10,h⟩:=Option.bind_eq_some_iff.1 h
   try dsimp only at h10 h
   obtain⟨rfl,g7,g8⟩:=Pp.app_some h8';obtain⟨rfl,g9,g10⟩:=Pp.app_some h10;simp only[encNs_append,List.length_append,encNs,List.length_cons,List.length_nil,Nat.zero_add]at g9 g10;have g11:(encNs rs).length≤9223372036854775805:=by omega
   simp only[Option.some.injEq,Prod.mk.injEq,Nd.mk.injEq]at h;obtain⟨⟨rfl,rfl,rfl⟩,rfl⟩:=h;simp[e3,e5];refine drawWp.intro [(1,3)] [3] mixed (by kernel_rfl) (by kernel_rfl) (by kernel_rfl) ?_
   try simp
   try simp[e3,e5]
   refine CallGoal.same (types_ok h7) ?_
   try simp[e3,e5,g7,g8]
   refine⟨by simp[e3,e5],by simp[e3,e5],?_⟩
   try simp
   try simp[e3,e5]
   refine drawWp.intro [(1,3)] [3] mixed (by kernel_rfl) (by kernel_rfl) (by kernel_rfl) ?_
   try simp
   try simp[e3,e5]
   refine CallGoal.same (hB h9) ?_
   try simp[e3,e5,g9,g10,g11]
   refine⟨by simp[e3,e5],by simp[e3,e5],?_⟩
   try simp
   simp[e4,e5];exact Pp.endE (by simp[e4,encNs_append]) (by simp) (by simp[e4,encNs_append]) (by simp[e4,encNs_append])
end Rp
end Go.Proofs.Dm
