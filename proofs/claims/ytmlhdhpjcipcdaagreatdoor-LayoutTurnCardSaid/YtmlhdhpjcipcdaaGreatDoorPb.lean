/- Part of the proof: contracts of the functions, walked by the D-machine. No condition. -/
import Derived.Test.YtmlhdhpjcipcdaaGreatDoorPa
set_option linter.unusedSimpArgs false
set_option linter.unusedVariables false
set_option maxHeartbeats 4000000
namespace Go.Proofs.Dm
open Go Go.Proofs Go.Proofs.Tryz Go.Proofs.Dm.Sc
namespace Pp
attribute [local simp] pbox encT encN encNs takes handsOn isTmp Op.operands Call.operands
def leaveB (l:List Tok) (ps:PS) (k:Int):Option (Nd×PS):=
 (peek l (skip ps) 0).bind fun t=>if t.kind==1 then some (.mk k (tk (skip ps)) [.mk 19 (tk (skip (skip ps))) []],skip (skip ps))else some (.mk k (tk (skip ps)) [],skip ps)
theorem leave_ok {W0 nb l ps k nd ps'} (h:leaveB l ps k=some (nd,ps')):DCalls ⟨Tryz.prog,W0,nb⟩ 238 [.ref 0 0,i64 k] [pbox l ps] (.agg ((encN nd).map .p)) [pbox l ps']:=by
 unfold leaveB at h;obtain⟨t,h1,h⟩:=Option.bind_eq_some_iff.1 h
 try dsimp only at h1 h
 refine dcalls_end Tryz.func238 rfl (by kernel_rfl) 23 Tryz.ntmps238 #[.cell 4 26] rfl (Nat.le_of_ble_eq_true rfl) ?_;simp;refine CallGoal.same (skip_ok) ?_
 try simp
 refine CallGoal.same (node_nil) ?_
 try simp
 refine CallGoal.same (peek_ok h1) ?_
 try simp
 cases h2:t.kind==1 with
 | true=>
  simp only[h2,if_true]at h;simp only[Option.some.injEq,Prod.mk.injEq]at h;obtain⟨rfl,rfl⟩:=h;simp;refine drawWp.intro [(1,3),(1,4)] [3,4] mixed (by kernel_rfl) (by kernel_rfl) (by kernel_rfl) ?_
  try simp
  refine CallGoal.same (skip_ok) ?_
  try simp
  refine CallGoal.same (node_nil) ?_
  try simp
  refine⟨by simp,by simp,?_⟩
  try simp
  exact Pp.endE (by simp) (by simp) (by simp) (by simp)
 | false=>
  simp only[h2,Bool.false_eq_true,if_false]at h;simp only[Option.some.injEq,Prod.mk.injEq]at h;obtain⟨rfl,rfl⟩:=h;simp;exact Pp.endE (by simp) (by simp) (by simp) (by simp)
def branchB (l:List Tok) (E B R:PS→Option (Nd×PS)) (ps:PS):Option (Nd×PS):=
 (E (skip ps)).bind fun r1=>(B r1.2).bind fun r2=>(isW l r2.2 ⟨#[101,108,115,101]⟩).bind fun b=>
  if b then(isW l (skip r2.2) ⟨#[105,102]⟩).bind fun c=>
   if c then(R (openP (skip r2.2))).bind fun r3=>some (.mk 14 (tk (skip ps)) [r1.1,r2.1,r3.1],closeP r3.2)
   else(B (skip r2.2)).bind fun r3=>some (.mk 14 (tk (skip ps)) [r1.1,r2.1,r3.1],r3.2)
  else some (.mk 14 (tk (skip ps)) [r1.1,r2.1],r2.2)
theorem branch_ok {W0 nb l E B R} (hE:HN ⟨Tryz.prog,W0,nb⟩ l 216 E) (hB:HN ⟨Tryz.prog,W0,nb⟩ l 219 B) (hR:HN ⟨Tryz.prog,W0,nb⟩ l 235 R):HN ⟨Tryz.prog,W0,nb⟩ l 235 (branchB l E B R):=by
 intro ps nd ps' h;unfold branchB at h;obtain⟨⟨⟨k1,t1,ks1⟩,p1⟩,h1,h⟩:=Option.bind_eq_some_iff.1 h
 try dsimp only at h1 h
 obtain⟨⟨⟨k2,t2,ks2⟩,p2⟩,h2,h⟩:=Option.bind_eq_some_iff.1 h
 try dsimp only at h2 h
 obtain⟨b,h3,h⟩:=Option.bind_eq_some_iff.1 h
 try dsimp only at h3 h
 refine dcalls_end Tryz.func235 rfl (by kernel_rfl) 43 Tryz.ntmps235 #[.cell 2 26] rfl (Nat.le_of_ble_eq_true rfl) ?_;simp;refine CallGoal.same (skip_ok) ?_
 try simp
 refine CallGoal.same (node_nil) ?_
 try simp
 refine drawWp.intro [(1,3),(1,5)] [3,5] mixed (by kernel_rfl) (by kernel_rfl) (by kernel_rfl) ?_
 try simp
 refine CallGoal.same (hE h1) ?_
 try simp
 refine CallGoal.same (hB h2) ?_
 try simp
 refine⟨by simp,by simp,?_⟩
 try simp
 refine CallGoal.same (isW_ok h3) ?_
 try simp
 cases b with
 | false=>
  simp only[Bool.false_eq_true,if_false]at h;simp only[Option.some.injEq,Prod.mk.injEq]at h;obtain⟨rfl,rfl⟩:=h;simp;exact Pp.endE (by simp) (by simp) (by simp) (by simp)
 | true=>
  simp only[if_true]at h;obtain⟨c,h4,h⟩:=Option.bind_eq_some_iff.1 h
  try dsimp only at h4 h
  simp;refine CallGoal.same (skip_ok) ?_
  try simp
  refine CallGoal.same (isW_ok h4) ?_
  try simp
  cases c with
  | true=>
   simp only[if_true]at h;obtain⟨⟨⟨k3,t3,ks3⟩,p3⟩,h5,h⟩:=Option.bind_eq_some_iff.1 h
   try dsimp only at h5 h
   simp only[Option.some.injEq,Prod.mk.injEq]at h;obtain⟨rfl,rfl⟩:=h;simp;refine CallGoal.same (openP_ok) ?_
   try simp
   refine drawWp.intro [(1,3)] [3] mixed (by kernel_rfl) (by kernel_rfl) (by kernel_rfl) ?_
   try simp
   refine CallGoal.same (hR h5) ?_
   try simp
   refine⟨by simp,by simp,?_⟩
   try simp
   refine CallGoal.same (closeP_ok) ?_
   try simp
   exact Pp.endE (by simp) (by simp) (by simp) (by simp)
  | false=>
   simp only[Bool.false_eq_true,if_false]at h;obtain⟨⟨⟨k3,t3,ks3⟩,p3⟩,h5,h⟩:=Option.bind_eq_some_iff.1 h
   try dsimp only at h5 h
   simp only[Option.some.injEq,Prod.mk.injEq]at h;obtain⟨rfl,rfl⟩:=h;simp;refine drawWp.intro [(1,3)] [3] mixed (by kernel_rfl) (by kernel_rfl) (by kernel_rfl) ?_
   try simp
   refine CallGoal.same (hB h5) ?_
   try simp
   refine⟨by simp,by simp,?_⟩
   try simp
   exact Pp.endE (by simp) (by simp) (by simp) (by simp)
def simpleB (l:List Tok) (E L:PS→Option (Nd×PS)) (ps:PS):Option (Nd×PS):=
 let rest:=(E ps).bind fun r1=>(isW l r1.2 ⟨#[61]⟩).bind fun b=>
  if b then(E (skip r1.2)).bind fun r2=>some (.mk 13 (tk (skip r1.2)) [r1.1,r2.1],r2.2)
  else some (.mk 12 ps.at_ [r1.1],r1.2)
 (peek l ps 0).bind fun t=>if t.kind==1 then
   (peek l ps 1).bind fun n=>if word n ⟨#[58,61]⟩then(E (skip (skip ps))).bind fun r1=>some (.mk 11 (tk (skip ps)) [r1.1],r1.2)
    else if word n ⟨#[58]⟩then(isW l (skip (skip ps)) ⟨#[102,111,114]⟩).bind fun b=>
     (L (if b then skip (skip ps)else bad (skip (skip ps)))).bind fun r1=>some (.mk 19 (tk (skip ps)) [r1.1],r1.2)
    else rest
  else rest
theorem simple_ok {W0 nb l E L} (hE:HN ⟨Tryz.prog,W0,nb⟩ l 216 E) (hL:HN ⟨Tryz.prog,W0,nb⟩ l 236 L):HN ⟨Tryz.prog,W0,nb⟩ l 239 (simpleB l E L):=by
 intro ps nd ps' h;unfold simpleB at h;dsimp only at h;obtain⟨t,h1,h⟩:=Option.bind_eq_some_iff.1 h
 try dsimp only at h1 h
 refine dcalls_end Tryz.func239 rfl (by kernel_rfl) 64 Tryz.ntmps239 #[.cell 2 26] rfl (Nat.le_of_ble_eq_true rfl) ?_;simp;refine CallGoal.same (peek_ok h1) ?_
 try simp
 cases h2:t.kind==1 with
 | true=>
  simp only[h2,if_true]at h;obtain⟨n,h3,h⟩:=Option.bind_eq_some_iff.1 h
  try dsimp only at h3 h
  simp;refine CallGoal.same (peek_ok h3) ?_
  try simp
  refine CallGoal.same (word_ok) ?_
  try simp
  cases h4:word n ⟨#[58,61]⟩with
  | true=>
   simp only[h4,if_true]at h;obtain⟨⟨⟨k1,t1,ks1⟩,p1⟩,h5,h⟩:=Option.bind_eq_some_iff.1 h
   try dsimp only at h5 h
   simp only[Option.some.injEq,Prod.mk.injEq]at h;obtain⟨rfl,rfl⟩:=h;simp;refine CallGoal.same (skip_ok) ?_
   try simp
   refine CallGoal.same (skip_ok) ?_
   try simp
   refine CallGoal.same (hE h5) ?_
   try simp
   refine CallGoal.same (node_own) ?_
   try simp
   exact Pp.endE (by simp) (by simp) (by simp) (by simp)
  | false=>
   simp only[h4,Bool.false_eq_true,if_false]at h;simp;refine CallGoal.same (word_ok) ?_
   try simp
   cases h6:word n ⟨#[58]⟩with
   | true=>
    simp only[h6,if_true]at h;obtain⟨b,h7,h⟩:=Option.bind_eq_some_iff.1 h
    try dsimp only at h7 h
    obtain⟨⟨⟨k1,t1,ks1⟩,p1⟩,h5,h⟩:=Option.bind_eq_some_iff.1 h
    try dsimp only at h5 h
    simp only[Option.some.injEq,Prod.mk.injEq]at h;obtain⟨rfl,rfl⟩:=h;simp;refine CallGoal.same (skip_ok) ?_
    try simp
    refine CallGoal.same (skip_ok) ?_
    try simp
    refine CallGoal.same (isW_ok h7) ?_
    try simp
    cases b with
    | true=>
     simp;refine CallGoal.same (hL h5) ?_
     try simp
     refine CallGoal.same (node_own) ?_
     try simp
     exact Pp.endE (by simp) (by simp) (by simp) (by simp)
    | false=>
     simp;refine CallGoal.same (bad_ok) ?_
     try simp
     refine CallGoal.same (hL h5) ?_
     try simp
     refine CallGoal.same (node_own) ?_
     try simp
     exact Pp.endE (by simp) (by simp) (by simp) (by simp)
   | false=>
    simp only[h6,Bool.false_eq_true,if_false]at h;obtain⟨⟨⟨k1,t1,ks1⟩,p1⟩,h7,h⟩:=Option.bind_eq_some_iff.1 h
    try dsimp only at h7 h
    obtain⟨b,h8,h⟩:=Option.bind_eq_some_iff.1 h
    try dsimp only at h8 h
    simp;refine CallGoal.same (hE h7) ?_
    try simp
    refine CallGoal.same (isW_ok h8) ?_
    try simp
    cases b with
    | true=>
     simp only[if_true]at h;obtain⟨⟨⟨k2,t2,ks2⟩,p2⟩,h9,h⟩:=Option.bind_eq_some_iff.1 h
     try dsimp only at h9 h
     simp only[Option.some.injEq,Prod.mk.injEq]at h;obtain⟨rfl,rfl⟩:=h;simp;refine CallGoal.same (skip_ok) ?_
     try simp
     refine drawWp.intro [(1,3)] [1,3] mixed (by kernel_rfl) (by kernel_rfl) (by kernel_rfl) ?_
     try simp
     refine CallGoal.same (hE h9) ?_
     try simp
     refine CallGoal.same (node_own) ?_
     try simp
     refine⟨by simp,by simp,?_⟩
     try simp
     exact Pp.endE (by simp) (by simp) (by simp) (by simp)
    | false=>
     simp only[Bool.false_eq_true,if_false]at h;simp only[Option.some.injEq,Prod.mk.injEq]at h;obtain⟨rfl,rfl⟩:=h;simp;refine CallGoal.same (node_own) ?_
     try simp
     exact Pp.endE (by simp) (by simp) (by simp) (by simp)
 | false=>
  simp only[h2,Bool.false_eq_true,if_false]at h;obtain⟨⟨⟨k1,t1,ks1⟩,p1⟩,h7,h⟩:=Option.bind_eq_some_iff.1 h
  try dsimp only at h7 h
  obtain⟨b,h8,h⟩:=Option.bind_eq_some_iff.1 h
  try dsimp only at h8 h
  simp;refine CallGoal.same (hE h7) ?_
  try simp
  refine CallGoal.same (isW_ok h8) ?_
  try simp
  cases b with
  | true=>
   simp only[if_true]at h;obtain⟨⟨⟨k2,t2,ks2⟩,p2⟩,h9,h⟩:=Option.bind_eq_some_iff.1 h
   try dsimp only at h9 h
   simp only[Option.some.injEq,Prod.mk.injEq]at h;obtain⟨rfl,rfl⟩:=h;simp;refine CallGoal.same (skip_ok) ?_
   try simp
   refine drawWp.intro [(1,3)] [1,3] mixed (by kernel_rfl) (by kernel_rfl) (by kernel_rfl) ?_
   try simp
   refine CallGoal.same (hE h9) ?_
   try simp
   refine CallGoal.same (node_own) ?_
   try simp
   refine⟨by simp,by simp,?_⟩
   try simp
   exact Pp.endE (by simp) (by simp) (by simp) (by simp)
  | false=>
   simp only[Bool.false_eq_true,if_false]at h;simp only[Option.some.injEq,Prod.mk.injEq]at h;obtain⟨rfl,rfl⟩:=h;simp;refine CallGoal.same (node_own) ?_
   try simp
   exact Pp.endE (by simp) (by simp) (by simp) (by simp)
end Pp
end Go.Proofs.Dm
set_option maxHeartbeats 4000000
namespace Go.Proofs.Dm
open Go Go.Proofs Go.Proofs.Tryz Go.Proofs.Dm.Sc
namespace Pp
attribute [local simp] pbox encT encN encNs takes handsOn isTmp Op.operands Call.operands
def declB (l:List Tok) (V C S F:PS→Option (Nd×PS)) (ps:PS):Option (Nd×PS):=
 (isW l ps ⟨#[118,97,114]⟩).bind fun b0=>if b0 then V ps else
 (isW l ps ⟨#[99,111,110,115,116]⟩).bind fun b1=>if b1 then C ps else
 (isW l ps ⟨#[116,121,112,101]⟩).bind fun b2=>if b2 then S ps else
 (isW l ps ⟨#[102,117,110,99]⟩).bind fun b3=>if b3 then F ps else
 some (.mk 0 0 [],bad ps)
theorem declB_ok {W0 nb l V C S F} (hV:HN ⟨Tryz.prog,W0,nb⟩ l 198 V) (hC:HN ⟨Tryz.prog,W0,nb⟩ l 199 C) (hS:HN ⟨Tryz.prog,W0,nb⟩ l 200 S) (hF:HN ⟨Tryz.prog,W0,nb⟩ l 201 F):HN ⟨Tryz.prog,W0,nb⟩ l 176 (declB l V C S F):=by
 intro ps ⟨k0,t0,ks0⟩ ps' h;unfold declB at h;refine dcalls_end Tryz.func176 rfl (by kernel_rfl) 26 Tryz.ntmps176 #[.cell 2 26] rfl (Nat.le_of_ble_eq_true rfl) ?_;simp;obtain⟨b0,g0,h⟩:=Option.bind_eq_some_iff.1 h
 try dsimp only at g0 h
 refine CallGoal.same (isW_ok g0) ?_
 try simp
 cases b0 with
 | true=>
  simp only[if_true]at h;simp;refine CallGoal.same (hV h) ?_
  try simp
  exact .kk
 | false=>
  simp only[Bool.false_eq_true,if_false]at h;simp;obtain⟨b1,g1,h⟩:=Option.bind_eq_some_iff.1 h
  try dsimp only at g1 h
  refine CallGoal.same (isW_ok g1) ?_
  try simp
  cases b1 with
  | true=>
   simp only[if_true]at h;simp;refine CallGoal.same (hC h) ?_
   try simp
   exact .kk
  | false=>
   simp only[Bool.false_eq_true,if_false]at h;simp;obtain⟨b2,g2,h⟩:=Option.bind_eq_some_iff.1 h
   try dsimp only at g2 h
   refine CallGoal.same (isW_ok g2) ?_
   try simp
   cases b2 with
   | true=>
    simp only[if_true]at h;simp;refine CallGoal.same (hS h) ?_
    try simp
    exact .kk
   | false=>
    simp only[Bool.false_eq_true,if_false]at h;simp;obtain⟨b3,g3,h⟩:=Option.bind_eq_some_iff.1 h
    try dsimp only at g3 h
    refine CallGoal.same (isW_ok g3) ?_
    try simp
    cases b3 with
    | true=>
     simp only[if_true]at h;simp;refine CallGoal.same (hF h) ?_
     try simp
     exact .kk
    | false=>
     simp only[Bool.false_eq_true,if_false]at h;simp;simp only[Option.some.injEq,Prod.mk.injEq,Nd.mk.injEq]at h;obtain⟨⟨rfl,rfl,rfl⟩,rfl⟩:=h;refine CallGoal.same (bad_ok) ?_
     try simp
     exact Pp.endE (by simp) (by simp) (by simp) (by simp)
def stmtB (l:List Tok) (V C B I L R M:PS→Option (Nd×PS)) (ps:PS):Option (Nd×PS):=
 (isW l ps ⟨#[118,97,114]⟩).bind fun b0=>if b0 then V ps else
 (isW l ps ⟨#[99,111,110,115,116]⟩).bind fun b1=>if b1 then C ps else
 (isW l ps ⟨#[123]⟩).bind fun b2=>if b2 then B ps else
 (isW l ps ⟨#[105,102]⟩).bind fun b3=>if b3 then I ps else
 (isW l ps ⟨#[102,111,114]⟩).bind fun b4=>if b4 then L ps else
 (isW l ps ⟨#[114,101,116,117,114,110]⟩).bind fun b5=>if b5 then R ps else
 (isW l ps ⟨#[98,114,101,97,107]⟩).bind fun b6=>if b6 then leaveB l ps 17 else
 (isW l ps ⟨#[99,111,110,116,105,110,117,101]⟩).bind fun b7=>if b7 then leaveB l ps 18 else
 M ps
theorem stmtB_ok {W0 nb l V C B I L R M} (hV:HN ⟨Tryz.prog,W0,nb⟩ l 198 V) (hC:HN ⟨Tryz.prog,W0,nb⟩ l 199 C) (hB:HN ⟨Tryz.prog,W0,nb⟩ l 219 B) (hI:HN ⟨Tryz.prog,W0,nb⟩ l 235 I) (hL:HN ⟨Tryz.prog,W0,nb⟩ l 236 L) (hR:HN ⟨Tryz.prog,W0,nb⟩ l 237 R) (hM:HN ⟨Tryz.prog,W0,nb⟩ l 239 M):HN ⟨Tryz.prog,W0,nb⟩ l 231 (stmtB l V C B I L R M):=by
 intro ps ⟨k0,t0,ks0⟩ ps' h;unfold stmtB at h;refine dcalls_end Tryz.func231 rfl (by kernel_rfl) 45 Tryz.ntmps231 #[.cell 2 26] rfl (Nat.le_of_ble_eq_true rfl) ?_;simp;obtain⟨b0,g0,h⟩:=Option.bind_eq_some_iff.1 h
 try dsimp only at g0 h
 refine CallGoal.same (isW_ok g0) ?_
 try simp
 cases b0 with
 | true=>
  simp only[if_true]at h;simp;refine CallGoal.same (hV h) ?_
  try simp
  exact .kk
 | false=>
  simp only[Bool.false_eq_true,if_false]at h;simp;obtain⟨b1,g1,h⟩:=Option.bind_eq_some_iff.1 h
  try dsimp only at g1 h
  refine CallGoal.same (isW_ok g1) ?_
  try simp
  cases b1 with
  | true=>
   simp only[if_true]at h;simp;refine CallGoal.same (hC h) ?_
   try simp
   exact .kk
  | false=>
   simp only[Bool.false_eq_true,if_false]at h;simp;obtain⟨b2,g2,h⟩:=Option.bind_eq_some_iff.1 h
   try dsimp only at g2 h
   refine CallGoal.same (isW_ok g2) ?_
   try simp
   cases b2 with
   | true=>
    simp only[if_true]at h;simp;refine CallGoal.same (hB h) ?_
    try simp
    exact .kk
   | false=>
    simp only[Bool.false_eq_true,if_false]at h;simp;obtain⟨b3,g3,h⟩:=Option.bind_eq_some_iff.1 h
    try dsimp only at g3 h
    refine CallGoal.same (isW_ok g3) ?_
    try simp
    cases b3 with
    | true=>
     simp only[if_true]at h;simp;refine CallGoal.same (hI h) ?_
     try simp
     exact .kk
    | false=>
     simp only[Bool.false_eq_true,if_false]at h;simp;obtain⟨b4,g4,h⟩:=Option.bind_eq_some_iff.1 h
     try dsimp only at g4 h
     refine CallGoal.same (isW_ok g4) ?_
     try simp
     cases b4 with
     | true=>
      simp only[if_true]at h;simp;refine CallGoal.same (hL h) ?_
      try simp
      exact .kk
     | false=>
      simp only[Bool.false_eq_true,if_false]at h;simp;obtain⟨b5,g5,h⟩:=Option.bind_eq_some_iff.1 h
      try dsimp only at g5 h
      refine CallGoal.same (isW_ok g5) ?_
      try simp
      cases b5 with
      | true=>
       simp only[if_true]at h;simp;refine CallGoal.same (hR h) ?_
       try simp
       exact .kk
      | false=>
       simp only[Bool.false_eq_true,if_false]at h;simp;obtain⟨b6,g6,h⟩:=Option.bind_eq_some_iff.1 h
       try dsimp only at g6 h
       refine CallGoal.same (isW_ok g6) ?_
       try simp
       cases b6 with
       | true=>
        simp only[if_true]at h;simp;refine CallGoal.same (leave_ok h) ?_
        try simp
        exact .kk
       | false=>
        simp only[Bool.false_eq_true,if_false]at h;simp;obtain⟨b7,g7,h⟩:=Option.bind_eq_some_iff.1 h
        try dsimp only at g7 h
        refine CallGoal.same (isW_ok g7) ?_
        try simp
        cases b7 with
        | true=>
         simp only[if_true]at h;simp;refine CallGoal.same (leave_ok h) ?_
         try simp
         exact .kk
        | false=>
         simp only[Bool.false_eq_true,if_false]at h;simp;refine CallGoal.same (hM h) ?_
         try simp
         exact .kk
theorem expr_ok {W0 nb l} {Y:PS→Option (Nd×PS)} (hY:∀{ps nd ps'},Y ps=some (nd,ps')→DCalls ⟨Tryz.prog,W0,nb⟩ 227 [.ref 0 0,i64 1] [pbox l ps] (.agg ((encN nd).map .p)) [pbox l ps']):HN ⟨Tryz.prog,W0,nb⟩ l 216 Y:=by
 intro ps ⟨k0,t0,ks0⟩ ps' h;refine dcalls_end Tryz.func216 rfl (by kernel_rfl) 5 Tryz.ntmps216 #[.cell 2 26] rfl (Nat.le_of_ble_eq_true rfl) ?_;simp;refine CallGoal.same (hY h) ?_
 try simp
 exact .kk
def unaryS (s:ByteArray):Bool:=(s.toList== [45])||(s.toList== [33])
theorem unaryS_ok {W0 nb s}:DCalls ⟨Tryz.prog,W0,nb⟩ 240 [.p (.str s)] [] (.p (.bool (unaryS s))) []:=by
 refine dcalls_end Tryz.func240 rfl (by kernel_rfl) 9 Tryz.ntmps240 #[.tmp 2] rfl (Nat.le_of_ble_eq_true rfl) ?_;simp;cases h1:(s.toList== [45])<;> simp[h1,unaryS]
 all_goals exact .kk
def unaryB (l:List Tok) (U P:PS→Option (Nd×PS)) (ps:PS):Option (Nd×PS):=
 (peek l ps 0).bind fun t=>if t.kind !=4 then P ps else if unaryS t.text then(U (skip (openP ps))).bind fun r=>some (.mk 23 (tk (skip (openP ps))) [r.1],closeP r.2)else P ps
theorem unary_ok {W0 nb l U P} (hU:HN ⟨Tryz.prog,W0,nb⟩ l 233 U) (hP:HN ⟨Tryz.prog,W0,nb⟩ l 241 P):HN ⟨Tryz.prog,W0,nb⟩ l 233 (unaryB l U P):=by
 intro ps ⟨k0,t0,ks0⟩ ps' h;unfold unaryB at h;obtain⟨t,h1,h⟩:=Option.bind_eq_some_iff.1 h
 try dsimp only at h1 h
 refine dcalls_end Tryz.func233 rfl (by kernel_rfl) 31 Tryz.ntmps233 #[.cell 2 26] rfl (Nat.le_of_ble_eq_true rfl) ?_;simp;refine CallGoal.same (peek_ok h1) ?_
 try simp
 cases h2:t.kind !=4 with
 | true=>
  simp only[h2,if_true]at h;simp;refine CallGoal.same (hP h) ?_
  try simp
  exact .kk
 | false=>
  simp only[h2,Bool.false_eq_true,if_false]at h;simp;refine CallGoal.same (unaryS_ok) ?_
  try simp
  cases h3:unaryS t.text with
  | false=>
   simp only[h3,Bool.false_eq_true,if_false]at h;simp;refine CallGoal.same (hP h) ?_
   try simp
   exact .kk
  | true=>
   simp only[h3,if_true]at h;obtain⟨⟨⟨k1,t1,ks1⟩,p1⟩,h4,h⟩:=Option.bind_eq_some_iff.1 h
   try dsimp only at h4 h
   simp only[Option.some.injEq,Prod.mk.injEq,Nd.mk.injEq]at h;obtain⟨⟨rfl,rfl,rfl⟩,rfl⟩:=h;simp;refine CallGoal.same (openP_ok) ?_
   try simp
   refine CallGoal.same (skip_ok) ?_
   try simp
   refine CallGoal.same (hU h4) ?_
   try simp
   refine CallGoal.same (node_own) ?_
   try simp
   refine CallGoal.same (closeP_ok) ?_
   try simp
   exact Pp.endE (by simp) (by simp) (by simp) (by simp)
def firstB (l:List Tok) (E:PS→Option (Nd×PS)) (ps:PS):Option (Nd×PS):=
 (peek l ps 0).bind fun t=>if t.kind==1 then some (.mk 20 (tk (skip ps)) [],skip ps)else if t.kind==2 then some (.mk 21 (tk (skip ps)) [],skip ps)
  else if t.kind==3 then some (.mk 22 (tk (skip ps)) [],skip ps)else(isW l ps ⟨#[40]⟩).bind fun b=>if b then
   (E (skip (openP ps))).bind fun r=>(want l r.2 ⟨#[41]⟩).bind fun p2=>some (.mk 25 (tk (skip (openP ps))) [r.1],closeP p2)
  else some (.mk 0 0 [],bad ps)
theorem first_ok {W0 nb l E} (hE:HN ⟨Tryz.prog,W0,nb⟩ l 216 E):HN ⟨Tryz.prog,W0,nb⟩ l 242 (firstB l E):=by
 intro ps ⟨k0,t0,ks0⟩ ps' h;unfold firstB at h;obtain⟨t,h1,h⟩:=Option.bind_eq_some_iff.1 h
 try dsimp only at h1 h
 refine dcalls_end Tryz.func242 rfl (by kernel_rfl) 43 Tryz.ntmps242 #[.cell 2 26] rfl (Nat.le_of_ble_eq_true rfl) ?_;simp;refine CallGoal.same (peek_ok h1) ?_
 try simp
 cases h2:t.kind==1 with
 | true=>
  simp only[h2,if_true]at h;simp only[Option.some.injEq,Prod.mk.injEq,Nd.mk.injEq]at h;obtain⟨⟨rfl,rfl,rfl⟩,rfl⟩:=h;simp;refine CallGoal.same (skip_ok) ?_
  try simp
  refine CallGoal.same (node_nil) ?_
  try simp
  exact Pp.endE (by simp) (by simp) (by simp) (by simp)
 | false=>
  simp only[h2,Bool.false_eq_true,if_false]at h;simp;cases h3:t.kind==2 with
  | true=>
   simp only[h3,if_true]at h;simp only[Option.some.injEq,Prod.mk.injEq,Nd.mk.injEq]at h;obtain⟨⟨rfl,rfl,rfl⟩,rfl⟩:=h;simp;refine CallGoal.same (skip_ok) ?_
   try simp
   refine CallGoal.same (node_nil) ?_
   try simp
   exact Pp.endE (by simp) (by simp) (by simp) (by simp)
  | false=>
   simp only[h3,Bool.false_eq_true,if_false]at h;simp;cases h4:t.kind==3 with
   | true=>
    simp only[h4,if_true]at h;simp only[Option.some.injEq,Prod.mk.injEq,Nd.mk.injEq]at h;obtain⟨⟨rfl,rfl,rfl⟩,rfl⟩:=h;simp;refine CallGoal.same (skip_ok) ?_
    try simp
    refine CallGoal.same (node_nil) ?_
    try simp
    exact Pp.endE (by simp) (by simp) (by simp) (by simp)
   | false=>
    simp only[h4,Bool.false_eq_true,if_false]at h;simp;obtain⟨b,h5,h⟩:=Option.bind_eq_some_iff.1 h
    try dsimp only at h5 h
    refine CallGoal.same (isW_ok h5) ?_
    try simp
    cases b with
    | false=>
     simp only[Bool.false_eq_true,if_false]at h;simp only[Option.some.injEq,Prod.mk.injEq,Nd.mk.injEq]at h;obtain⟨⟨rfl,rfl,rfl⟩,rfl⟩:=h;simp;refine CallGoal.same (bad_ok) ?_
     try simp
     exact Pp.endE (by simp) (by simp) (by simp) (by simp)
    | true=>
     simp only[if_true]at h;obtain⟨⟨⟨k1,t1,ks1⟩,p1⟩,h6,h⟩:=Option.bind_eq_some_iff.1 h
     try dsimp only at h6 h
     obtain⟨p2,h7,h⟩:=Option.bind_eq_some_iff.1 h
     try dsimp only at h7 h
     simp only[Option.some.injEq,Prod.mk.injEq,Nd.mk.injEq]at h;obtain⟨⟨rfl,rfl,rfl⟩,rfl⟩:=h;simp;refine CallGoal.same (openP_ok) ?_
     try simp
     refine CallGoal.same (skip_ok) ?_
     try simp
     refine CallGoal.same (hE h6) ?_
     try simp
     refine CallGoal.same (node_own) ?_
     try simp
     refine CallGoal.same (want_ok h7) ?_
     try simp
     refine CallGoal.same (closeP_ok) ?_
     try simp
     exact Pp.endE (by simp) (by simp) (by simp) (by simp)
end Pp
end Go.Proofs.Dm
set_option maxHeartbeats 4000000
namespace Go.Proofs.Dm
open Go Go.Proofs Go.Proofs.Tryz Go.Proofs.Dm.Sc
namespace Pp
attribute [local simp] pbox encT encN encNs takes handsOn isTmp Op.operands Call.operands
def rank (s:ByteArray):Int:=
 if s.toList== [124,124]then 1 else if s.toList== [38,38]then 2 else if s.toList== [61,61]then 3 else if s.toList== [33,61]then 3 else if s.toList== [60]then 3
 else if s.toList== [43]then 4 else if s.toList== [45]then 4 else if s.toList== [42]then 5 else 0
theorem rank_okR {W0 nb s r} (h:rank s=r):DCalls ⟨Tryz.prog,W0,nb⟩ 234 [.p (.str s)] [] (i64 r) []:=by
 refine dcalls_end Tryz.func234 rfl (by kernel_rfl) 17 Tryz.ntmps234 #[.tmp 2] rfl (Nat.le_of_ble_eq_true rfl) ?_;simp;cases h0:s.toList== [124,124]with
 | true=>
  simp only[rank,h0,if_true,Bool.false_eq_true,if_false]at h;subst h;simp;exact .kk
 | false=>
  simp;cases h1:s.toList== [38,38]with
  | true=>
   simp only[rank,h0,h1,if_true,Bool.false_eq_true,if_false]at h;subst h;simp;exact .kk
  | false=>
   simp;cases h2:s.toList== [61,61]with
   | true=>
    simp only[rank,h0,h1,h2,if_true,Bool.false_eq_true,if_false]at h;subst h;simp;exact .kk
   | false=>
    simp;cases h3:s.toList== [33,61]with
    | true=>
     simp only[rank,h0,h1,h2,h3,if_true,Bool.false_eq_true,if_false]at h;subst h;simp;exact .kk
    | false=>
     simp;cases h4:s.toList== [60]with
     | true=>
      simp only[rank,h0,h1,h2,h3,h4,if_true,Bool.false_eq_true,if_false]at h;subst h;simp;exact .kk
     | false=>
      simp;cases h5:s.toList== [43]with
      | true=>
       simp only[rank,h0,h1,h2,h3,h4,h5,if_true,Bool.false_eq_true,if_false]at h;subst h;simp;exact .kk
      | false=>
       simp;cases h6:s.toList== [45]with
       | true=>
        simp only[rank,h0,h1,h2,h3,h4,h5,h6,if_true,Bool.false_eq_true,if_false]at h;subst h;simp;exact .kk
       | false=>
        simp;cases h7:s.toList== [42]with
        | true=>
         simp only[rank,h0,h1,h2,h3,h4,h5,h6,h7,if_true,Bool.false_eq_true,if_false]at h;subst h;simp;exact .kk
        | false=>
         simp;simp only[rank,h0,h1,h2,h3,h4,h5,h6,h7,Bool.false_eq_true,if_false]at h;subst h;exact .kk
theorem rank_ok {W0 nb s}:DCalls ⟨Tryz.prog,W0,nb⟩ 234 [.p (.str s)] [] (i64 (rank s)) []:=rank_okR rfl
theorem node_fr {W0 nb k t xs}:DCalls ⟨Tryz.prog,W0,nb⟩ 169 [i64 k,i64 t,.own 26 3 xs] [] (.agg [i64 k,i64 t,.p (.sl 3 xs)]) []:=by
 refine dcalls_end Tryz.func169 rfl (by kernel_rfl) 11 Tryz.ntmps169 #[.cell 6 26] rfl (Nat.le_of_ble_eq_true rfl) ?_;simp;exact Pp.endE (by simp) (by simp) (by simp) (by simp)
def binaryL (l:List Tok) (Y:Int→PS→Option (Nd×PS)):Nat→Int→Nd→PS→Option (Nd×PS)
 | 0,_,_,_=>none
 | n + 1,rk,x,ps=>(peek l ps 0).bind fun t=>if t.kind !=4 then some (x,ps)else if decide (rank t.text < rk)then some (x,ps)else if rank t.text==0 then some (x,ps)else
   (Y (w64 (rank t.text + 1)) (skip ps)).bind fun r=>binaryL l Y n rk (.mk 24 (tk (skip ps)) [x,r.1]) r.2
def binaryB (l:List Tok) (U:PS→Option (Nd×PS)) (Y:Int→PS→Option (Nd×PS)) (n:Nat) (rk:Int) (ps:PS):Option (Nd×PS):=
 (U ps).bind fun r=>binaryL l Y n rk r.1 r.2
def HY (C:Ctx) (l:List Tok) (Y:Int→PS→Option (Nd×PS)):Prop:=∀{rk ps nd ps'},Y rk ps=some (nd,ps')→DCalls C 227 [.ref 0 0,i64 rk] [pbox l ps] (.agg ((encN nd).map .p)) [pbox l ps']
theorem binary_ok {W0 nb l U Y n} (hU:HN ⟨Tryz.prog,W0,nb⟩ l 233 U) (hY:HY ⟨Tryz.prog,W0,nb⟩ l Y):HY ⟨Tryz.prog,W0,nb⟩ l (binaryB l U Y n):=by
 intro rk ps ⟨k0,t0,ks0⟩ ps' h;unfold binaryB at h;obtain⟨⟨⟨k1,t1,ks1⟩,p1⟩,h1,h⟩:=Option.bind_eq_some_iff.1 h
 try dsimp only at h1 h
 refine dcalls_end Tryz.func227 rfl (by kernel_rfl) 39 Tryz.ntmps227 #[.cell 4 26] rfl (Nat.le_of_ble_eq_true rfl) ?_;simp;refine CallGoal.same (hU h1) ?_
 try simp
 refine⟨fun m s=>∃k t ks ps,binaryL l Y m rk (.mk k t ks) ps=some (.mk k0 t0 ks0,ps')∧s.hp= [pbox l ps,[i64 0,i64 0,.own 26 3 []],[i64 k,i64 t,.p (.sl 3 (encNs ks))]]∧s.tm 0= .ref 0 0∧s.tm 1=i64 rk∧s.tm 4= .ref 1 0∧s.tm 5= .ref 2 0,n,.here ⟨k1,t1,ks1,p1,h,?_⟩,?_⟩
 ·simp
 rintro m ⟨tm,hp⟩ ⟨k,t,ks,ps,h,e1,e3,e4,e5,e6⟩;simp only at e1 e3 e4 e5 e6;subst e1;cases m with
 | zero=>cases h
 | succ m=>
  simp only[binaryL]at h;obtain⟨t,h2,h⟩:=Option.bind_eq_some_iff.1 h
  try dsimp only at h2 h
  simp[e3,e6];refine CallGoal.same (peek_ok h2) ?_
  try simp[e4,e6]
  refine CallGoal.same (rank_ok) ?_
  try simp[e4,e6]
  cases h3:t.kind !=4 with
  | true=>
   simp only[h3,if_true]at h;simp only[Option.some.injEq,Prod.mk.injEq,Nd.mk.injEq]at h;obtain⟨⟨rfl,rfl,rfl⟩,rfl⟩:=h;simp[e5,e6];exact .keep (by simp[e5]) (.refl _) (by simp) (by simp[e5]) (by simp[e5]) (by simp[e5])
  | false=>
   simp only[h3,Bool.false_eq_true,if_false]at h;simp[e4];cases h4:decide (rank t.text < rk)with
   | true=>
    simp only[h4,if_true]at h;simp only[Option.some.injEq,Prod.mk.injEq,Nd.mk.injEq]at h;obtain⟨⟨rfl,rfl,rfl⟩,rfl⟩:=h;simp[e5,e6];exact .keep (by simp[e5]) (.refl _) (by simp) (by simp[e5]) (by simp[e5]) (by simp[e5])
   | false=>
    simp only[h4,Bool.false_eq_true,if_false]at h;simp[e5,e6];cases h5:rank t.text==0 with
    | true=>
     simp only[h5,if_true]at h;simp only[Option.some.injEq,Prod.mk.injEq,Nd.mk.injEq]at h;obtain⟨⟨rfl,rfl,rfl⟩,rfl⟩:=h;simp[e5,e6];exact .keep (by simp[e5]) (.refl _) (by simp) (by simp[e5]) (by simp[e5]) (by simp[e5])
    | false=>
     simp only[h5,Bool.false_eq_true,if_false]at h;obtain⟨⟨⟨k2,t2,ks2⟩,p2⟩,h6,h⟩:=Option.bind_eq_some_iff.1 h
     try dsimp only at h6 h
     simp[e3];refine CallGoal.same (skip_ok) ?_
     try simp
     refine drawWp.intro [(1,5)] [1,5] mixed (by kernel_rfl) (by kernel_rfl) (by kernel_rfl) ?_;simp[e3,e6];refine CallGoal.same (hY h6) ?_
     try simp[e6]
     refine CallGoal.same (node_fr) ?_
     try simp[e6]
     refine⟨by simp[e3,e6],by simp[e3,e6],?_⟩
     try simp
     refine .drop m (by omega) 3 (by simp) (by simp) (by simp) ⟨_,_,_,_,h,?_⟩;simp[dropSt,dropD,e3,e4,e5,e6]
end Pp
end Go.Proofs.Dm
