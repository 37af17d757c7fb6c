/- Part of the proof: contracts of the functions, walked by the D-machine. No condition. -/
import Derived.Test.YtmlhdhpjcipcdaaGreatDoorPb
set_option linter.unusedSimpArgs false
set_option linter.unusedVariables false
set_option maxHeartbeats 4000000
namespace Go.Proofs.Dm
open Go Go.Proofs Go.Proofs.Tryz Go.Proofs.Dm.Sc
namespace Pp
attribute [local simp] pbox encT encN encNs takes handsOn isTmp Op.operands Call.operands
def HC (C:Ctx) (l:List Tok) (K:Nd→PS→Option (Nd×PS)):Prop:=∀{k t ks ps nd ps'},K (.mk k t ks) ps=some (nd,ps')→DCalls C 243 [.ref 0 0,.agg [i64 k,i64 t,.p (.sl 3 (encNs ks))]] [pbox l ps] (.agg ((encN nd).map .p)) [pbox l ps']
def primL (l:List Tok) (K:Nd→PS→Option (Nd×PS)):Nat→Nd→PS→Option (Nd×PS)
 | 0,_,_=>none
 | n + 1,x,ps=>(isW l ps ⟨#[40]⟩).bind fun b=>if b then(K x ps).bind fun r=>primL l K n r.1 r.2
  else(isW l ps ⟨#[46]⟩).bind fun c=>if c then(kindP l (skip ps) 1).bind fun p2=>primL l K n (.mk 27 (tk p2) [x]) p2 else some (x,ps)
def primB (l:List Tok) (F:PS→Option (Nd×PS)) (K:Nd→PS→Option (Nd×PS)) (n:Nat) (ps:PS):Option (Nd×PS):=
 (F ps).bind fun r=>primL l K n r.1 r.2
theorem prim_ok {W0 nb l F K n} (hF:HN ⟨Tryz.prog,W0,nb⟩ l 242 F) (hK:HC ⟨Tryz.prog,W0,nb⟩ l K):HN ⟨Tryz.prog,W0,nb⟩ l 241 (primB l F K n):=by
 intro ps ⟨k0,t0,ks0⟩ ps' h;unfold primB at h;obtain⟨⟨⟨k1,t1,ks1⟩,p1⟩,h1,h⟩:=Option.bind_eq_some_iff.1 h
 try dsimp only at h1 h
 refine dcalls_end Tryz.func241 rfl (by kernel_rfl) 23 Tryz.ntmps241 #[.cell 2 26] rfl (Nat.le_of_ble_eq_true rfl) ?_;simp;refine CallGoal.same (hF h1) ?_
 try simp
 refine⟨fun m s=>∃k t ks ps,primL l K m (.mk k t ks) ps=some (.mk k0 t0 ks0,ps')∧s.hp= [pbox l ps,[i64 0,i64 0,.own 26 3 []],[i64 k,i64 t,.p (.sl 3 (encNs ks))]]∧s.tm 0= .ref 0 0∧s.tm 2= .ref 1 0∧s.tm 3= .ref 2 0,n,.here ⟨k1,t1,ks1,p1,h,?_⟩,?_⟩
 ·simp
 rintro m ⟨tm,hp⟩ ⟨k,t,ks,ps,h,e1,e3,e4,e5⟩;simp only at e1 e3 e4 e5;subst e1;cases m with
 | zero=>cases h
 | succ m=>
  simp only[primL]at h;obtain⟨b,h2,h⟩:=Option.bind_eq_some_iff.1 h
  try dsimp only at h2 h
  simp[e3,e5];refine CallGoal.same (isW_ok h2) ?_
  try simp[e4,e5]
  cases b with
  | true=>
   simp only[if_true]at h;obtain⟨⟨⟨k2,t2,ks2⟩,p2⟩,h3,h⟩:=Option.bind_eq_some_iff.1 h
   try dsimp only at h3 h
   simp[e3,e5];refine CallGoal.same (hK h3) ?_
   try simp[e5]
   refine .same m (by omega) ⟨_,_,_,_,h,?_⟩;simp[e3,e4,e5]
  | false=>
   simp only[Bool.false_eq_true,if_false]at h;obtain⟨c,h3,h⟩:=Option.bind_eq_some_iff.1 h
   try dsimp only at h3 h
   simp[e3,e5];refine CallGoal.same (isW_ok h3) ?_
   try simp[e4,e5]
   cases c with
   | true=>
    simp only[if_true]at h;obtain⟨p2,h4,h⟩:=Option.bind_eq_some_iff.1 h
    try dsimp only at h4 h
    simp[e3,e5];refine CallGoal.same (skip_ok) ?_
    try simp[e3,e5]
    refine drawWp.intro [(1,2)] [2] mixed (by kernel_rfl) (by kernel_rfl) (by kernel_rfl) ?_
    try simp
    try simp[e3,e5]
    refine CallGoal.same (kindP_ok h4) ?_
    try simp[e3,e5]
    refine CallGoal.same (node_fr) ?_
    try simp[e3,e5]
    refine⟨by simp[e3,e5],by simp[e3,e5],?_⟩
    try simp
    try simp[e5]
    refine .same m (by omega) ⟨_,_,_,_,h,?_⟩;simp[e3,e4,e5]
   | false=>
    simp only[Bool.false_eq_true,if_false]at h;simp only[Option.some.injEq,Prod.mk.injEq,Nd.mk.injEq]at h;obtain⟨⟨rfl,rfl,rfl⟩,rfl⟩:=h;simp[e4,e5];exact .keep (by simp[e4]) (.refl _) (by simp) (by simp[e4]) (by simp[e4]) (by simp[e4])
end Pp
end Go.Proofs.Dm
set_option maxHeartbeats 4000000
namespace Go.Proofs.Dm
open Go Go.Proofs Go.Proofs.Tryz Go.Proofs.Dm.Sc
theorem encNs_append:∀(a b:List Nd),encNs (a ++ b)=encNs a ++ encNs b
 | [],b=>rfl
 | x::a,b=>by simp only[List.cons_append,encNs,encNs_append a b]
theorem encNs_length:∀(a:List Nd),(encNs a).length=a.length
 | []=>rfl
 | x::a=>by simp only[encNs,List.length_cons,encNs_length a]
def app (ks:List Nd) (n:Nd):Option (List Nd):=if ks.length < 4294967296 then some (ks ++ [n])else none
namespace Pp
attribute [local simp] pbox encT encN encNs takes handsOn isTmp Op.operands Call.operands
theorem app_some {ks:List Nd} {n:Nd} {ks':List Nd} (h:app ks n=some ks'):ks'=ks ++ [n]∧((encNs ks).length + 1)* 40≤140737488355328∧(encNs ks).length≤9223372036854775806:=by
 unfold app at h;split at h
 ·rename_i hl;injection h with h;exact⟨h.symm,by rw[encNs_length];omega,by rw[encNs_length];omega⟩
 ·cases h
def funcL (l:List Tok):Nat→List Nd→PS→Option (List Nd×PS)
 | 0,_,_=>none
 | n + 1,ks,ps=>if decide (ps.fault < 0)then(isW l ps ⟨#[41]⟩).bind fun b=>if b then some (ks,ps)else(kindP l ps 1).bind fun p1=>(typ l p1).bind fun r=>
   (app ks (.mk 9 (tk p1) [r.1])).bind fun ks'=>(isW l r.2 ⟨#[41]⟩).bind fun c=>if c then funcL l n ks' r.2 else(want l r.2 ⟨#[44]⟩).bind fun p3=>(isW l p3 ⟨#[41]⟩).bind fun d=>funcL l n ks' (if d then bad p3 else p3)
  else some (ks,ps)
def functionB (l:List Tok) (B:PS→Option (Nd×PS)) (n:Nat) (ps:PS):Option (Nd×PS):=
 (kindP l (skip ps) 1).bind fun p1=>(want l p1 ⟨#[40]⟩).bind fun p2=>(funcL l n [] p2).bind fun r=>(want l r.2 ⟨#[41]⟩).bind fun p3=>(peek l p3 0).bind fun t=>
  if t.kind==1 then(typ l p3).bind fun r4=>(app r.1 r4.1).bind fun ks=>(B r4.2).bind fun r5=>(app ks r5.1).bind fun ks2=>some (.mk 8 (tk p1) ks2,r5.2)
  else(B p3).bind fun r5=>(app r.1 r5.1).bind fun ks2=>some (.mk 8 (tk p1) ks2,r5.2)
theorem function_ok {W0 nb l B n} (hB:HN ⟨Tryz.prog,W0,nb⟩ l 219 B):HN ⟨Tryz.prog,W0,nb⟩ l 201 (functionB l B n):=by
 intro ps ⟨k0,t0,ks0⟩ ps' h;unfold functionB at h;obtain⟨p1,h1,h⟩:=Option.bind_eq_some_iff.1 h
 try dsimp only at h1 h
 obtain⟨p2,h2,h⟩:=Option.bind_eq_some_iff.1 h
 try dsimp only at h2 h
 obtain⟨⟨rs,rp⟩,h3,h⟩:=Option.bind_eq_some_iff.1 h
 try dsimp only at h3 h
 obtain⟨p3,h4,h⟩:=Option.bind_eq_some_iff.1 h
 try dsimp only at h4 h
 obtain⟨t,h5,h⟩:=Option.bind_eq_some_iff.1 h
 try dsimp only at h5 h
 refine dcalls_end Tryz.func201 rfl (by kernel_rfl) 68 Tryz.ntmps201 #[.cell 2 26] rfl (Nat.le_of_ble_eq_true rfl) ?_;simp;refine CallGoal.same (skip_ok) ?_
 try simp
 refine CallGoal.same (kindP_ok h1) ?_
 try simp
 refine CallGoal.same (node_nil) ?_
 try simp
 refine CallGoal.same (want_ok h2) ?_
 try simp
 refine LoopGoal.cut (fun s=>s.hp= [pbox l rp,[i64 0,i64 0,.own 26 3 []],[i64 8,i64 (tk p1),.own 26 3 (encNs rs)]]∧s.tm 0= .ref 0 0∧s.tm 2= .ref 1 0∧s.tm 3= .ref 2 0) ?_ ?_
 ·refine⟨fun m s=>∃ks1 ps1,funcL l m ks1 ps1=some (rs,rp)∧s.hp= [pbox l ps1,[i64 0,i64 0,.own 26 3 []],[i64 8,i64 (tk p1),.own 26 3 (encNs ks1)]]∧s.tm 0= .ref 0 0∧s.tm 2= .ref 1 0∧s.tm 3= .ref 2 0,n,.here ⟨_,_,h3,?_⟩,?_⟩
  ·simp
  rintro m ⟨tm,hp⟩ ⟨ks1,ps1,g,e1,e3,e4,e5⟩;simp only at e1 e3 e4 e5;subst e1;cases m with
  | zero=>cases g
  | succ m=>
   simp only[funcL]at g;simp[e3,e5];cases g1:decide (ps1.fault < 0)with
   | false=>
    simp only[g1,Bool.false_eq_true,if_false,Option.some.injEq,Prod.mk.injEq]at g;obtain⟨rfl,rfl⟩:=g;simp[e3,e4,e5]
   | true=>
    simp only[g1,if_true]at g;obtain⟨b,g2,g⟩:=Option.bind_eq_some_iff.1 g;simp[e3];refine CallGoal.same (isW_ok g2) ?_
    try simp[e3,e5]
    cases b with
    | true=>
     simp only[if_true,Option.some.injEq,Prod.mk.injEq]at g;obtain⟨rfl,rfl⟩:=g;simp[e3,e4,e5]
    | false=>
     simp only[Bool.false_eq_true,if_false]at g;obtain⟨q1,g3,g⟩:=Option.bind_eq_some_iff.1 g;obtain⟨⟨⟨k2,t2,ks2⟩,q2⟩,g4,g⟩:=Option.bind_eq_some_iff.1 g;obtain⟨ks',g5,g⟩:=Option.bind_eq_some_iff.1 g;obtain⟨c,g6,g⟩:=Option.bind_eq_some_iff.1 g;dsimp only at g4 g5 g6 g;obtain⟨rfl,g7,g8⟩:=app_some g5;simp[e3];refine CallGoal.same (kindP_ok g3) ?_
     try simp[e3,e5]
     refine CallGoal.same (node_nil) ?_
     try simp[e3,e5]
     refine drawWp.intro [(1,3)] [3] mixed (by kernel_rfl) (by kernel_rfl) (by kernel_rfl) ?_
     try simp
     try simp[e3,e5]
     refine CallGoal.same (typ_ok g4) ?_
     try simp[e3,e5]
     refine⟨by simp[e3,e5],by simp[e3,e5],?_⟩
     try simp
     simp[e3,e5,g7,g8];refine CallGoal.same (isW_ok g6) ?_
     try simp[e3,e5]
     cases c with
     | true=>
      simp only[if_true]at g
      try simp
      refine .drop m (by omega) 3 (by simp) (by simp) (by simp) ⟨_,_,g,?_⟩;simp[dropSt,dropD,e3,e4,e5,encNs_append]
     | false=>
      simp only[Bool.false_eq_true,if_false]at g;obtain⟨q3,g9,g⟩:=Option.bind_eq_some_iff.1 g;obtain⟨d,g10,g⟩:=Option.bind_eq_some_iff.1 g;simp[e3];refine CallGoal.same (want_ok g9) ?_
      try simp[e3,e5]
      refine CallGoal.same (isW_ok g10) ?_
      try simp[e3,e5]
      cases d with
      | true=>
       simp only[if_true]at g;simp[e3];refine CallGoal.same (bad_ok) ?_
       try simp[e3,e5]
       refine .drop m (by omega) 3 (by simp) (by simp) (by simp) ⟨_,_,g,?_⟩;simp[dropSt,dropD,e3,e4,e5,encNs_append]
      | false=>
       simp only[Bool.false_eq_true,if_false]at g;simp;refine .drop m (by omega) 3 (by simp) (by simp) (by simp) ⟨_,_,g,?_⟩;simp[dropSt,dropD,e3,e4,e5,encNs_append]
 rintro⟨tm,hp⟩ ⟨e1,e3,e4,e5⟩;simp only at e1 e3 e4 e5;subst e1;simp[e3];refine CallGoal.same (want_ok h4) ?_
 try simp[e3,e5]
 refine CallGoal.same (peek_ok h5) ?_
 try simp[e3,e5]
 cases h6:t.kind==1 with
 | true=>
  simp only[h6,if_true]at h;obtain⟨⟨⟨k2,t2,ks2⟩,q2⟩,h7,h⟩:=Option.bind_eq_some_iff.1 h
  try dsimp only at h7 h
  obtain⟨kk,h8,h⟩:=Option.bind_eq_some_iff.1 h
  try dsimp only at h8 h
  obtain⟨⟨⟨k3,t3,ks3⟩,q3⟩,h9,h⟩:=Option.bind_eq_some_iff.1 h
  try dsimp only at h9 h
  obtain⟨kl,h10,h⟩:=Option.bind_eq_some_iff.1 h
  try dsimp only at h10 h
  obtain⟨rfl,g7,g8⟩:=app_some h8;obtain⟨rfl,g9,g10⟩:=app_some h10;simp only[encNs_append,List.length_append,encNs,List.length_cons,List.length_nil,Nat.zero_add]at g9 g10;have g11:(encNs rs).length≤9223372036854775805:=by omega
  simp only[Option.some.injEq,Prod.mk.injEq,Nd.mk.injEq]at h;obtain⟨⟨rfl,rfl,rfl⟩,rfl⟩:=h;simp[e3,e5];refine drawWp.intro [(1,3)] [3] mixed (by kernel_rfl) (by kernel_rfl) (by kernel_rfl) ?_
  try simp
  try simp[e3,e5]
  refine CallGoal.same (typ_ok h7) ?_
  try simp[e3,e5,g7,g8]
  refine⟨by simp[e3,e5],by simp[e3,e5],?_⟩
  try simp
  try simp[e3,e5]
  refine drawWp.intro [(1,3)] [3] mixed (by kernel_rfl) (by kernel_rfl) (by kernel_rfl) ?_
  try simp
  try simp[e3,e5]
  refine CallGoal.same (hB h9) ?_
  try simp[e3,e5,g9,g10,g11]
  refine⟨by simp[e3,e5],by simp[e3,e5],?_⟩
  try simp
  simp[e4,e5];exact Pp.endE (by simp[e4,encNs_append]) (by simp) (by simp[e4,encNs_append]) (by simp[e4,encNs_append])
 | false=>
  simp only[h6,Bool.false_eq_true,if_false]at h;obtain⟨⟨⟨k3,t3,ks3⟩,q3⟩,h9,h⟩:=Option.bind_eq_some_iff.1 h
  try dsimp only at h9 h
  obtain⟨kl,h10,h⟩:=Option.bind_eq_some_iff.1 h
  try dsimp only at h10 h
  obtain⟨rfl,g9,g10⟩:=app_some h10;simp only[Option.some.injEq,Prod.mk.injEq,Nd.mk.injEq]at h;obtain⟨⟨rfl,rfl,rfl⟩,rfl⟩:=h;simp[e3,e5];refine drawWp.intro [(1,3)] [3] mixed (by kernel_rfl) (by kernel_rfl) (by kernel_rfl) ?_
  try simp
  try simp[e3,e5]
  refine CallGoal.same (hB h9) ?_
  try simp[e3,e5,g9,g10]
  refine⟨by simp[e3,e5],by simp[e3,e5],?_⟩
  try simp
  simp[e4,e5];exact Pp.endE (by simp[e4,encNs_append]) (by simp) (by simp[e4,encNs_append]) (by simp[e4,encNs_append])
end Pp
end Go.Proofs.Dm
set_option maxHeartbeats 4000000
namespace Go.Proofs.Dm
open Go Go.Proofs Go.Proofs.Tryz Go.Proofs.Dm.Sc
namespace Pp
attribute [local simp] pbox encT encN encNs takes handsOn isTmp Op.operands Call.operands
def fileI (l:List Tok) (N:Nat):Nat→List Nd→PS→Option (List Nd×PS)
 | 0,_,_=>none
 | n + 1,ks,ps=>(isW l ps ⟨#[105,109,112,111,114,116]⟩).bind fun b=>if b then(kindP l (skip ps) 1).bind fun p1=>(app ks (.mk 3 (tk p1) [])).bind fun ks'=>
   (kindP l p1 6).bind fun p2=>(semis l N p2).bind fun p3=>fileI l N n ks' p3
  else some (ks,ps)
def fileD (l:List Tok) (D:PS→Option (Nd×PS)) (N:Nat):Nat→List Nd→PS→Option (List Nd×PS)
 | 0,_,_=>none
 | n + 1,ks,ps=>if decide (ps.fault < 0)then(peek l ps 0).bind fun t=>if t.kind !=7 then(D ps).bind fun r=>(app ks r.1).bind fun ks'=>
   (kindP l r.2 6).bind fun p2=>(semis l N p2).bind fun p3=>fileD l D N n ks' p3
  else some (ks,ps)else some (ks,ps)
def fileB (l:List Tok) (D:PS→Option (Nd×PS)) (N:Nat) (ps:PS):Option (Nd×PS):=
 (want l ps ⟨#[112,97,99,107,97,103,101]⟩).bind fun p1=>(kindP l p1 1).bind fun p2=>(kindP l p2 6).bind fun p3=>(semis l N p3).bind fun p4=>
  (fileI l N N [.mk 2 (tk p2) []] p4).bind fun r1=>(fileD l D N N r1.1 r1.2).bind fun r2=>(kindP l r2.2 7).bind fun p5=>some (.mk 1 0 r2.1,p5)
theorem file_ok {W0 nb l D N} (hD:HN ⟨Tryz.prog,W0,nb⟩ l 176 D):HN ⟨Tryz.prog,W0,nb⟩ l 136 (fileB l D N):=by
 intro ps ⟨k0,t0,ks0⟩ ps' h;unfold fileB at h;obtain⟨p1,h1,h⟩:=Option.bind_eq_some_iff.1 h
 try dsimp only at h1 h
 obtain⟨p2,h2,h⟩:=Option.bind_eq_some_iff.1 h
 try dsimp only at h2 h
 obtain⟨p3,h3,h⟩:=Option.bind_eq_some_iff.1 h
 try dsimp only at h3 h
 obtain⟨p4,h4,h⟩:=Option.bind_eq_some_iff.1 h
 try dsimp only at h4 h
 obtain⟨⟨r1,q1⟩,h5,h⟩:=Option.bind_eq_some_iff.1 h
 try dsimp only at h5 h
 obtain⟨⟨r2,q2⟩,h6,h⟩:=Option.bind_eq_some_iff.1 h
 try dsimp only at h6 h
 obtain⟨p5,h7,h⟩:=Option.bind_eq_some_iff.1 h
 try dsimp only at h7 h
 simp only[Option.some.injEq,Prod.mk.injEq,Nd.mk.injEq]at h;obtain⟨⟨rfl,rfl,rfl⟩,rfl⟩:=h;refine dcalls_end Tryz.func136 rfl (by kernel_rfl) 60 Tryz.ntmps136 #[.cell 2 26] rfl (Nat.le_of_ble_eq_true rfl) ?_;simp;refine CallGoal.same (node_nil) ?_
 try simp
 refine CallGoal.same (want_ok h1) ?_
 try simp
 refine drawWp.intro [(1,3),(1,4)] [3,4] mixed (by kernel_rfl) (by kernel_rfl) (by kernel_rfl) ?_
 try simp
 refine CallGoal.same (kindP_ok h2) ?_
 try simp
 refine CallGoal.same (node_nil) ?_
 try simp
 refine⟨by simp,by simp,?_⟩
 try simp
 refine CallGoal.same (kindP_ok h3) ?_
 try simp
 refine CallGoal.same (semis_ok h4) ?_
 try simp
 refine LoopGoal.cut (fun s=>s.hp= [pbox l q1,[i64 0,i64 0,.own 26 3 []],[i64 1,i64 0,.own 26 3 (encNs r1)]]∧s.tm 0= .ref 0 0∧s.tm 2= .ref 1 0∧s.tm 3= .ref 2 0) ?_ ?_
 ·refine⟨fun m s=>∃ks1 ps1,fileI l N m ks1 ps1=some (r1,q1)∧s.hp= [pbox l ps1,[i64 0,i64 0,.own 26 3 []],[i64 1,i64 0,.own 26 3 (encNs ks1)]]∧s.tm 0= .ref 0 0∧s.tm 2= .ref 1 0∧s.tm 3= .ref 2 0,N,.here ⟨_,_,h5,?_⟩,?_⟩
  ·simp
  rintro m ⟨tm,hp⟩ ⟨ks1,ps1,g,e1,e3,e4,e5⟩;simp only at e1 e3 e4 e5;subst e1;cases m with
  | zero=>cases g
  | succ m=>
   simp only[fileI]at g;obtain⟨b,g2,g⟩:=Option.bind_eq_some_iff.1 g;simp[e3,e5];refine CallGoal.same (isW_ok g2) ?_
   try simp[e3,e5]
   cases b with
   | false=>
    simp only[Bool.false_eq_true,if_false,Option.some.injEq,Prod.mk.injEq]at g;obtain⟨rfl,rfl⟩:=g;simp[e3,e4,e5]
   | true=>
    simp only[if_true]at g;obtain⟨u1,g3,g⟩:=Option.bind_eq_some_iff.1 g;obtain⟨ks',g5,g⟩:=Option.bind_eq_some_iff.1 g;obtain⟨u2,g6,g⟩:=Option.bind_eq_some_iff.1 g;obtain⟨u3,g9,g⟩:=Option.bind_eq_some_iff.1 g;obtain⟨rfl,g7,g8⟩:=app_some g5;simp[e3];refine CallGoal.same (skip_ok) ?_
    try simp[e3,e5]
    refine drawWp.intro [(1,3),(1,4)] [3,4] mixed (by kernel_rfl) (by kernel_rfl) (by kernel_rfl) ?_
    try simp
    try simp[e3,e5]
    refine CallGoal.same (kindP_ok g3) ?_
    try simp[e3,e5]
    refine CallGoal.same (node_nil) ?_
    try simp[e3,e5,g7,g8]
    refine⟨by simp[e3,e5],by simp[e3,e5],?_⟩
    try simp
    try simp[e3,e5]
    refine CallGoal.same (kindP_ok g6) ?_
    try simp[e3,e5]
    refine CallGoal.same (semis_ok g9) ?_
    try simp[e3,e5]
    refine .same m (by omega) ⟨_,_,g,?_⟩;simp[e3,e4,e5,encNs_append]
 rintro⟨tm,hp⟩ ⟨e1,e3,e4,e5⟩;simp only at e1 e3 e4 e5;subst e1;simp[e3];refine LoopGoal.cut (fun s=>s.hp= [pbox l q2,[i64 0,i64 0,.own 26 3 []],[i64 1,i64 0,.own 26 3 (encNs r2)]]∧s.tm 0= .ref 0 0∧s.tm 2= .ref 1 0∧s.tm 3= .ref 2 0) ?_ ?_
 ·refine⟨fun m s=>∃ks1 ps1,fileD l D N m ks1 ps1=some (r2,q2)∧s.hp= [pbox l ps1,[i64 0,i64 0,.own 26 3 []],[i64 1,i64 0,.own 26 3 (encNs ks1)]]∧s.tm 0= .ref 0 0∧s.tm 2= .ref 1 0∧s.tm 3= .ref 2 0,N,.here ⟨_,_,h6,?_⟩,?_⟩
  ·simp[e3,e4,e5]
  rintro m ⟨tm,hp⟩ ⟨ks1,ps1,g,e1,e3,e4,e5⟩;simp only at e1 e3 e4 e5;subst e1;cases m with
  | zero=>cases g
  | succ m=>
   simp only[fileD]at g;simp[e3,e5];cases g1:decide (ps1.fault < 0)with
   | false=>
    simp only[g1,Bool.false_eq_true,if_false,Option.some.injEq,Prod.mk.injEq]at g;obtain⟨rfl,rfl⟩:=g;simp[e3,e4,e5]
   | true=>
    simp only[g1,if_true]at g;obtain⟨t,g2,g⟩:=Option.bind_eq_some_iff.1 g;simp[e3];refine CallGoal.same (peek_ok g2) ?_
    try simp[e3,e5]
    cases g10:t.kind !=7 with
    | false=>
     simp only[g10,Bool.false_eq_true,if_false,Option.some.injEq,Prod.mk.injEq]at g;obtain⟨rfl,rfl⟩:=g;simp[e3,e4,e5]
    | true=>
     simp only[g10,if_true]at g;obtain⟨⟨⟨k2,t2,ks2⟩,u1⟩,g3,g⟩:=Option.bind_eq_some_iff.1 g;obtain⟨ks',g5,g⟩:=Option.bind_eq_some_iff.1 g;obtain⟨u2,g6,g⟩:=Option.bind_eq_some_iff.1 g;obtain⟨u3,g9,g⟩:=Option.bind_eq_some_iff.1 g;obtain⟨rfl,g7,g8⟩:=app_some g5;dsimp only at g6;simp[e3];refine drawWp.intro [(1,3)] [3] mixed (by kernel_rfl) (by kernel_rfl) (by kernel_rfl) ?_
     try simp
     try simp[e3,e5]
     refine CallGoal.same (hD g3) ?_
     try simp[e3,e5,g7,g8]
     refine⟨by simp[e3,e5],by simp[e3,e5],?_⟩
     try simp
     try simp[e3,e5]
     refine CallGoal.same (kindP_ok g6) ?_
     try simp[e3,e5]
     refine CallGoal.same (semis_ok g9) ?_
     try simp[e3,e5]
     refine .same m (by omega) ⟨_,_,g,?_⟩;simp[e3,e4,e5,encNs_append]
 rintro⟨tm,hp⟩ ⟨e1,e3,e4,e5⟩;simp only at e1 e3 e4 e5;subst e1;simp[e3];refine CallGoal.same (kindP_ok h7) ?_
 try simp[e3,e4,e5]
 exact Pp.endE (by simp[e4]) (by simp) (by simp[e4]) (by simp[e4])
end Pp
end Go.Proofs.Dm
