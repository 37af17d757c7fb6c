/- Part of the proof: contracts of the functions, walked by the D-machine. No condition. -/
import Derived.Test.YtmlhdhpjcipcdaaGreatDoorPe
set_option linter.unusedSimpArgs false
set_option linter.unusedVariables false
set_option maxHeartbeats 8000000
namespace Go.Proofs.Dm
open Go Go.Proofs Go.Proofs.Tryz Go.Proofs.Dm.Sc
namespace Pp
attribute [local simp] pbox encT encN encNs takes handsOn isTmp Op.operands Call.operands
def blockB (l:List Tok) (S:PS→Option (Nd×PS)) (N:Nat) (ps:PS):Option (Nd×PS):=(curlyB l S N ps).bind fun r=>some (.mk 10 r.1.1 r.1.2,r.2)
theorem block_ok {W0 nb l S N} (hS:HN ⟨Tryz.prog,W0,nb⟩ l 231 S):HN ⟨Tryz.prog,W0,nb⟩ l 219 (blockB l S N):=by
 intro ps ⟨k0,t0,ks0⟩ ps' h;unfold blockB at h;obtain⟨⟨⟨tok,ks⟩,p1⟩,h1,h⟩:=Option.bind_eq_some_iff.1 h
 try dsimp only at h1 h
 simp only[Option.some.injEq,Prod.mk.injEq,Nd.mk.injEq]at h;obtain⟨⟨rfl,rfl,rfl⟩,rfl⟩:=h;have hc:=curlyB_ok (W0:=W0) (nb:=nb) hS (k:=10) (t:=0) h1;refine dcalls_end Tryz.func219 rfl (by kernel_rfl) 10 Tryz.ntmps219 #[.cell 2 26] rfl (Nat.le_of_ble_eq_true rfl) ?_;simp;refine CallGoal.same (node_mt) ?_
 try simp
 rcases ks with _ | ⟨x,xs⟩
 ·simp only[crHB]at hc;simp at hc;refine CallGoal.same (hc) ?_
  try simp
  exact .keep (by simp) (.agg (.cons (.refl _) (.cons (.refl _) (.cons (.mtfr 26 3) .nil)))) (by simp) (by simp) (by simp) (by simp)
 ·obtain⟨ks,hks⟩:∃ks,ks=x::xs:=⟨_,rfl⟩
  have hne:ks≠ []:=by rw[hks];simp
  rw[←hks]at hc⊢;rw[crHB_cons hne]at hc;simp only[crHB]at hc;simp at hc;refine CallGoal.same (hc) ?_
  try simp
  refine EndGoal.by (Gh.freezeCell 2 2 4 3 ks.length _ (encNs ks) (by simp;rfl) (by simp) (by decide) (by simp;rfl) (by decide) (encNs_each ks) (by rw[encNs_length])) ?_
  simp;exact .kk
end Pp
end Go.Proofs.Dm
set_option maxHeartbeats 8000000
namespace Go.Proofs.Dm
open Go Go.Proofs Go.Proofs.Tryz Go.Proofs.Dm.Sc
namespace Pp
attribute [local simp] pbox encT encN encNs takes handsOn isTmp Op.operands Call.operands
def fieldB (l:List Tok) (ps:PS):Option (Nd×PS):=(kindP l ps 1).bind fun p1=>(typ l p1).bind fun r=>some (.mk 7 (tk p1) [r.1],r.2)
theorem mapRefs_app (f:Nat→Nat):∀(a b:List DV),mapRefs f (a ++ b)=mapRefs f a ++ mapRefs f b
 | [],b=>rfl
 | d::a,b=>by simp[mapRefs,mapRefs_app f a b]
theorem Wks.app:∀{a b c d:List DV},Wks a b→Wks c d→Wks (a ++ c) (b ++ d)
 | _,_,_,_,.nil,k=>k
 | _,_,_,_,.cons q qs,k=> .cons q (Wks.app qs k)
theorem struct1_mt {W0 nb l} {k t:Int} {ps nd ps'} (h:fieldB l ps=some (nd,ps')):
  DCalls ⟨Tryz.prog,W0,nb⟩ 218 [.ref 0 0,.ref 1 0] [[.ref 2 0],[i64 k,i64 t,.mt 26 3],pbox l ps] (.tup []) [[.ref 2 0],[i64 k,i64 t,.arr 3 0 3 1],pbox l ps',nbox [nd]]:=by
 unfold fieldB at h;obtain⟨p1,h1,h⟩:=Option.bind_eq_some_iff.1 h
 try dsimp only at h1 h
 obtain⟨⟨⟨k2,t2,ks2⟩,p2⟩,h2,h⟩:=Option.bind_eq_some_iff.1 h
 try dsimp only at h2 h
 simp only[Option.some.injEq,Prod.mk.injEq]at h;obtain⟨rfl,rfl⟩:=h;rw[nbox_one];refine dcalls_end Tryz.func218 rfl (by kernel_rfl) 21 Tryz.ntmps218 #[] rfl (Nat.le_of_ble_eq_true rfl) ?_;simp;refine CallGoal.same (kindP_ok h1) ?_
 try simp
 refine CallGoal.same (node_nil) ?_
 try simp
 refine drawWp.intro [(1,2),(1,3)] [2,3] mixed (by kernel_rfl) (by kernel_rfl) (by kernel_rfl) ?_
 try simp
 refine CallGoal.same (typ_ok h2) ?_
 try simp
 refine⟨by simp,by simp,?_⟩
 try simp
 refine drawWp.intro2 [(1,2),(6,9),(7,9)] [2,9] mixed (by kernel_rfl) (by kernel_rfl) (by kernel_rfl) ?_
 try simp
 refine⟨by simp,by simp,by simp,?_⟩
 try simp
 refine EndGoal.by (Gh.weakBox 4 _ [i64 7,i64 (tk p1),.p (.sl 3 [[.int .i64 k2,.int .i64 t2,.sl 3 (encNs ks2)]])] (by simp) (.cons (.refl _) (.cons (.refl _) (.cons (.fr 26 3 _) .nil)))) ?_
 simp;refine EndGoal.by (Gh.ren [0,1,2,4] _ (by simp;rfl) (by decide) (by rfl) (by simp)) ?_
 simp[renSt,idxIn];have e1:List.idxOf 4 [0,1,2,4]=3:=by decide
 have e2:List.idxOf 2 [0,1,2,4]=2:=by decide
 exact .all (by simp) (.refl _) (by simp) (by simp[e1,e2]) (by simp) (by simp[e1,e2]) (by simp[e1,e2])
theorem struct1_arr {W0 nb l} {k t:Int} {ps nd ps'} (h:fieldB l ps=some (nd,ps')) {ks ks'} (hk:ks≠ []) (ha:app ks nd=some ks'):
  DCalls ⟨Tryz.prog,W0,nb⟩ 218 [.ref 0 0,.ref 1 0] [[.ref 2 0],[i64 k,i64 t,.arr 3 0 3 ks.length],pbox l ps,nbox ks] (.tup []) [[.ref 2 0],[i64 k,i64 t,.arr 4 0 3 (ks.length + 1)],pbox l ps',[],nbox ks']:=by
 obtain⟨rfl,a1,a2⟩:=app_some ha;rw[encNs_length]at a1 a2;have a0:0 < ks.length:=List.length_pos_iff.2 hk;unfold fieldB at h;obtain⟨p1,h1,h⟩:=Option.bind_eq_some_iff.1 h
 try dsimp only at h1 h
 obtain⟨⟨⟨k2,t2,ks2⟩,p2⟩,h2,h⟩:=Option.bind_eq_some_iff.1 h
 try dsimp only at h2 h
 simp only[Option.some.injEq,Prod.mk.injEq]at h;obtain⟨rfl,rfl⟩:=h;rw[nbox_app,nbox_one];refine dcalls_end Tryz.func218 rfl (by kernel_rfl) 21 Tryz.ntmps218 #[] rfl (Nat.le_of_ble_eq_true rfl) ?_;simp;refine CallGoal.same (kindP_ok h1) ?_
 try simp
 refine CallGoal.same (node_nil) ?_
 try simp
 refine drawWp.intro [(1,2),(1,3)] [2,3] mixed (by kernel_rfl) (by kernel_rfl) (by kernel_rfl) ?_
 try simp
 refine CallGoal.same (typ_ok h2) ?_
 try simp
 refine⟨by simp,by simp,?_⟩
 try simp
 refine drawWp.intro2 [(1,2),(6,9),(7,9)] [2,9] mixed (by kernel_rfl) (by kernel_rfl) (by kernel_rfl) ?_
 try simp
 try simp[a0,a1,a2,hk]
 refine⟨by simp[a0,a1,a2,hk],by simp[a0,a1,a2,hk],by simp[a0,a1,a2,hk],?_⟩
 try simp
 refine EndGoal.by (Gh.weakBox 5 _ (nbox ks ++ [i64 7,i64 (tk p1),.p (.sl 3 [[.int .i64 k2,.int .i64 t2,.sl 3 (encNs ks2)]])]) (by simp) (Wks.app (Wks.same _) (.cons (.refl _) (.cons (.refl _) (.cons (.fr 26 3 _) .nil))))) ?_
 simp;refine EndGoal.by (Gh.ren [0,1,2,3,5] _ (by simp;rfl) (by decide) (by rfl) (by simp[refsDs_append])) ?_
 simp[renSt,idxIn];have e1:List.idxOf 5 [0,1,2,3,5]=4:=by decide
 have e2:List.idxOf 2 [0,1,2,3,5]=2:=by decide
 exact .all (by simp) (.refl _) (by simp) (by simp[e1,e2,mapRefs_app]) (by simp) (by simp[e1,e2,refsDs_append]) (by simp[e1,e2,refsDs_append])
def crHS (l:List Tok) (k t:Int):List Nd→PS→List (List DV)
 | [],ps=> [pbox l ps,[.ref 0 0],[i64 k,i64 t,.mt 26 3]]
 | x::xs,ps=> [pbox l ps,[.ref 0 0],[i64 k,i64 t,.arr 3 0 3 (xs.length + 1)],nbox (x::xs)]
theorem crHS_cons {l k t} {ks:List Nd} (h:ks≠ []) (ps:PS):crHS l k t ks ps= [pbox l ps,[.ref 0 0],[i64 k,i64 t,.arr 3 0 3 ks.length],nbox ks]:=by
 cases ks with
 | nil=>exact absurd rfl h
 | cons x xs=>rfl
def crIS (l:List Tok) (S:PS→Option (Nd×PS)) (N:Nat) (k t tok:Int) (rs:List Nd) (rp:PS) (m:Nat) (st:St):Prop:=∃ks ps,curlyL l S N m ks ps=some (rs,rp)∧st.hp=crHS l k t ks ps∧st.tm 0= .ref 0 0∧st.tm 1= .fn 218 [.ref 1 0,.ref 2 0]∧st.tm 5=i64 tok
def crJS (l:List Tok) (k t tok:Int) (rs:List Nd) (rp:PS) (st:St):Prop:=st.hp=crHS l k t rs rp∧st.tm 0= .ref 0 0∧st.tm 5=i64 tok
theorem curlyS_ok {W0 nb l S N} (hS:S=fieldB l) {k t:Int} {ps:PS} {tok:Int} {rs:List Nd} {ps':PS} (h:curlyB l S N ps=some ((tok,rs),ps')):
  DCalls ⟨Tryz.prog,W0,nb⟩ 217 [.ref 0 0,.fn 218 [.ref 1 0,.ref 2 0]] (crHS l k t [] ps) (i64 tok) (crHS l k t rs ps'):=by
 unfold curlyB at h;obtain⟨b,h1,h⟩:=Option.bind_eq_some_iff.1 h
 try dsimp only at h1 h
 obtain⟨p2,h2,h⟩:=Option.bind_eq_some_iff.1 h
 try dsimp only at h2 h
 obtain⟨⟨r3,rp⟩,h3,h⟩:=Option.bind_eq_some_iff.1 h
 try dsimp only at h3 h
 obtain⟨p4,h4,h⟩:=Option.bind_eq_some_iff.1 h
 try dsimp only at h4 h
 simp only[Option.some.injEq,Prod.mk.injEq]at h;obtain⟨⟨rfl,rfl⟩,rfl⟩:=h;simp only[curlyO]at h2 h3⊢;obtain⟨p0,hp0⟩:∃p0,p0=(if b then ps else bad ps):=⟨_,rfl⟩
 rw[←hp0]at h2⊢;show DCalls _ _ _ [pbox l ps,[.ref 0 0],[i64 k,i64 t,.mt 26 3]] _ _;refine dcalls_end Tryz.func217 rfl (by kernel_rfl) 41 Tryz.ntmps217 #[.tmp 4] rfl (Nat.le_of_ble_eq_true rfl) ?_;refine cwp_cut (fun s=>s.hp= [pbox l ps,[.ref 0 0],[i64 k,i64 t,.mt 26 3]]∧s.tm 0= .ref 0 0∧s.tm 1= .fn 218 [.ref 1 0,.ref 2 0]) ?_ ?_
 ·simp
 rintro⟨tm,hp⟩ ⟨e1,e3,e4⟩;simp only at e1 e3 e4;subst e1;refine cwp_cut (fun s=>s.hp= [pbox l p0,[.ref 0 0],[i64 k,i64 t,.mt 26 3]]∧s.tm 0= .ref 0 0∧s.tm 1= .fn 218 [.ref 1 0,.ref 2 0]) ?_ ?_
 ·simp[e3];refine CallGoal.same (isW_ok h1) ?_
  try simp[e3]
  cases b with
  | true=>
   simp only[if_true]at hp0;subst hp0;simp[e3,e4]
  | false=>
   simp only[Bool.false_eq_true,if_false]at hp0;subst hp0;simp[e3];refine CallGoal.same (bad_ok) ?_
   try simp[e3,e4]
 rintro⟨tm,hp⟩ ⟨e1,e3,e4⟩;simp only at e1 e3 e4;subst e1;simp[e3];refine CallGoal.same (openP_ok) ?_
 try simp[e3]
 refine CallGoal.same (skip_ok) ?_
 try simp[e3]
 refine CallGoal.same (semis_ok h2) ?_
 try simp[e3]
 refine LoopGoal.cut (crJS l k t (tk (skip (openP p0))) r3 rp) ?_ ?_
 ·refine⟨crIS l S N k t (tk (skip (openP p0))) r3 rp,N,.here ⟨[],p2,h3,by simp[crHS],by simp[e3],by simp[e4],by simp⟩,?_⟩;rintro m ⟨tm,hp⟩ ⟨ks,ps,g,e1,e3,e4,e5⟩;simp only at e1 e3 e4 e5;subst e1;cases m with
  | zero=>cases g
  | succ m=>
   simp only[curlyL]at g;rcases ks with _ | ⟨x,xs⟩
   ·simp only[crHS];simp[e3];cases g1:decide (ps.fault < 0)with
    | false=>
     simp only[g1,Bool.false_eq_true,if_false,Option.some.injEq,Prod.mk.injEq]at g;obtain⟨rfl,rfl⟩:=g;simp[e3,e4,e5];exact⟨by simp[crHS],by simp[e3],by simp[e5]⟩
    | true=>
     simp only[g1,if_true]at g;obtain⟨b1,g2,g⟩:=Option.bind_eq_some_iff.1 g;simp[e3];refine CallGoal.same (isW_ok g2) ?_
     try simp[e3,e4]
     cases b1 with
     | true=>
      simp only[if_true,Option.some.injEq,Prod.mk.injEq]at g;obtain⟨rfl,rfl⟩:=g;simp[e3,e4,e5];exact⟨by simp[crHS],by simp[e3],by simp[e5]⟩
     | false=>
      simp only[Bool.false_eq_true,if_false]at g;obtain⟨⟨nd,q2⟩,g3,g⟩:=Option.bind_eq_some_iff.1 g;obtain⟨ks',g4,g⟩:=Option.bind_eq_some_iff.1 g;obtain⟨c,g5,g⟩:=Option.bind_eq_some_iff.1 g;obtain⟨rfl,g7,g8⟩:=app_some g4;dsimp only at g g5;simp only[List.nil_append]at g;simp[e4];refine CallGoal.same (struct1_mt (by rw[←hS];exact g3)) ?_
      try simp[e3,e4]
      refine CallGoal.same (isW_ok g5) ?_
      try simp[e3,e4]
      cases c with
      | true=>
       simp only[if_true]at g
       try simp
       exact .same m (by omega) ⟨[nd],_,g,by simp[crHS],by simp[e3],by simp[e4],by simp[e5]⟩
      | false=>
       simp only[Bool.false_eq_true,if_false]at g;obtain⟨q3,g9,g⟩:=Option.bind_eq_some_iff.1 g;obtain⟨q4,g10,g⟩:=Option.bind_eq_some_iff.1 g;simp[e3];refine CallGoal.same (kindP_ok g9) ?_
       try simp[e3]
       refine CallGoal.same (semis_ok g10) ?_
       try simp[e3]
       exact .same m (by omega) ⟨[nd],_,g,by simp[crHS],by simp[e3],by simp[e4],by simp[e5]⟩
   ·obtain⟨ks,hks⟩:∃ks,ks=x::xs:=⟨_,rfl⟩
    have hne:ks≠ []:=by rw[hks];simp
    rw[←hks]at g⊢;rw[crHS_cons hne];simp[e3];cases g1:decide (ps.fault < 0)with
    | false=>
     simp only[g1,Bool.false_eq_true,if_false,Option.some.injEq,Prod.mk.injEq]at g;obtain⟨rfl,rfl⟩:=g;simp[e3,e4,e5];exact⟨by rw[crHS_cons hne];simp,by simp[e3],by simp[e5]⟩
    | true=>
     simp only[g1,if_true]at g;obtain⟨b1,g2,g⟩:=Option.bind_eq_some_iff.1 g;simp[e3];refine CallGoal.same (isW_ok g2) ?_
     try simp[e3,e4]
     cases b1 with
     | true=>
      simp only[if_true,Option.some.injEq,Prod.mk.injEq]at g;obtain⟨rfl,rfl⟩:=g;simp[e3,e4,e5];exact⟨by rw[crHS_cons hne];simp,by simp[e3],by simp[e5]⟩
     | false=>
      simp only[Bool.false_eq_true,if_false]at g;obtain⟨⟨nd,q2⟩,g3,g⟩:=Option.bind_eq_some_iff.1 g;obtain⟨ks',g4,g⟩:=Option.bind_eq_some_iff.1 g;obtain⟨c,g5,g⟩:=Option.bind_eq_some_iff.1 g;have hks':ks'=ks ++ [nd]:=(app_some g4).1;have hne':ks'≠ []:=by rw[hks'];simp
      have hlen':ks'.length=ks.length + 1:=by rw[hks'];simp
      dsimp only at g g5;simp[e4];refine CallGoal.same (struct1_arr (by rw[←hS];exact g3) hne g4) ?_
      try simp[e3,e4]
      refine CallGoal.same (isW_ok g5) ?_
      try simp[e3,e4]
      cases c with
      | true=>
       simp only[if_true]at g
       try simp
       refine .by m (by omega) (Gh.ren [0,1,2,4] _ (by simp;rfl) (by decide) (by rfl) (by simp)) ⟨ks',_,g,?_,?_,?_,?_⟩
       ·rw[crHS_cons hne'];simp[renSt,idxIn,hlen'] <;> decide
       ·simp[renSt,renD,idxIn,e3]
       ·simp[renSt,renD,idxIn,e4] <;> decide
       ·simp[renSt,renD,idxIn,e5]
      | false=>
       simp only[Bool.false_eq_true,if_false]at g;obtain⟨q3,g9,g⟩:=Option.bind_eq_some_iff.1 g;obtain⟨q4,g10,g⟩:=Option.bind_eq_some_iff.1 g;simp[e3];refine CallGoal.same (kindP_ok g9) ?_
       try simp[e3]
       refine CallGoal.same (semis_ok g10) ?_
       try simp[e3]
       refine .by m (by omega) (Gh.ren [0,1,2,4] _ (by simp;rfl) (by decide) (by rfl) (by simp)) ⟨ks',_,g,?_,?_,?_,?_⟩
       ·rw[crHS_cons hne'];simp[renSt,idxIn,hlen'] <;> decide
       ·simp[renSt,renD,idxIn,e3]
       ·simp[renSt,renD,idxIn,e4] <;> decide
       ·simp[renSt,renD,idxIn,e5]
 rintro⟨tm,hp⟩ ⟨e1,e3,e5⟩;simp only at e1 e3 e5;subst e1;rcases r3 with _ | ⟨x,xs⟩
 ·simp only[crHS];simp[e3];refine CallGoal.same (want_ok h4) ?_
  try simp[e3]
  refine CallGoal.same (closeP_ok) ?_
  try simp[e3,e5]
  exact .all (by simp) (.refl _) (by simp) (by simp) (by simp) (by simp) (by simp)
 ·obtain⟨ks,hks⟩:∃ks,ks=x::xs:=⟨_,rfl⟩
  have hne:ks≠ []:=by rw[hks];simp
  rw[←hks];rw[crHS_cons hne,crHS_cons hne];simp[e3];refine CallGoal.same (want_ok h4) ?_
  try simp[e3]
  refine CallGoal.same (closeP_ok) ?_
  try simp[e3,e5]
  exact .all (by simp) (.refl _) (by simp) (by simp) (by simp) (by simp) (by simp)
def structureB (l:List Tok) (N:Nat) (ps:PS):Option (Nd×PS):=
 (kindP l (skip ps) 1).bind fun p1=>(want l p1 ⟨#[115,116,114,117,99,116]⟩).bind fun p2=>(curlyB l (fieldB l) N p2).bind fun r=>some (.mk 6 (tk p1) r.1.2,r.2)
theorem structure_ok {W0 nb l N}:HN ⟨Tryz.prog,W0,nb⟩ l 200 (structureB l N):=by
 intro ps ⟨k0,t0,ks0⟩ ps' h;unfold structureB at h;obtain⟨p1,h1,h⟩:=Option.bind_eq_some_iff.1 h
 try dsimp only at h1 h
 obtain⟨p2,h2,h⟩:=Option.bind_eq_some_iff.1 h
 try dsimp only at h2 h
 obtain⟨⟨⟨tok,ks⟩,p3⟩,h3,h⟩:=Option.bind_eq_some_iff.1 h
 try dsimp only at h3 h
 simp only[Option.some.injEq,Prod.mk.injEq,Nd.mk.injEq]at h;obtain⟨⟨rfl,rfl,rfl⟩,rfl⟩:=h;have hc:=curlyS_ok (W0:=W0) (nb:=nb) rfl (k:=6) (t:=tk p1) h3;refine dcalls_end Tryz.func200 rfl (by kernel_rfl) 15 Tryz.ntmps200 #[.cell 2 26] rfl (Nat.le_of_ble_eq_true rfl) ?_;simp;refine CallGoal.same (skip_ok) ?_
 try simp
 refine CallGoal.same (kindP_ok h1) ?_
 try simp
 refine CallGoal.same (node_mt) ?_
 try simp
 refine CallGoal.same (want_ok h2) ?_
 try simp
 rcases ks with _ | ⟨x,xs⟩
 ·simp only[crHS]at hc;simp at hc;refine CallGoal.same (hc) ?_
  try simp
  exact .keep (by simp) (.agg (.cons (.refl _) (.cons (.refl _) (.cons (.mtfr 26 3) .nil)))) (by simp) (by simp) (by simp) (by simp)
 ·obtain⟨ks,hks⟩:∃ks,ks=x::xs:=⟨_,rfl⟩
  have hne:ks≠ []:=by rw[hks];simp
  rw[←hks]at hc⊢;rw[crHS_cons hne]at hc;simp only[crHS]at hc;simp at hc;refine CallGoal.same (hc) ?_
  try simp
  refine EndGoal.by (Gh.freezeCell 2 2 4 3 ks.length _ (encNs ks) (by simp;rfl) (by simp) (by decide) (by simp;rfl) (by decide) (encNs_each ks) (by rw[encNs_length])) ?_
  simp;exact .kk
end Pp
end Go.Proofs.Dm
