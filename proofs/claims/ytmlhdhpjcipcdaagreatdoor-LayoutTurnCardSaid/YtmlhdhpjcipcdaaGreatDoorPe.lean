/- Part of the proof: contracts of the functions, walked by the D-machine. No condition. -/
import Derived.Test.YtmlhdhpjcipcdaaGreatDoorPd
import Derived.Test.YtmlhdhpjcipcdaaGreatDoorDn
set_option linter.unusedSimpArgs false
set_option linter.unusedVariables false
set_option maxHeartbeats 4000000
namespace Go.Proofs.Dm
open Go Go.Proofs Go.Proofs.Tryz Go.Proofs.Dm.Sc
def nbox (l:List Nd):List DV:=flatP (encNs l)
theorem nbox_cons (t:Nd) (l:List Nd):nbox (t::l)=(encN t).map .p ++ nbox l:=by simp[nbox,encNs,flatP_cons]
theorem encN_len (t:Nd):(encN t).length=3:=by cases t;simp[encN]
@[simp] theorem nbox_len (l:List Nd):(nbox l).length=l.length * 3:=by
 induction l with
 | nil=>rfl
 | cons t l ih=>rw[nbox_cons,List.length_append,ih];simp[encN_len];omega
theorem nbox_app (a b:List Nd):nbox (a ++ b)=nbox a ++ nbox b:=by
 induction a with
 | nil=>rfl
 | cons t a ih=>rw[List.cons_append,nbox_cons,nbox_cons,ih,List.append_assoc]
@[simp] theorem nbox_refs (l:List Nd):refsDs (nbox l)= []:=by
 induction l with
 | nil=>rfl
 | cons t l ih=>rw[nbox_cons];cases t;simp[encN,ih]
@[simp] theorem nbox_map (f:Nat→Nat) (l:List Nd):mapRefs f (nbox l)=nbox l:=by
 induction l with
 | nil=>rfl
 | cons t l ih=>rw[nbox_cons];cases t;simp[encN,ih]
@[simp] theorem nbox_own (l:List Nd):hasOwns (nbox l)=false:=by
 induction l with
 | nil=>rfl
 | cons t l ih=>rw[nbox_cons];cases t;simp[encN,ih]
@[simp] theorem nbox_solid (l:List Nd):solids (nbox l)=true:=by
 induction l with
 | nil=>rfl
 | cons t l ih=>rw[nbox_cons];cases t;simp[encN,ih]
@[simp] theorem nbox_fz (l:List Nd):fzs (nbox l)=nbox l:=by
 induction l with
 | nil=>rfl
 | cons t l ih=>rw[nbox_cons];cases t;simp[encN,ih]
@[simp] theorem nbox_nil (l:List Nd):(nbox l= [])=(l= []):=by
 cases l with
 | nil=>simp[nbox,flatP,encNs]
 | cons t l=>rw[nbox_cons];cases t;simp[encN]
theorem nbox_one (k t:Int) (ks:List Nd):nbox [.mk k t ks]= [i64 k,i64 t,.p (.sl 3 (encNs ks))]:=by
 rw[nbox_cons];simp[encN,nbox,encNs,flatP]
theorem nbox_at0 (l:List Nd) (z:List DV) (n:Nat) (h:n=l.length):(nbox l ++ z).take (n * 3)=nbox l:=by
 subst h;rw[List.take_append_of_le_length (by simp),List.take_of_length_le (by simp)]
theorem nbox_at20 (l:List Nd) (a b c:DV) (n:Nat) (h:n=l.length):(nbox l ++ [a,b,c]).drop (n * 3 + 3)= []:=by
 subst h;exact List.drop_eq_nil_of_le (by simp)
@[simp] theorem nbox_at (l:List Nd) (z:List DV):(nbox l ++ z).take (l.length * 3)=nbox l:=nbox_at0 l z _ rfl
@[simp] theorem nbox_at2 (l:List Nd) (a b c:DV):(nbox l ++ [a,b,c]).drop (l.length * 3 + 3)= []:=nbox_at20 l a b c _ rfl
@[simp] theorem flatP_zero:flatP [[.int .i64 0,.int .i64 0,.sl 3 []]]= [i64 0,i64 0,.p (.sl 3 [])]:=rfl
theorem encNs_each:∀(l:List Nd),∀x∈encNs l,x.length=3
 | [],x,h=>by simp[encNs]at h
 | t::l,x,h=>by
  simp only[encNs,List.mem_cons]at h;rcases h with rfl | h
  ·exact encN_len t
  ·exact encNs_each l x h
namespace Pp
attribute [local simp] pbox encT encN encNs takes handsOn isTmp Op.operands Call.operands
theorem node_mt {W0 nb k t}:DCalls ⟨Tryz.prog,W0,nb⟩ 169 [i64 k,i64 t,.nil] [] (.agg [i64 k,i64 t,.mt 26 3]) []:=by
 refine dcalls_end Tryz.func169 rfl (by kernel_rfl) 11 Tryz.ntmps169 #[.cell 6 26] rfl (Nat.le_of_ble_eq_true rfl) ?_;simp;exact .keep (by simp) (.agg (.cons (.refl _) (.cons (.refl _) (.cons (.ownmt _ _) .nil)))) (by simp) (by simp) (by simp) (by simp)
def curlyL (l:List Tok) (S:PS→Option (Nd×PS)) (N:Nat):Nat→List Nd→PS→Option (List Nd×PS)
 | 0,_,_=>none
 | n + 1,ks,ps=>if decide (ps.fault < 0)then(isW l ps ⟨#[125]⟩).bind fun b=>if b then some (ks,ps)else(S ps).bind fun r=>(app ks r.1).bind fun ks'=>(isW l r.2 ⟨#[125]⟩).bind fun c=>
   if c then curlyL l S N n ks' r.2 else(kindP l r.2 6).bind fun p2=>(semis l N p2).bind fun p3=>curlyL l S N n ks' p3
  else some (ks,ps)
def curlyO (l:List Tok) (ps:PS) (b:Bool):PS:=skip (openP (if b then ps else bad ps))
def curlyB (l:List Tok) (S:PS→Option (Nd×PS)) (N:Nat) (ps:PS):Option ((Int×List Nd)×PS):=
 (isW l ps ⟨#[123]⟩).bind fun b=>(semis l N (curlyO l ps b)).bind fun p2=>(curlyL l S N N [] p2).bind fun r=>(want l r.2 ⟨#[125]⟩).bind fun p3=>some ((tk (curlyO l ps b),r.1),closeP p3)
theorem block1_mt {W0 nb l S} (hS:HN ⟨Tryz.prog,W0,nb⟩ l 231 S) {k t:Int} {ps nd ps'} (h:S ps=some (nd,ps')):
  DCalls ⟨Tryz.prog,W0,nb⟩ 230 [.ref 0 0,.ref 1 0] [[i64 k,i64 t,.mt 26 3],[.ref 2 0],pbox l ps] (.tup []) [[i64 k,i64 t,.arr 3 0 3 1],[.ref 2 0],pbox l ps',nbox [nd]]:=by
 obtain⟨k2,t2,ks2⟩:=nd;rw[nbox_one];refine dcalls_end Tryz.func230 rfl (by kernel_rfl) 11 Tryz.ntmps230 #[] rfl (Nat.le_of_ble_eq_true rfl) ?_;simp;refine drawWp.intro2 [(1,2),(1,3),(7,10),(8,10)] [2,3,10] mixed (by kernel_rfl) (by kernel_rfl) (by kernel_rfl) ?_
 try simp
 refine CallGoal.same (hS h) ?_
 try simp
 refine⟨by simp,by simp,by simp,?_⟩
 try simp
 exact .all (by simp) (.refl _) (by simp) (by simp) (by simp) (by simp) (by simp)
theorem block1_arr {W0 nb l S} (hS:HN ⟨Tryz.prog,W0,nb⟩ l 231 S) {k t:Int} {ps nd ps'} (h:S ps=some (nd,ps')) {ks ks'} (hk:ks≠ []) (ha:app ks nd=some ks'):
  DCalls ⟨Tryz.prog,W0,nb⟩ 230 [.ref 0 0,.ref 1 0] [[i64 k,i64 t,.arr 2 0 3 ks.length],[.ref 3 0],nbox ks,pbox l ps] (.tup []) [[i64 k,i64 t,.arr 4 0 3 (ks.length + 1)],[.ref 3 0],[],pbox l ps',nbox ks']:=by
 obtain⟨rfl,a1,a2⟩:=app_some ha;rw[encNs_length]at a1 a2;have a0:0 < ks.length:=List.length_pos_iff.2 hk;obtain⟨k2,t2,ks2⟩:=nd;rw[nbox_app,nbox_one];refine dcalls_end Tryz.func230 rfl (by kernel_rfl) 11 Tryz.ntmps230 #[] rfl (Nat.le_of_ble_eq_true rfl) ?_;simp;refine drawWp.intro2 [(1,2),(1,3),(7,10),(8,10)] [2,3,10] mixed (by kernel_rfl) (by kernel_rfl) (by kernel_rfl) ?_
 try simp
 refine CallGoal.same (hS h) ?_
 try simp[a0,a1,a2,hk]
 refine⟨by simp[a0,a1,a2,hk],by simp[a0,a1,a2,hk],by simp[a0,a1,a2,hk],?_⟩
 try simp
 exact .all (by simp) (.refl _) (by simp) (by simp) (by simp) (by simp[refsDs_append]) (by simp[refsDs_append])
end Pp
end Go.Proofs.Dm
set_option maxHeartbeats 8000000
namespace Go.Proofs.Dm
open Go Go.Proofs Go.Proofs.Tryz Go.Proofs.Dm.Sc
namespace Pp
attribute [local simp] pbox encT encN encNs takes handsOn isTmp Op.operands Call.operands
def crHB (l:List Tok) (k t:Int):List Nd→PS→List (List DV)
 | [],ps=> [pbox l ps,[i64 k,i64 t,.mt 26 3],[.ref 0 0]]
 | x::xs,ps=> [pbox l ps,[i64 k,i64 t,.arr 3 0 3 (xs.length + 1)],[.ref 0 0],nbox (x::xs)]
theorem crHB_cons {l k t} {ks:List Nd} (h:ks≠ []) (ps:PS):crHB l k t ks ps= [pbox l ps,[i64 k,i64 t,.arr 3 0 3 ks.length],[.ref 0 0],nbox ks]:=by
 cases ks with
 | nil=>exact absurd rfl h
 | cons x xs=>rfl
def crIB (l:List Tok) (S:PS→Option (Nd×PS)) (N:Nat) (k t tok:Int) (rs:List Nd) (rp:PS) (m:Nat) (st:St):Prop:=∃ks ps,curlyL l S N m ks ps=some (rs,rp)∧st.hp=crHB l k t ks ps∧st.tm 0= .ref 0 0∧st.tm 1= .fn 230 [.ref 1 0,.ref 2 0]∧st.tm 5=i64 tok
def crJB (l:List Tok) (k t tok:Int) (rs:List Nd) (rp:PS) (st:St):Prop:=st.hp=crHB l k t rs rp∧st.tm 0= .ref 0 0∧st.tm 5=i64 tok
theorem curlyB_ok {W0 nb l S N} (hS:HN ⟨Tryz.prog,W0,nb⟩ l 231 S) {k t:Int} {ps:PS} {tok:Int} {rs:List Nd} {ps':PS} (h:curlyB l S N ps=some ((tok,rs),ps')):
  DCalls ⟨Tryz.prog,W0,nb⟩ 217 [.ref 0 0,.fn 230 [.ref 1 0,.ref 2 0]] (crHB l k t [] ps) (i64 tok) (crHB l k t rs ps'):=by
 unfold curlyB at h;obtain⟨b,h1,h⟩:=Option.bind_eq_some_iff.1 h
 try dsimp only at h1 h
 obtain⟨p2,h2,h⟩:=Option.bind_eq_some_iff.1 h
 try dsimp only at h2 h
 obtain⟨⟨r3,rp⟩,h3,h⟩:=Option.bind_eq_some_iff.1 h
 try dsimp only at h3 h
 obtain⟨p4,h4,h⟩:=Option.bind_eq_some_iff.1 h
 try dsimp only at h4 h
 simp only[Option.some.injEq,Prod.mk.injEq]at h;obtain⟨⟨rfl,rfl⟩,rfl⟩:=h;simp only[curlyO]at h2 h3⊢;obtain⟨p0,hp0⟩:∃p0,p0=(if b then ps else bad ps):=⟨_,rfl⟩
 rw[←hp0]at h2⊢;show DCalls _ _ _ [pbox l ps,[i64 k,i64 t,.mt 26 3],[.ref 0 0]] _ _;refine dcalls_end Tryz.func217 rfl (by kernel_rfl) 41 Tryz.ntmps217 #[.tmp 4] rfl (Nat.le_of_ble_eq_true rfl) ?_;refine cwp_cut (fun s=>s.hp= [pbox l ps,[i64 k,i64 t,.mt 26 3],[.ref 0 0]]∧s.tm 0= .ref 0 0∧s.tm 1= .fn 230 [.ref 1 0,.ref 2 0]) ?_ ?_
 ·simp
 rintro⟨tm,hp⟩ ⟨e1,e3,e4⟩;simp only at e1 e3 e4;subst e1;refine cwp_cut (fun s=>s.hp= [pbox l p0,[i64 k,i64 t,.mt 26 3],[.ref 0 0]]∧s.tm 0= .ref 0 0∧s.tm 1= .fn 230 [.ref 1 0,.ref 2 0]) ?_ ?_
 ·simp[e3];refine CallGoal.same (isW_ok h1) ?_
  try simp[e3]
  cases b with
  | true=>
   simp only[if_true]at hp0;subst hp0;simp[e3,e4]
  | false=>
   simp only[Bool.false_eq_true,if_false]at hp0;subst hp0;simp[e3];refine CallGoal.same (bad_ok) ?_
   try simp[e3,e4]
 rintro⟨tm,hp⟩ ⟨e1,e3,e4⟩;simp only at e1 e3 e4;subst e1;simp[e3];refine CallGoal.same (openP_ok) ?_
 try simp[e3]
 refine CallGoal.same (skip_ok) ?_
 try simp[e3]
 refine CallGoal.same (semis_ok h2) ?_
 try simp[e3]
 refine LoopGoal.cut (crJB l k t (tk (skip (openP p0))) r3 rp) ?_ ?_
 ·refine⟨crIB l S N k t (tk (skip (openP p0))) r3 rp,N,.here ⟨[],p2,h3,by simp[crHB],by simp[e3],by simp[e4],by simp⟩,?_⟩;rintro m ⟨tm,hp⟩ ⟨ks,ps,g,e1,e3,e4,e5⟩;simp only at e1 e3 e4 e5;subst e1;cases m with
  | zero=>cases g
  | succ m=>
   simp only[curlyL]at g;rcases ks with _ | ⟨x,xs⟩
   ·simp only[crHB];simp[e3];cases g1:decide (ps.fault < 0)with
    | false=>
     simp only[g1,Bool.false_eq_true,if_false,Option.some.injEq,Prod.mk.injEq]at g;obtain⟨rfl,rfl⟩:=g;simp[e3,e4,e5];exact⟨by simp[crHB],by simp[e3],by simp[e5]⟩
    | true=>
     simp only[g1,if_true]at g;obtain⟨b1,g2,g⟩:=Option.bind_eq_some_iff.1 g;simp[e3];refine CallGoal.same (isW_ok g2) ?_
     try simp[e3,e4]
     cases b1 with
     | true=>
      simp only[if_true,Option.some.injEq,Prod.mk.injEq]at g;obtain⟨rfl,rfl⟩:=g;simp[e3,e4,e5];exact⟨by simp[crHB],by simp[e3],by simp[e5]⟩
     | false=>
      simp only[Bool.false_eq_true,if_false]at g;obtain⟨⟨nd,q2⟩,g3,g⟩:=Option.bind_eq_some_iff.1 g;obtain⟨ks',g4,g⟩:=Option.bind_eq_some_iff.1 g;obtain⟨c,g5,g⟩:=Option.bind_eq_some_iff.1 g;obtain⟨rfl,g7,g8⟩:=app_some g4;dsimp only at g g5;simp only[List.nil_append]at g;simp[e4];refine CallGoal.same (block1_mt hS g3) ?_
      try simp[e3,e4]
      refine CallGoal.same (isW_ok g5) ?_
      try simp[e3,e4]
      cases c with
      | true=>
       simp only[if_true]at g
       try simp
       exact .same m (by omega) ⟨[nd],_,g,by simp[crHB],by simp[e3],by simp[e4],by simp[e5]⟩
      | false=>
       simp only[Bool.false_eq_true,if_false]at g;obtain⟨q3,g9,g⟩:=Option.bind_eq_some_iff.1 g;obtain⟨q4,g10,g⟩:=Option.bind_eq_some_iff.1 g;simp[e3];refine CallGoal.same (kindP_ok g9) ?_
       try simp[e3]
       refine CallGoal.same (semis_ok g10) ?_
       try simp[e3]
       exact .same m (by omega) ⟨[nd],_,g,by simp[crHB],by simp[e3],by simp[e4],by simp[e5]⟩
   ·obtain⟨ks,hks⟩:∃ks,ks=x::xs:=⟨_,rfl⟩
    have hne:ks≠ []:=by rw[hks];simp
    rw[←hks]at g⊢;rw[crHB_cons hne];simp[e3];cases g1:decide (ps.fault < 0)with
    | false=>
     simp only[g1,Bool.false_eq_true,if_false,Option.some.injEq,Prod.mk.injEq]at g;obtain⟨rfl,rfl⟩:=g;simp[e3,e4,e5];exact⟨by rw[crHB_cons hne];simp,by simp[e3],by simp[e5]⟩
    | true=>
     simp only[g1,if_true]at g;obtain⟨b1,g2,g⟩:=Option.bind_eq_some_iff.1 g;simp[e3];refine CallGoal.same (isW_ok g2) ?_
     try simp[e3,e4]
     cases b1 with
     | true=>
      simp only[if_true,Option.some.injEq,Prod.mk.injEq]at g;obtain⟨rfl,rfl⟩:=g;simp[e3,e4,e5];exact⟨by rw[crHB_cons hne];simp,by simp[e3],by simp[e5]⟩
     | false=>
      simp only[Bool.false_eq_true,if_false]at g;obtain⟨⟨nd,q2⟩,g3,g⟩:=Option.bind_eq_some_iff.1 g;obtain⟨ks',g4,g⟩:=Option.bind_eq_some_iff.1 g;obtain⟨c,g5,g⟩:=Option.bind_eq_some_iff.1 g;have hks':ks'=ks ++ [nd]:=(app_some g4).1;have hne':ks'≠ []:=by rw[hks'];simp
      have hlen':ks'.length=ks.length + 1:=by rw[hks'];simp
      dsimp only at g g5;simp[e4];refine CallGoal.same (block1_arr hS g3 hne g4) ?_
      try simp[e3,e4]
      refine CallGoal.same (isW_ok g5) ?_
      try simp[e3,e4]
      cases c with
      | true=>
       simp only[if_true]at g
       try simp
       refine .by m (by omega) (Gh.ren [0,1,2,4] _ (by simp;rfl) (by decide) (by rfl) (by simp)) ⟨ks',_,g,?_,?_,?_,?_⟩
       ·rw[crHB_cons hne'];simp[renSt,idxIn,hlen'] <;> decide
       ·simp[renSt,renD,idxIn,e3]
       ·simp[renSt,renD,idxIn,e4] <;> decide
       ·simp[renSt,renD,idxIn,e5]
      | false=>
       simp only[Bool.false_eq_true,if_false]at g;obtain⟨q3,g9,g⟩:=Option.bind_eq_some_iff.1 g;obtain⟨q4,g10,g⟩:=Option.bind_eq_some_iff.1 g;simp[e3];refine CallGoal.same (kindP_ok g9) ?_
       try simp[e3]
       refine CallGoal.same (semis_ok g10) ?_
       try simp[e3]
       refine .by m (by omega) (Gh.ren [0,1,2,4] _ (by simp;rfl) (by decide) (by rfl) (by simp)) ⟨ks',_,g,?_,?_,?_,?_⟩
       ·rw[crHB_cons hne'];simp[renSt,idxIn,hlen'] <;> decide
       ·simp[renSt,renD,idxIn,e3]
       ·simp[renSt,renD,idxIn,e4] <;> decide
       ·simp[renSt,renD,idxIn,e5]
 rintro⟨tm,hp⟩ ⟨e1,e3,e5⟩;simp only at e1 e3 e5;subst e1;rcases r3 with _ | ⟨x,xs⟩
 ·simp only[crHB];simp[e3];refine CallGoal.same (want_ok h4) ?_
  try simp[e3]
  refine CallGoal.same (closeP_ok) ?_
  try simp[e3,e5]
  exact .all (by simp) (.refl _) (by simp) (by simp) (by simp) (by simp) (by simp)
 ·obtain⟨ks,hks⟩:∃ks,ks=x::xs:=⟨_,rfl⟩
  have hne:ks≠ []:=by rw[hks];simp
  rw[←hks];rw[crHB_cons hne,crHB_cons hne];simp[e3];refine CallGoal.same (want_ok h4) ?_
  try simp[e3]
  refine CallGoal.same (closeP_ok) ?_
  try simp[e3,e5]
  exact .all (by simp) (.refl _) (by simp) (by simp) (by simp) (by simp) (by simp)
end Pp
end Go.Proofs.Dm
