/- Part of the proof: contracts of the functions, walked by the D-machine. No condition. -/
import Derived.Test.YtmlhdhpjcipcdaaGreatDoorPc
import Derived.Test.YtmlhdhpjcipcdaaGreatDoorDn
set_option linter.unusedSimpArgs false
set_option linter.unusedVariables false
set_option maxHeartbeats 4000000
namespace Go.Proofs.Dm
open Go Go.Proofs Go.Proofs.Tryz Go.Proofs.Dm.Sc
namespace Rp
structure RS where
 at_:Int
 bad:Int
 deep:Int
def rbox (l:List Tok) (rs:RS):List DV:= [.p (.sl 5 (l.map encT)),i64 rs.at_,i64 rs.bad,i64 rs.deep]
attribute [local simp] rbox encT encN encNs takes handsOn isTmp Op.operands Call.operands
def here (l:List Tok) (rs:RS):Option Tok:=if 0≤rs.at_ then l[rs.at_.toNat]? else none
def isW (l:List Tok) (rs:RS) (s:ByteArray):Option Bool:=(here l rs).map (Pp.word · s)
theorem isW_ok {W0 nb l rs s b} (h:isW l rs s=some b):DCalls ⟨Tryz.prog,W0,nb⟩ 133 [.ref 0 0,.p (.str s)] [rbox l rs] (.p (.bool b)) [rbox l rs]:=by
 obtain⟨t,h1,rfl⟩:=Option.map_eq_some_iff.1 h;unfold here at h1;split at h1
 ·rename_i h2;refine dcalls_end Tryz.func133 rfl (by kernel_rfl) 30 Tryz.ntmps133 #[.tmp 4] rfl (Nat.le_of_ble_eq_true rfl) ?_;simp;refine drawWp.intro [] [7] mixed (by kernel_rfl) (by kernel_rfl) (by kernel_rfl) ?_
  try simp
  try simp[h1,h2]
  refine⟨by simp,by simp,?_⟩
  try simp
  cases h3:t.kind==4 <;> cases h4:t.kind==5 <;> simp[h3,h4,Pp.word]
  all_goals exact .kk
 ·cases h1
def kindQ (l:List Tok) (rs:RS) (k:Int):Option Bool:=(here l rs).map (·.kind==k)
theorem kindQ_ok {W0 nb l rs k b} (h:kindQ l rs k=some b):DCalls ⟨Tryz.prog,W0,nb⟩ 132 [.ref 0 0,i64 k] [rbox l rs] (.p (.bool b)) [rbox l rs]:=by
 obtain⟨t,h1,rfl⟩:=Option.map_eq_some_iff.1 h;unfold here at h1;split at h1
 ·rename_i h2;refine dcalls_end Tryz.func132 rfl (by kernel_rfl) 18 Tryz.ntmps132 #[.tmp 4] rfl (Nat.le_of_ble_eq_true rfl) ?_;simp;refine drawWp.intro [] [7] mixed (by kernel_rfl) (by kernel_rfl) (by kernel_rfl) ?_
  try simp
  try simp[h1,h2]
  refine⟨by simp,by simp,?_⟩
  try simp
  exact .kk
 ·cases h1
def fail (rs:RS):RS:=if rs.bad < 0 then{rs with bad:=rs.at_}else rs
theorem fail_ok {W0 nb l rs}:DCalls ⟨Tryz.prog,W0,nb⟩ 164 [.ref 0 0] [rbox l rs] (.tup []) [rbox l (fail rs)]:=by
 refine dcalls_end Tryz.func164 rfl (by kernel_rfl) 14 Tryz.ntmps164 #[] rfl (Nat.le_of_ble_eq_true rfl) ?_;simp;cases h1:decide (rs.bad < 0)with
 | true=>
  have h1':=of_decide_eq_true h1;simp[fail,h1'];exact .kk
 | false=>
  have h1':=of_decide_eq_false h1;simp[fail,h1'];exact .kk
def shut (rs:RS):RS:={rs with deep:=w64 (rs.deep - 1)}
theorem shut_ok {W0 nb l rs}:DCalls ⟨Tryz.prog,W0,nb⟩ 194 [.ref 0 0] [rbox l rs] (.tup []) [rbox l (shut rs)]:=by
 refine dcalls_end Tryz.func194 rfl (by kernel_rfl) 9 Tryz.ntmps194 #[] rfl (Nat.le_of_ble_eq_true rfl) ?_;simp[shut];exact .kk
def openR (rs:RS):RS:=if 40 < w64 (rs.deep + 1)then fail {rs with deep:=w64 (rs.deep + 1)}else{rs with deep:=w64 (rs.deep + 1)}
theorem openR_ok {W0 nb l rs}:DCalls ⟨Tryz.prog,W0,nb⟩ 193 [.ref 0 0] [rbox l rs] (.tup []) [rbox l (openR rs)]:=by
 refine dcalls_end Tryz.func193 rfl (by kernel_rfl) 16 Tryz.ntmps193 #[] rfl (Nat.le_of_ble_eq_true rfl) ?_;simp;cases h1:decide (40 < w64 (rs.deep + 1))with
 | true=>
  have h1':=of_decide_eq_true h1;simp;refine CallGoal.same (fail_ok (rs:={rs with deep:=w64 (rs.deep + 1)})) ?_;simp[openR,h1'];exact .kk
 | false=>
  have h1':=of_decide_eq_false h1;simp[openR,h1'];exact .kk
def next (l:List Tok) (rs:RS):Int×RS:=
 if decide (rs.bad < 0)then if decide (rs.at_ < w64 ((l.length:Int)- 1))then(w64 (w64 (rs.at_ + 1)- 1),{rs with at_:=w64 (rs.at_ + 1)})else(rs.at_,rs)else(rs.at_,rs)
theorem next_ok {W0 nb l rs}:DCalls ⟨Tryz.prog,W0,nb⟩ 134 [.ref 0 0] [rbox l rs] (i64 (next l rs).1) [rbox l (next l rs).2]:=by
 cases h1:decide (rs.bad < 0)<;> cases h2:decide (rs.at_ < w64 ((l.length:Int)- 1))<;> simp only[next,h1,h2,if_true,Bool.false_eq_true,if_false]
 all_goals
  refine dcalls_end Tryz.func134 rfl (by kernel_rfl) 37 Tryz.ntmps134 #[.tmp 2] rfl (Nat.le_of_ble_eq_true rfl) ?_;simp;refine drawWp.intro [] [13] mixed (by kernel_rfl) (by kernel_rfl) (by kernel_rfl) ?_
  try simp
  try simp[h1,h2]
  refine⟨by simp[h1,h2],by simp[h1,h2],?_⟩
  try simp
  try simp[h1,h2]
  exact .kk
def want (l:List Tok) (rs:RS) (s:ByteArray):Option (Int×RS):=
 if decide (rs.bad < 0)then(isW l rs s).map fun b=>next l (if b then rs else fail rs)else some (next l rs)
theorem want_ok {W0 nb l rs s r} (h:want l rs s=some r):DCalls ⟨Tryz.prog,W0,nb⟩ 129 [.ref 0 0,.p (.str s)] [rbox l rs] (i64 r.1) [rbox l r.2]:=by
 unfold want at h;cases h1:decide (rs.bad < 0)with
 | true=>
  simp only[h1,if_true]at h;obtain⟨b,h2,rfl⟩:=Option.map_eq_some_iff.1 h;refine dcalls_end Tryz.func129 rfl (by kernel_rfl) 20 Tryz.ntmps129 #[.tmp 4] rfl (Nat.le_of_ble_eq_true rfl) ?_;simp[h1];refine CallGoal.same (isW_ok h2) ?_
  try simp[h1]
  cases b with
  | true=>
   simp;refine CallGoal.same (next_ok) ?_
   try simp
   exact .kk
  | false=>
   simp;refine CallGoal.same (fail_ok) ?_
   try simp
   refine CallGoal.same (next_ok) ?_
   try simp
   exact .kk
 | false=>
  simp only[h1,Bool.false_eq_true,if_false,Option.some.injEq]at h;subst h;refine dcalls_end Tryz.func129 rfl (by kernel_rfl) 20 Tryz.ntmps129 #[.tmp 4] rfl (Nat.le_of_ble_eq_true rfl) ?_;simp[h1];refine CallGoal.same (next_ok) ?_
  try simp
  exact .kk
end Rp
end Go.Proofs.Dm
set_option maxHeartbeats 4000000
namespace Go.Proofs.Dm
open Go Go.Proofs Go.Proofs.Tryz Go.Proofs.Dm.Sc
namespace Rp
attribute [local simp] rbox encT encN encNs takes handsOn isTmp Op.operands Call.operands
def wantK (l:List Tok) (rs:RS) (k:Int):Option (Int×RS):=
 if decide (rs.bad < 0)then(kindQ l rs k).map fun b=>next l (if b then rs else fail rs)else some (next l rs)
theorem wantK_ok {W0 nb l rs k r} (h:wantK l rs k=some r):DCalls ⟨Tryz.prog,W0,nb⟩ 130 [.ref 0 0,i64 k] [rbox l rs] (i64 r.1) [rbox l r.2]:=by
 unfold wantK at h;cases h1:decide (rs.bad < 0)with
 | true=>
  simp only[h1,if_true]at h;obtain⟨b,h2,rfl⟩:=Option.map_eq_some_iff.1 h;refine dcalls_end Tryz.func130 rfl (by kernel_rfl) 20 Tryz.ntmps130 #[.tmp 4] rfl (Nat.le_of_ble_eq_true rfl) ?_;simp[h1];refine CallGoal.same (kindQ_ok h2) ?_
  try simp[h1]
  cases b with
  | true=>
   simp;refine CallGoal.same (next_ok) ?_
   try simp
   exact .kk
  | false=>
   simp;refine CallGoal.same (fail_ok) ?_
   try simp
   refine CallGoal.same (next_ok) ?_
   try simp
   exact .kk
 | false=>
  simp only[h1,Bool.false_eq_true,if_false,Option.some.injEq]at h;subst h;refine dcalls_end Tryz.func130 rfl (by kernel_rfl) 20 Tryz.ntmps130 #[.tmp 4] rfl (Nat.le_of_ble_eq_true rfl) ?_;simp[h1];refine CallGoal.same (next_ok) ?_
  try simp
  exact .kk
def semis (l:List Tok):Nat→RS→Option RS
 | 0,_=>none
 | n + 1,rs=>if decide (rs.bad < 0)then(kindQ l rs 6).bind fun b=>if b then semis l n (next l rs).2 else some rs else some rs
theorem semis_ok {W0 nb l n rs rs'} (h:semis l n rs=some rs'):DCalls ⟨Tryz.prog,W0,nb⟩ 131 [.ref 0 0] [rbox l rs] (.tup []) [rbox l rs']:=by
 refine dcalls_end Tryz.func131 rfl (by kernel_rfl) 13 Tryz.ntmps131 #[] rfl (Nat.le_of_ble_eq_true rfl) ?_;simp;refine⟨fun m s=>∃rs,semis l m rs=some rs'∧s.hp= [rbox l rs]∧s.tm 0= .ref 0 0,n,.here ⟨rs,h,by simp,by simp⟩,?_⟩;rintro m ⟨tm,hp⟩ ⟨rs,h,h1,h2⟩;simp only at h1 h2;subst h1;cases m with
 | zero=>cases h
 | succ m=>
  simp only[semis]at h;simp[h2];cases h3:decide (rs.bad < 0)with
  | false=>
   simp only[h3,Bool.false_eq_true,if_false,Option.some.injEq]at h;subst h;simp;exact .kk
  | true=>
   simp only[h3,if_true]at h;obtain⟨b,h4,h⟩:=Option.bind_eq_some_iff.1 h
   try dsimp only at h4 h
   simp[h2];refine CallGoal.same (kindQ_ok h4) ?_
   try simp[h2]
   cases b with
   | true=>
    simp only[if_true]at h;simp[h2];refine CallGoal.same (next_ok) ?_
    try simp[h2]
    exact .same m (by omega) ⟨_,h,by simp[h2]⟩
   | false=>
    simp only[Bool.false_eq_true,if_false,Option.some.injEq]at h;subst h;simp;exact .kk
theorem leaf_nil {W0 nb k t}:DCalls ⟨Tryz.prog,W0,nb⟩ 128 [i64 k,i64 t,.nil] [] (.agg [i64 k,i64 t,.own 26 3 []]) []:=by
 refine dcalls_end Tryz.func128 rfl (by kernel_rfl) 12 Tryz.ntmps128 #[.cell 6 26] rfl (Nat.le_of_ble_eq_true rfl) ?_;simp;exact .kk
theorem leaf_p {W0 nb k t xs} (h1:xs.length * 40≤140737488355328) (h2:xs.length≤maxLen):DCalls ⟨Tryz.prog,W0,nb⟩ 128 [i64 k,i64 t,.p (.sl 3 xs)] [] (.agg [i64 k,i64 t,.own 26 3 xs]) []:=by
 refine dcalls_end Tryz.func128 rfl (by kernel_rfl) 12 Tryz.ntmps128 #[.cell 6 26] rfl (Nat.le_of_ble_eq_true rfl) ?_;simp at h2;simp[h1,h2];exact .kk
end Rp
end Go.Proofs.Dm
set_option maxHeartbeats 4000000
namespace Go.Proofs.Dm
open Go Go.Proofs Go.Proofs.Tryz Go.Proofs.Dm.Sc
namespace Rp
attribute [local simp] rbox encT encN encNs takes handsOn isTmp Op.operands Call.operands
def HN (C:Ctx) (l:List Tok) (f:FuncId) (F:RS→Option (Nd×RS)):Prop:=∀{rs nd rs'},F rs=some (nd,rs')→DCalls C f [.ref 0 0] [rbox l rs] (.agg ((encN nd).map .p)) [rbox l rs']
def HE (C:Ctx) (l:List Tok) (E:Int→RS→Option (Nd×RS)):Prop:=∀{k rs nd rs'},E k rs=some (nd,rs')→DCalls C 192 [.ref 0 0,i64 k] [rbox l rs] (.agg ((encN nd).map .p)) [rbox l rs']
def isN (l:List Tok) (rs:RS) (s:ByteArray):Option Bool:=if decide (rs.bad < 0)then isW l rs s else some false
def types (l:List Tok) (rs:RS):Option (Nd×RS):=
 (wantK l rs 1).bind fun r1=>(isN l r1.2 ⟨#[46]⟩).bind fun b=>if b then(wantK l (next l r1.2).2 1).bind fun r3=>some (.mk 28 r3.1 [.mk 20 r1.1 []],r3.2)else some (.mk 28 r1.1 [],r1.2)
theorem types_ok {W0 nb l}:HN ⟨Tryz.prog,W0,nb⟩ l 191 (types l):=by
 intro rs ⟨k0,t0,ks0⟩ rs' h;unfold types at h;obtain⟨⟨n1,r1⟩,h1,h⟩:=Option.bind_eq_some_iff.1 h
 try dsimp only at h1 h
 obtain⟨b,h2,h⟩:=Option.bind_eq_some_iff.1 h
 try dsimp only at h2 h
 refine dcalls_end Tryz.func191 rfl (by kernel_rfl) 27 Tryz.ntmps191 #[.cell 2 26] rfl (Nat.le_of_ble_eq_true rfl) ?_;simp;refine CallGoal.same (wantK_ok h1) ?_
 try simp
 unfold isN at h2;cases h3:decide (r1.bad < 0)with
 | false=>
  simp only[h3,Bool.false_eq_true,if_false,Option.some.injEq]at h2;subst h2;simp only[Bool.false_eq_true,if_false]at h;simp only[Option.some.injEq,Prod.mk.injEq,Nd.mk.injEq]at h;obtain⟨⟨rfl,rfl,rfl⟩,rfl⟩:=h;simp[h3];refine CallGoal.same (leaf_nil) ?_
  try simp
  exact Pp.endE (by simp) (by simp) (by simp) (by simp)
 | true=>
  simp only[h3,if_true]at h2;simp[h3];refine CallGoal.same (isW_ok h2) ?_
  try simp[h3]
  cases b with
  | false=>
   simp only[Bool.false_eq_true,if_false]at h;simp only[Option.some.injEq,Prod.mk.injEq,Nd.mk.injEq]at h;obtain⟨⟨rfl,rfl,rfl⟩,rfl⟩:=h;simp;refine CallGoal.same (leaf_nil) ?_
   try simp
   exact Pp.endE (by simp) (by simp) (by simp) (by simp)
  | true=>
   simp only[if_true]at h;obtain⟨⟨n3,r3⟩,h4,h⟩:=Option.bind_eq_some_iff.1 h
   try dsimp only at h4 h
   simp only[Option.some.injEq,Prod.mk.injEq,Nd.mk.injEq]at h;obtain⟨⟨rfl,rfl,rfl⟩,rfl⟩:=h;simp;refine CallGoal.same (next_ok) ?_
   try simp
   refine CallGoal.same (leaf_nil) ?_
   try simp
   refine drawWp.intro [(1,2)] [2] mixed (by kernel_rfl) (by kernel_rfl) (by kernel_rfl) ?_
   try simp
   refine CallGoal.same (wantK_ok h4) ?_
   try simp
   refine CallGoal.intro (leaf_p (by simp) (by simp)) (.cons (.refl _) (.cons (.refl _) (.cons (.fr _ _ _) .nil))) ?_
   try simp
   refine⟨by simp,by simp,?_⟩
   try simp
   exact Pp.endE (by simp) (by simp) (by simp) (by simp)
def consts (l:List Tok) (E:Int→RS→Option (Nd×RS)) (rs:RS):Option (Nd×RS):=
 (want l rs ⟨#[99,111,110,115,116]⟩).bind fun r1=>(wantK l r1.2 1).bind fun r2=>(want l r2.2 ⟨#[61]⟩).bind fun r3=>(E 1 r3.2).bind fun r4=>some (.mk 5 r2.1 [r4.1],r4.2)
theorem consts_ok {W0 nb l E} (hE:HE ⟨Tryz.prog,W0,nb⟩ l E):HN ⟨Tryz.prog,W0,nb⟩ l 166 (consts l E):=by
 intro rs ⟨k0,t0,ks0⟩ rs' h;unfold consts at h;obtain⟨⟨n1,r1⟩,h1,h⟩:=Option.bind_eq_some_iff.1 h
 try dsimp only at h1 h
 obtain⟨⟨n2,r2⟩,h2,h⟩:=Option.bind_eq_some_iff.1 h
 try dsimp only at h2 h
 obtain⟨⟨n3,r3⟩,h3,h⟩:=Option.bind_eq_some_iff.1 h
 try dsimp only at h3 h
 obtain⟨⟨⟨k4,t4,ks4⟩,r4⟩,h4,h⟩:=Option.bind_eq_some_iff.1 h
 try dsimp only at h4 h
 simp only[Option.some.injEq,Prod.mk.injEq,Nd.mk.injEq]at h;obtain⟨⟨rfl,rfl,rfl⟩,rfl⟩:=h;refine dcalls_end Tryz.func166 rfl (by kernel_rfl) 19 Tryz.ntmps166 #[.cell 2 26] rfl (Nat.le_of_ble_eq_true rfl) ?_;simp;refine CallGoal.same (want_ok h1) ?_
 try simp
 refine CallGoal.same (wantK_ok h2) ?_
 try simp
 refine CallGoal.same (leaf_nil) ?_
 try simp
 refine CallGoal.same (want_ok h3) ?_
 try simp
 refine drawWp.intro [(1,3)] [3] mixed (by kernel_rfl) (by kernel_rfl) (by kernel_rfl) ?_
 try simp
 refine CallGoal.same (hE h4) ?_
 try simp
 refine⟨by simp,by simp,?_⟩
 try simp
 exact Pp.endE (by simp) (by simp) (by simp) (by simp)
end Rp
end Go.Proofs.Dm
set_option maxHeartbeats 4000000
namespace Go.Proofs.Dm
open Go Go.Proofs Go.Proofs.Tryz Go.Proofs.Dm.Sc
namespace Rp
attribute [local simp] rbox encT encN encNs takes handsOn isTmp Op.operands Call.operands
def vars (l:List Tok) (E:Int→RS→Option (Nd×RS)) (rs:RS):Option (Nd×RS):=
 (want l rs ⟨#[118,97,114]⟩).bind fun r1=>(wantK l r1.2 1).bind fun r2=>(types l r2.2).bind fun r3=>(isN l r3.2 ⟨#[61]⟩).bind fun b=>
  if b then(E 1 (next l r3.2).2).bind fun r4=>some (.mk 4 r2.1 [r3.1,r4.1],r4.2)else some (.mk 4 r2.1 [r3.1],r3.2)
theorem vars_ok {W0 nb l E} (hE:HE ⟨Tryz.prog,W0,nb⟩ l E):HN ⟨Tryz.prog,W0,nb⟩ l 165 (vars l E):=by
 intro rs ⟨k0,t0,ks0⟩ rs' h;unfold vars at h;obtain⟨⟨n1,r1⟩,h1,h⟩:=Option.bind_eq_some_iff.1 h
 try dsimp only at h1 h
 obtain⟨⟨n2,r2⟩,h2,h⟩:=Option.bind_eq_some_iff.1 h
 try dsimp only at h2 h
 obtain⟨⟨⟨k3,t3,ks3⟩,r3⟩,h3,h⟩:=Option.bind_eq_some_iff.1 h
 try dsimp only at h3 h
 obtain⟨b,h4,h⟩:=Option.bind_eq_some_iff.1 h
 try dsimp only at h4 h
 refine dcalls_end Tryz.func165 rfl (by kernel_rfl) 35 Tryz.ntmps165 #[.cell 2 26] rfl (Nat.le_of_ble_eq_true rfl) ?_;simp;refine CallGoal.same (want_ok h1) ?_
 try simp
 refine CallGoal.same (wantK_ok h2) ?_
 try simp
 refine CallGoal.same (leaf_nil) ?_
 try simp
 refine drawWp.intro [(1,3)] [3] mixed (by kernel_rfl) (by kernel_rfl) (by kernel_rfl) ?_
 try simp
 refine CallGoal.same (types_ok h3) ?_
 try simp
 refine⟨by simp,by simp,?_⟩
 try simp
 unfold isN at h4;cases h5:decide (r3.bad < 0)with
 | false=>
  simp only[h5,Bool.false_eq_true,if_false,Option.some.injEq]at h4;subst h4;simp only[Bool.false_eq_true,if_false]at h;simp only[Option.some.injEq,Prod.mk.injEq,Nd.mk.injEq]at h;obtain⟨⟨rfl,rfl,rfl⟩,rfl⟩:=h;simp[h5];exact Pp.endE (by simp) (by simp) (by simp) (by simp)
 | true=>
  simp only[h5,if_true]at h4;simp[h5];refine CallGoal.same (isW_ok h4) ?_
  try simp[h5]
  cases b with
  | false=>
   simp only[Bool.false_eq_true,if_false]at h;simp only[Option.some.injEq,Prod.mk.injEq,Nd.mk.injEq]at h;obtain⟨⟨rfl,rfl,rfl⟩,rfl⟩:=h;simp;exact Pp.endE (by simp) (by simp) (by simp) (by simp)
  | true=>
   simp only[if_true]at h;obtain⟨⟨⟨k4,t4,ks4⟩,r4⟩,h6,h⟩:=Option.bind_eq_some_iff.1 h
   try dsimp only at h6 h
   simp only[Option.some.injEq,Prod.mk.injEq,Nd.mk.injEq]at h;obtain⟨⟨rfl,rfl,rfl⟩,rfl⟩:=h;simp;refine CallGoal.same (next_ok) ?_
   try simp
   refine drawWp.intro [(1,3)] [3] mixed (by kernel_rfl) (by kernel_rfl) (by kernel_rfl) ?_
   try simp
   refine CallGoal.same (hE h6) ?_
   try simp
   refine⟨by simp,by simp,?_⟩
   try simp
   exact Pp.endE (by simp) (by simp) (by simp) (by simp)
end Rp
end Go.Proofs.Dm
set_option maxHeartbeats 4000000
namespace Go.Proofs.Dm
open Go Go.Proofs Go.Proofs.Tryz Go.Proofs.Dm.Sc
namespace Rp
abbrev RM:=RS→Option (Nd×RS)
def ahead (l:List Tok) (rs:RS):Option Tok:=if 0≤w64 (rs.at_ + 1)then l[(w64 (rs.at_ + 1)).toNat]? else none
def isAss (t:Tok):Bool:=t.kind==4&&((t.text.toList== [58,61])||(t.text.toList== [58]))
def restR (l:List Tok) (E:Int→RM) (rs:RS):Option (Nd×RS):=
 (E 1 rs).bind fun x=>(isN l x.2 ⟨#[61]⟩).bind fun b=>if b then(E 1 (next l x.2).2).bind fun y=>some (.mk 13 (next l x.2).1 [x.1,y.1],y.2)else some (.mk 12 rs.at_ [x.1],x.2)
def assR (l:List Tok) (E:Int→RM) (L:RM) (rs:RS):Option (Nd×RS):=
 (isW l (next l rs).2 ⟨#[58,61]⟩).bind fun b=>if b then(E 1 (next l (next l rs).2).2).bind fun e=>some (.mk 11 (next l rs).1 [e.1],e.2)else(L (next l (next l rs).2).2).bind fun e=>some (.mk 19 (next l rs).1 [e.1],e.2)
def simpleR (l:List Tok) (E:Int→RM) (L:RM) (rs:RS):Option (Nd×RS):=
 (kindQ l rs 1).bind fun b=>if b then(ahead l rs).bind fun t=>if isAss t then assR l E L rs else restR l E rs else restR l E rs
def fieldR (l:List Tok) (rs:RS):Option (Nd×RS):=(wantK l rs 1).bind fun f1=>(types l f1.2).bind fun r2=>some (.mk 7 f1.1 [r2.1],r2.2)
def exprL (l:List Tok) (X:RM) (k:Int):Nat→Nd→RM
 | 0,_,_=>none
 | n + 1,x,rs=>if decide (rs.bad < 0)then(here l rs).bind fun t=>if t.kind==4 then if Pp.rank t.text==k then(X (next l rs).2).bind fun y=>exprL l X k n (.mk 24 (next l rs).1 [x,y.1]) y.2 else some (x,rs)else some (x,rs)else some (x,rs)
def exprT (l:List Tok) (U:RM) (N:Nat):Nat→RM
 | 0=>U
 | j + 1=>fun rs=>(exprT l U N j rs).bind fun x=>exprL l (exprT l U N j) (5 -(j:Int)) N x.1 x.2
def exprE (l:List Tok) (U:RM) (N:Nat):Int→RM:=fun k rs=>if k==1 then exprT l U N 5 rs else none
def primL (l:List Tok) (K:Nd→RM):Nat→Nd→RM
 | 0,_,_=>none
 | n + 1,x,rs=>if decide (rs.bad < 0)then(isW l rs ⟨#[40]⟩).bind fun b=>(isW l rs ⟨#[46]⟩).bind fun c=>
   if c then(wantK l (next l rs).2 1).bind fun w=>primL l K n (.mk 27 w.1 [x]) w.2 else if b then(K x rs).bind fun y=>primL l K n y.1 y.2 else some (x,rs)
  else some (x,rs)
def primR (l:List Tok) (E:Int→RM) (K:Nd→RM) (N:Nat) (rs:RS):Option (Nd×RS):=
 if decide (0≤rs.bad)then some (.mk 0 0 [],rs)else
 (kindQ l rs 1).bind fun b1=>if b1 then primL l K N (.mk 20 (next l rs).1 []) (next l rs).2 else
 (kindQ l rs 2).bind fun b2=>if b2 then primL l K N (.mk 21 (next l rs).1 []) (next l rs).2 else
 (kindQ l rs 3).bind fun b3=>if b3 then primL l K N (.mk 22 (next l rs).1 []) (next l rs).2 else
 (isW l rs ⟨#[40]⟩).bind fun b=>if b then(E 1 (next l (openR rs)).2).bind fun x=>(want l x.2 ⟨#[41]⟩).bind fun w=>primL l K N (.mk 25 (next l (openR rs)).1 [x.1]) (shut w.2)else
 some (.mk 0 0 [],fail rs)
def callL (l:List Tok) (E:Int→RM):Nat→Bool→List Nd→RS→Option (List Nd×RS)
 | 0,_,_,_=>none
 | n + 1,first,ks,rs=>if decide (rs.bad < 0)then(isW l rs ⟨#[41]⟩).bind fun b=>if b then some (ks,rs)else
   if first then(E 1 rs).bind fun r=>(app ks r.1).bind fun ks'=>callL l E n false ks' r.2 else(want l rs ⟨#[44]⟩).bind fun w=>(E 1 w.2).bind fun r=>(app ks r.1).bind fun ks'=>callL l E n false ks' r.2
  else some (ks,rs)
def callR (l:List Tok) (E:Int→RM) (N:Nat) (x:Nd) (rs:RS):Option (Nd×RS):=
 (callL l E N true [x] (next l (openR rs)).2).bind fun r=>(want l r.2 ⟨#[41]⟩).bind fun w=>some (.mk 26 (next l (openR rs)).1 r.1,shut w.2)
def fileL (l:List Tok) (D:RM) (N:Nat):Nat→Bool→List Nd→RS→Option (List Nd×RS)
 | 0,_,_,_=>none
 | n + 1,imp,ks,rs=>if decide (rs.bad < 0)then(semis l N rs).bind fun r1=>(kindQ l r1 7).bind fun e=>if e then some (ks,r1)else
   (if imp then isW l r1 ⟨#[105,109,112,111,114,116]⟩else some false).bind fun b=>if b then(wantK l (next l r1).2 1).bind fun w=>(app ks (.mk 3 w.1 [])).bind fun ks'=>(wantK l w.2 6).bind fun v=>fileL l D N n imp ks' v.2
   else(D r1).bind fun d=>(app ks d.1).bind fun ks'=>(wantK l d.2 6).bind fun v=>fileL l D N n false ks' v.2
  else some (ks,rs)
def fileR (l:List Tok) (D:RM) (N:Nat) (rs:RS):Option (Nd×RS):=
 (want l rs ⟨#[112,97,99,107,97,103,101]⟩).bind fun w1=>(wantK l w1.2 1).bind fun w2=>(wantK l w2.2 6).bind fun w3=>(fileL l D N N true [.mk 2 w2.1 []] w3.2).bind fun r=>some (.mk 1 0 r.1,r.2)
def parseR (F:RM):Option (Nd×Int):=(F ⟨0,-1,0⟩).bind fun r=>if decide (0≤r.2.bad)then some (.mk 0 0 [],r.2.bad)else some (r.1,-1)
def textOf (l:List Tok) (f:Int) (r:Option (Nd×Int)):Option (Nd×List Tok×Int):=
 if decide (0≤f)then some (.mk 0 0 [],[],f)else r.bind fun t=>if decide (0≤t.2)then(l[t.2.toNat]?).bind fun k=>some (.mk 0 0 [],[],k.at_)else some (t.1,l,-1)
end Rp
end Go.Proofs.Dm
set_option maxHeartbeats 4000000
namespace Go.Proofs.Dm
open Go Go.Proofs Go.Proofs.Tryz Go.Proofs.Dm.Sc
namespace Rp
attribute [local simp] rbox encT encN encNs takes handsOn isTmp Op.operands Call.operands
theorem leaf_nilF {W0 nb k t}:DCalls ⟨Tryz.prog,W0,nb⟩ 128 [i64 k,i64 t,.nil] [] (.agg [i64 k,i64 t,.p (.sl 3 [])]) []:=by
 refine dcalls_end Tryz.func128 rfl (by kernel_rfl) 12 Tryz.ntmps128 #[.cell 6 26] rfl (Nat.le_of_ble_eq_true rfl) ?_;simp;exact Pp.endE (by simp) (by simp) (by simp) (by simp)
theorem leaf_pF {W0 nb k t xs} (h1:xs.length * 40≤140737488355328) (h2:xs.length≤maxLen):DCalls ⟨Tryz.prog,W0,nb⟩ 128 [i64 k,i64 t,.p (.sl 3 xs)] [] (.agg [i64 k,i64 t,.p (.sl 3 xs)]) []:=by
 refine dcalls_end Tryz.func128 rfl (by kernel_rfl) 12 Tryz.ntmps128 #[.cell 6 26] rfl (Nat.le_of_ble_eq_true rfl) ?_;simp at h2;simp[h1,h2];exact Pp.endE (by simp) (by simp) (by simp) (by simp)
end Rp
end Go.Proofs.Dm
