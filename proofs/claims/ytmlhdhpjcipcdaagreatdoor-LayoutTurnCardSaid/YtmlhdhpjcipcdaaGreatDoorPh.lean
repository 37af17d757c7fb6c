/- Part of the proof: contracts of the functions, walked by the D-machine. No condition. -/
import Derived.Test.YtmlhdhpjcipcdaaGreatDoorPc
import Derived.Test.YtmlhdhpjcipcdaaGreatDoorPf
import Derived.Test.YtmlhdhpjcipcdaaGreatDoorSd
set_option linter.unusedSimpArgs false
set_option linter.unusedVariables false
set_option maxHeartbeats 4000000
namespace Go.Proofs.Dm
open Go Go.Proofs Go.Proofs.Tryz Go.Proofs.Dm.Sc
namespace Pp
attribute [local simp] pbox encT encN encNs takes handsOn isTmp Op.operands Call.operands
def tokensB (F:PS→Option (Nd×PS)):Option (Nd×Int):=
 (F ⟨0,0,-1⟩).bind fun r=>if decide (0≤r.2.fault)then some (.mk 0 0 [],r.2.fault)else some (r.1,-1)
theorem tokens_ok {W0 nb l F nd k} (hF:HN ⟨Tryz.prog,W0,nb⟩ l 136 F) (h:tokensB F=some (nd,k)):DCalls ⟨Tryz.prog,W0,nb⟩ 85 [.p (.sl 5 (l.map encT))] [] (.tup [.agg ((encN nd).map .p),i64 k]) []:=by
 unfold tokensB at h;obtain⟨⟨⟨k1,t1,ks1⟩,p1⟩,h1,h⟩:=Option.bind_eq_some_iff.1 h
 try dsimp only at h1 h
 refine dcalls_end Tryz.func85 rfl (by kernel_rfl) 22 Tryz.ntmps85 #[.cell 2 26,.tmp 3] rfl (Nat.le_of_ble_eq_true rfl) ?_;simp;refine CallGoal.same (hF h1) ?_
 try simp
 cases g1:decide (0≤p1.fault)with
 | true=>
  simp only[g1,if_true]at h;simp only[Option.some.injEq,Prod.mk.injEq]at h;obtain⟨rfl,rfl⟩:=h;simp;refine drawWp.intro [(4,5)] [4,5] mixed (by kernel_rfl) (by kernel_rfl) (by kernel_rfl) ?_
  try simp
  refine⟨by simp,by simp,?_⟩
  try simp
  exact .kk
 | false=>
  simp only[g1,Bool.false_eq_true,if_false]at h;simp only[Option.some.injEq,Prod.mk.injEq]at h;obtain⟨rfl,rfl⟩:=h;simp;exact .kk
end Pp
end Go.Proofs.Dm
set_option maxHeartbeats 8000000
namespace Go.Proofs.Dm
open Go Go.Proofs Go.Proofs.Tryz Go.Proofs.Dm.Sc
namespace Pp
attribute [local simp] pbox encT encN encNs takes handsOn isTmp Op.operands Call.operands
abbrev PM:=PS→Option (Nd×PS)
structure PF where
 binary:Int→PM
 unary:PM
 block:PM
 branch:PM
 stmt:PM
def noPM:PM:=fun _=>none
def stepF (l:List Tok) (N:Nat) (F:PF):PF where
 binary:=fun rk=>binaryB l F.unary F.binary N rk
 unary:=unaryB l F.unary (primB l (firstB l (F.binary 1)) (callB l (F.binary 1) N) N)
 block:=blockB l F.stmt N
 branch:=branchB l (F.binary 1) F.block F.branch
 stmt:=stmtB l (variableB l (F.binary 1)) (constantB l (F.binary 1)) F.block F.branch (loopB l (F.binary 1) F.block) (backB l (F.binary 1)) (simpleB l (F.binary 1) (loopB l (F.binary 1) F.block))
def pf (l:List Tok) (N:Nat):Nat→PF
 | 0=>⟨fun _=>noPM,noPM,noPM,noPM,noPM⟩
 | n + 1=>stepF l N (pf l N n)
def fileF (l:List Tok) (N:Nat) (F:PF):PM:=
 fileB l (declB l (variableB l (F.binary 1)) (constantB l (F.binary 1)) (structureB l N) (functionB l F.block N)) N
structure PFok (C:Ctx) (l:List Tok) (F:PF):Prop where
 binary:HY C l F.binary
 unary:HN C l 233 F.unary
 block:HN C l 219 F.block
 branch:HN C l 235 F.branch
 stmt:HN C l 231 F.stmt
theorem PFok.expr {W0 nb l F} (h:PFok ⟨Tryz.prog,W0,nb⟩ l F):HN ⟨Tryz.prog,W0,nb⟩ l 216 (F.binary 1):=expr_ok fun q=>h.binary q
theorem PFok.step {W0 nb l F N} (h:PFok ⟨Tryz.prog,W0,nb⟩ l F):PFok ⟨Tryz.prog,W0,nb⟩ l (stepF l N F) where
 binary:=binary_ok h.unary h.binary
 unary:=unary_ok h.unary (prim_ok (first_ok h.expr) (call_ok h.expr))
 block:=block_ok h.stmt
 branch:=branch_ok h.expr h.block h.branch
 stmt:=stmtB_ok (variable_ok h.expr) (constant_ok h.expr) h.block h.branch (loop_ok h.expr h.block) (back_ok h.expr) (simple_ok h.expr (loop_ok h.expr h.block))
theorem pf_ok {W0 nb l N}:∀n,PFok ⟨Tryz.prog,W0,nb⟩ l (pf l N n)
 | 0=>⟨fun{_ _ _ _} h=>by simp[pf,noPM]at h,fun{_ _ _} h=>by simp[pf,noPM]at h,fun{_ _ _} h=>by simp[pf,noPM]at h,fun{_ _ _} h=>by simp[pf,noPM]at h,fun{_ _ _} h=>by simp[pf,noPM]at h⟩
 | n + 1=>(pf_ok n).step
theorem fileF_ok {W0 nb l N n}:HN ⟨Tryz.prog,W0,nb⟩ l 136 (fileF l N (pf l N n)):=
 file_ok (declB_ok (variable_ok (pf_ok n).expr) (constant_ok (pf_ok n).expr) structure_ok (function_ok (pf_ok n).block))
def less (a b:Int):Int:=if a < b then a else b
def textOf (l:List Tok) (f:Int) (r:Option (Nd×Int)):Option (Nd×List Tok×Int):=
 if decide (0≤f)then some (.mk 0 0 [],[],f)else r.bind fun t=>if decide (0≤t.2)then(l[(less t.2 ((l.length:Int)- 1)).toNat]?).bind fun k=>if 0≤less t.2 ((l.length:Int)- 1)then some (.mk 0 0 [],[],k.at_)else none else some (t.1,l,-1)
theorem text_ok {W0 nb} {s:ByteArray} (h2:2≤nb) (hT:Lib.Utf8Tabs 0 1 W0) (hs:s.size < 10000000) {F} {nd l k} (hF:HN ⟨Tryz.prog,W0,nb⟩ (scanP s).1 136 F) (hl:(scanP s).1.length < 100000000) (h:textOf (scanP s).1 (scanP s).2.2 (tokensB F)=some (nd,l,k)):
  DCalls ⟨Tryz.prog,W0,nb⟩ 46 [.p (.str s)] [] (.tup [.agg ((encN nd).map .p),.p (.sl 5 (l.map encT)),i64 k]) []:=by
 have ca:=scan_ok (W0:=W0) (nb:=nb) (s:=s) h2 hT hs;obtain⟨A,hA⟩:∃A,scanP s=A:=⟨_,rfl⟩
 rw[hA]at ca h hF hl;obtain⟨x,xc,f⟩:=A;simp only[Sc.toks,coms]at ca h hF hl;unfold textOf at h;refine dcalls_end Tryz.func46 rfl (by kernel_rfl) 39 Tryz.ntmps46 #[.cell 2 26,.tmp 3,.tmp 4] rfl (Nat.le_of_ble_eq_true rfl) ?_;simp;refine CallGoal.same ca ?_;simp;cases g1:decide (0≤f)with
 | true=>
  simp only[g1,if_true]at h;simp only[Option.some.injEq,Prod.mk.injEq]at h;obtain⟨rfl,rfl,rfl⟩:=h;simp;exact .kk
 | false=>
  simp only[g1,Bool.false_eq_true,if_false]at h;obtain⟨⟨⟨k1,t1,ks1⟩,e⟩,h3,h⟩:=Option.bind_eq_some_iff.1 h
  try dsimp only at h3 h
  simp;refine CallGoal.same (tokens_ok hF h3) ?_
  try simp
  cases g2:decide (0≤e)with
  | true=>
   simp only[g2,if_true]at h;obtain⟨tok,j1,h⟩:=Option.bind_eq_some_iff.1 h
   try dsimp only at j1 h
   split at h
   rotate_left
   ·cases h
   rename_i j2;simp only[Option.some.injEq,Prod.mk.injEq]at h;obtain⟨rfl,rfl,rfl⟩:=h;have hw:=w64_id (n:=(x.length:Int)- 1) (by omega) (by omega);simp only[w64]at hw;simp only[less]at j1 j2;simp;refine drawWp.intro [(9,10)] [9,10] mixed (by kernel_rfl) (by kernel_rfl) (by kernel_rfl) ?_
   try simp
   try simp[hw,j1,j2,encT]
   refine⟨by simp[hw,j1,j2],by simp[hw,j1,j2],?_⟩
   try simp
   try simp
   exact .kk
  | false=>
   simp only[g2,Bool.false_eq_true,if_false]at h;simp only[Option.some.injEq,Prod.mk.injEq]at h;obtain⟨rfl,rfl,rfl⟩:=h;simp;exact .kk
end Pp
end Go.Proofs.Dm
