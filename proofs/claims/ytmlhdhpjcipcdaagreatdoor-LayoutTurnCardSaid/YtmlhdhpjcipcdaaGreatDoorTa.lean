/- Part of the proof: contracts of the functions, walked by the D-machine. No condition. -/
import Derived.Test.YtmlhdhpjcipcdaaGreatDoorSc
import Derived.Test.YtmlhdhpjcipcdaaGreatDoorSd
set_option linter.unusedSimpArgs false
set_option linter.unusedVariables false
set_option maxHeartbeats 4000000
namespace Go.Proofs.Dm
open Go Go.Proofs Go.Proofs.Tryz
namespace Rs
open Sc
theorem letter_ok {W0 nb c}:DCalls ⟨Tryz.prog,W0,nb⟩ 107 [u8 c] [] (.p (.bool (letter c))) []:=by
 refine dcalls_end Tryz.func107 rfl (by kernel_rfl) 21 Tryz.ntmps107 #[.tmp 2] rfl (Nat.le_of_ble_eq_true rfl) ?_;simp;cases h1:decide (97≤(c.toNat:Int))<;> cases h2:decide ((c.toNat:Int)≤122)<;> cases h3:decide (65≤(c.toNat:Int))<;> cases h4:decide ((c.toNat:Int)≤90)<;> cases h5:(c.toNat:Int)==95 <;> simp[h1,h2,h3,h4,h5,letter]
 all_goals exact .keep (by simp[h1,h2,h3,h4,h5]) (.refl _) (by simp) (by simp) (by simp) (by simp)
theorem digit_ok {W0 nb c}:DCalls ⟨Tryz.prog,W0,nb⟩ 105 [u8 c] [] (.p (.bool (digit c))) []:=by
 refine dcalls_end Tryz.func105 rfl (by kernel_rfl) 9 Tryz.ntmps105 #[.tmp 2] rfl (Nat.le_of_ble_eq_true rfl) ?_;simp;cases h1:decide (48≤(c.toNat:Int))<;> simp[h1,digit]
 all_goals exact .keep (by simp[h1]) (.refl _) (by simp) (by simp) (by simp) (by simp)
theorem in_ok {W0 nb xs s} (hl:xs.length < 1000000):DCalls ⟨Tryz.prog,W0,nb⟩ 157 [.p (.str s),.p (.sl 1 (rowsS xs))] [] (.p (.bool (isIn xs s))) []:=by
 refine dcalls_end Tryz.func157 rfl (by kernel_rfl) 18 Tryz.ntmps157 #[.tmp 4] rfl (Nat.le_of_ble_eq_true rfl) ?_;simp;refine⟨fun m st=>∃i,isIn (xs.drop i) s=isIn xs s∧m=xs.length - i∧i≤xs.length∧st.hp= []∧st.tm 0= .p (.str s)∧st.tm 1= .p (.sl 1 (rowsS xs))∧st.tm 5=i64 (i:Nat),xs.length,.here ⟨0,by simp,by simp,by simp,by simp,by simp,by simp,by simp⟩,?_⟩;rintro m ⟨tm,hp⟩ ⟨i,h,rfl,hi,h0,h1,h2,h4⟩;simp only at h0 h1 h2 h4;subst h0;have hrl:(rowsS xs).length=xs.length:=by simp[rowsS]
 simp[h1,h2,h4,hrl];rcases Nat.lt_or_ge i xs.length with hlt | hge
 ·have hg:(rowsS xs)[i]? =some [.str xs[i]]:=by simp[rowsS,hlt]
  have hd:xs.drop i=xs[i]::xs.drop (i + 1):=List.drop_eq_getElem_cons hlt;rw[hd]at h;simp only[isIn,List.any_cons]at h;have hw:=w64_id (n:=(i:Int)+ 1) (by omega) (by omega);simp only[w64]at hw;have he:(xs[i].toList==s.toList)=eqB s xs[i]:=by simp only[eqB];exact Bool.beq_comm
  simp[hlt,h1,h2,h4,hg,rowsS,he];cases hq:eqB s xs[i]with
  | true=>
   rw[hq,Bool.true_or]at h;rw[show isIn xs s=true from h.symm];simp;exact .kk
  | false=>
   rw[hq,Bool.false_or]at h;simp[h1,h2,h4];exact .same (xs.length -(i + 1)) (by omega) ⟨i + 1,h,rfl,by omega,by simp,by simp[h1],by simp[h2,rowsS],by simp[hw]⟩
 ·have:i=xs.length:=by omega
  subst this;rw[←h];simp[isIn];exact .kk
theorem op_ok {W0 nb s}:DCalls ⟨Tryz.prog,W0,nb⟩ 109 [.p (.str s)] [] (.p (.bool (isIn ops s))) []:=by
 refine dcalls_end Tryz.func109 rfl (by kernel_rfl) 6 Tryz.ntmps109 #[.tmp 2] rfl (Nat.le_of_ble_eq_true rfl) ?_;simp[takes,handsOn,isTmp,Op.operands,Call.operands];refine CallGoal.intro (in_ok (xs:=ops) (s:=s) (by decide)) (.cons (.refl _) (.cons (.fr _ _ _) .nil)) ?_;simp;exact .kk
theorem key_ok {W0 nb s}:DCalls ⟨Tryz.prog,W0,nb⟩ 108 [.p (.str s)] [] (.p (.bool (isIn keys s))) []:=by
 refine dcalls_end Tryz.func108 rfl (by kernel_rfl) 6 Tryz.ntmps108 #[.tmp 2] rfl (Nat.le_of_ble_eq_true rfl) ?_;simp[takes,handsOn,isTmp,Op.operands,Call.operands];refine CallGoal.intro (in_ok (xs:=keys) (s:=s) (by decide)) (.cons (.refl _) (.cons (.fr _ _ _) .nil)) ?_;simp;exact .kk
def operand (t:Tok):Bool:=t.kind==1 || t.kind==2 || t.kind==3 ||(t.kind==4&&t.text.toList== [41])
theorem operand_ok {W0 nb t}:DCalls ⟨Tryz.prog,W0,nb⟩ 156 [.agg ((encT t).map .p)] [] (.p (.bool (operand t))) []:=by
 refine dcalls_end Tryz.func156 rfl (by kernel_rfl) 26 Tryz.ntmps156 #[.tmp 2] rfl (Nat.le_of_ble_eq_true rfl) ?_;simp[encT,takes,handsOn,isTmp,Op.operands,Call.operands];cases h1:t.kind==1 <;> cases h2:t.kind==2 <;> cases h3:t.kind==3 <;> cases h4:t.kind==4 <;> simp[h1,h2,h3,h4,operand]
 all_goals exact .keep (by simp[h1,h2,h3,h4]) (.refl _) (by simp) (by simp) (by simp) (by simp)
theorem ends_eq (t:Tok):ends t=(operand t ||(t.kind==4&&t.text.toList== [125])||(t.kind==5&&isIn endK t.text)):=by
 have e:isIn endO t.text=(t.text.toList== [41] || t.text.toList== [125]):=by simp[isIn,endO,eqB]
 simp only[ends,operand,e];cases t.kind==1 <;> cases t.kind==2 <;> cases t.kind==3 <;> cases t.kind==4 <;> cases t.kind==5 <;> cases isIn endK t.text <;> cases t.text.toList== [41] <;> cases t.text.toList== [125] <;> rfl
theorem ends_ok {W0 nb t}:DCalls ⟨Tryz.prog,W0,nb⟩ 110 [.agg ((encT t).map .p)] [] (.p (.bool (ends t))) []:=by
 rw[ends_eq];refine dcalls_end Tryz.func110 rfl (by kernel_rfl) 26 Tryz.ntmps110 #[.tmp 2] rfl (Nat.le_of_ble_eq_true rfl) ?_;simp[encT,takes,handsOn,isTmp,Op.operands,Call.operands];refine CallGoal.same (operand_ok (t:=t)) ?_;simp;cases h1:operand t <;> cases h4:t.kind==4 <;> cases h6:t.text.toList== [125] <;> cases h5:t.kind==5 <;> simp[h1,h4,h5,h6]
 all_goals first
  | exact .keep (by simp[h1,h4,h5,h6]) (.refl _) (by simp) (by simp) (by simp) (by simp)
  | (refine CallGoal.intro (in_ok (xs := endK) (by decide)) (.cons (.refl _) (.cons (.fr _ _ _) .nil)) ?_
     simp[h1,h4,h5,h6]
     exact .keep (by simp[h1,h4,h5,h6]) (.refl _) (by simp) (by simp) (by simp) (by simp))
end Rs
end Go.Proofs.Dm
set_option maxHeartbeats 4000000
set_option maxRecDepth 100000
namespace Go.Proofs.Dm
open Go Go.Proofs Go.Proofs.Tryz
namespace Rs
open Sc
abbrev w32 (n:Int):Int:=IntKind.i32.wrap n
theorem w32_id {n:Int} (h0: -1073741824≤n) (h1:n < 1073741824):w32 n=n:=by
 simp only[w32,IntKind.wrap,IntKind.bits,IntKind.signed];simp;omega
def decL (s:ByteArray) (n:Nat):Nat→Nat→Int→Option Int
 | 0,_,r=>some r
 | k + 1,i,r=>if i < n then(match s[i]? with
  | some b=>if(b.toNat:Int)< 128∨191 <(b.toNat:Int)then none else decL s n k (i + 1) (r * 64 + b.toNat - 128)
  | none=>none)else some r
def decE (s:ByteArray) (n:Nat) (low r:Int):Int×Bool:=
 if(s.size:Int)< n then(1,false)else match decL s n 4 1 r with
 | some r=>if r < low∨1114111 < r∨(55296≤r∧r < 57344)then(1,false)else(n,true)
 | none=>(1,false)
def decR (s:ByteArray):Int×Bool:=match s[0]? with
 | none=>(1,false)
 | some c=>
  if(c.toNat:Int)< 128 then(1,true)
  else if 192≤(c.toNat:Int)∧(c.toNat:Int)< 224 then decE s 2 128 (c.toNat - 192)
  else if 224≤(c.toNat:Int)∧(c.toNat:Int)< 240 then decE s 3 2048 (c.toNat - 224)
  else if 240≤(c.toNat:Int)∧(c.toNat:Int)< 248 then decE s 4 65536 (c.toNat - 240)
  else(1,false)
theorem dec_tail {s:ByteArray} {n:Nat} {low r:Int} (b:UInt8) (h:¬((b.toNat:Int)< 128∨191 <(b.toNat:Int))) (h0:0≤r) (h1:r < 131072):w32 (r * 64)=r * 64∧w32 (r * 64 + b.toNat)=r * 64 + b.toNat∧w32 (r * 64 + b.toNat - 128)=r * 64 + b.toNat - 128:=
 ⟨w32_id (by omega) (by omega),w32_id (by omega) (by omega),w32_id (by omega) (by omega)⟩
def bnd:Nat→Int
 | 0=>0
 | 1=>32
 | 2=>2048
 | 3=>131072
 | _=>8388608
theorem decode_ok {W0 nb s} (hs:0 < s.size) (h3:s.size < 1099511627776):DCalls ⟨Tryz.prog,W0,nb⟩ 102 [.p (.str s)] [] (.tup [i64 (decR s).1,.p (.bool (decR s).2)]) []:=by
 have hg:s[0]? =some s[0]:=by simp
 obtain⟨R,hR⟩:∃R,decR s=R:=⟨_,rfl⟩
 rw[hR];simp only[decR,hg]at hR;refine dcalls_end Tryz.func102 rfl (by kernel_rfl) 87 Tryz.ntmps102 #[.tmp 2,.tmp 3] rfl (Nat.le_of_ble_eq_true rfl) ?_;simp[hs];generalize s[0]=c at *;have hcl:=c.toNat_lt;refine ifGoal_of (fun q=> ?_) (fun q=> ?_)
 ·rw[if_pos (by simpa using q)]at hR;subst hR;simp;exact .kk
 rw[if_neg (by simpa using q)]at hR
 by_cases q1:192≤(c.toNat:Int)∧(c.toNat:Int)< 224
 ·rw[if_pos q1]at hR;have hc:=w32_id (n:=(c.toNat:Int)) (by omega) (by omega);have hc2:=w32_id (n:=(c.toNat:Int)- 192) (by omega) (by omega);simp only[w32]at hc hc2;simp[q1.1,q1.2,hc,hc2];have hr0:0≤(c.toNat:Int)- 192:=by omega
  have hr1:(c.toNat:Int)- 192 < 32:=by omega
  generalize (c.toNat:Int)- 192=r0 at *;simp only[decE]at hR;obtain⟨D,hD⟩:∃D,decL s 2 4 1 r0=D:=⟨_,rfl⟩
  rw[hD]at hR;refine ifGoal_of (fun p=> ?_) (fun p=> ?_)
  ·rw[if_pos (by simpa using p)]at hR;subst hR;simp;exact .kk
  rw[if_neg (by simpa using p)]at hR;have hp:¬(s.size:Int)< 2:=by simpa using p
  simp;refine LoopGoal.cut (fun st=>∃r,D=some r∧0≤r∧r < 8388608 * 64∧st.hp= []∧st.tm 0= .p (.str s)∧st.tm 5=i64 2∧st.tm 6= .p (.int .i32 128)∧st.tm 7= .p (.int .i32 r)) ?_ ?_
  ·refine⟨fun k st=>∃(i:Nat) (r:Int),decL s 2 k i r=D∧k + i=5∧1≤i∧i≤2∧0≤r∧r < bnd i∧st.hp= []∧st.tm 0= .p (.str s)∧st.tm 5=i64 2∧st.tm 6= .p (.int .i32 128)∧st.tm 7= .p (.int .i32 r)∧st.tm 8=i64 (i:Nat),4,.here ⟨1,r0,hD,rfl,by omega,by omega,hr0,by simpa [bnd]using hr1,by simp,by simp,by simp,by simp,by simp,by simp⟩,?_⟩;rintro k ⟨tm,hp'⟩ ⟨i,r,h,hk,hi1,hi2,hb0,hb1,h0,g0,g5,g6,g7,g8⟩;simp only at h0 g0 g5 g6 g7 g8;subst h0;obtain⟨k,rfl⟩:∃k',k=k' + 1:=⟨k - 1,by omega⟩
   simp only[decL]at h;simp[g0,g5,g8]
   by_cases hin:i < 2
   ·have hlt:i < s.size:=by omega
    have hin':(i:Int)< 2:=by omega
    have hb:s[i]? =some s[i]:=by simp[hlt]
    have hw:=w64_id (n:=(i:Int)+ 1) (by omega) (by omega);simp only[w64]at hw;rw[if_pos hin,hb]at h;simp only at h;simp[hin',hlt,g0,g5,g6,g7,g8];have hbb:0≤r∧r < 131072:=by
     refine⟨hb0,?_⟩;rcases(show i=1∨i=2∨i=3 by omega)with rfl | rfl | rfl <;> simp[bnd]at hb1 <;> omega
    have hbn:∀b:Int,128≤b→b≤191→0≤r * 64 + b - 128∧r * 64 + b - 128 < bnd (i + 1):=by
     intro b b1 b2;rcases(show i=1∨i=2∨i=3 by omega)with rfl | rfl | rfl <;> simp[bnd]at hb1⊢ <;> omega
    generalize hgi:s[i]=b at *
    by_cases c1:(b.toNat:Int)< 128
    ·rw[if_pos (.inl c1)]at h;rw[←h]at hR;simp only at hR;subst hR;simp[c1];exact .kk
    ·by_cases c2:191 <(b.toNat:Int)
     ·rw[if_pos (.inr c2)]at h;rw[←h]at hR;simp only at hR;subst hR;simp[c1,c2,hlt,g0,g8,hgi];exact .kk
     ·rw[if_neg (by omega)]at h;obtain⟨z1,z2,z3⟩:=dec_tail (s:=s) (n:=2) (low:=0) b (by omega) hbb.1 hbb.2;have z0:=w32_id (n:=(b.toNat:Int)) (by omega) (by omega);simp only[w32]at z0 z1 z2 z3;simp[c1,c2,hlt,g0,g5,g6,g7,g8,hgi,z0,z1,z2,z3];have hbn2:=hbn b.toNat (by omega) (by omega);exact .same k (by omega) ⟨i + 1,_,h,by omega,by omega,by omega,hbn2.1,hbn2.2,by simp,by simp[g0],by simp[g5],by simp[g6],by simp,by simp[hw]⟩
   ·have hin':¬(i:Int)< 2:=by omega
    rw[if_neg hin]at h;simp[hin'];refine⟨r,h.symm,hb0,?_,?_⟩
    ·rcases(show i=1∨i=2∨i=3∨i=4 by omega)with rfl | rfl | rfl | rfl <;> simp[bnd]at hb1 <;> omega
    ·simp[g0,g5,g6,g7]
  ·rintro⟨tm,hp'⟩ ⟨r,h,hb0,hb1,h0,g0,g5,g6,g7⟩;simp only at h0 g0 g5 g6 g7;subst h0;rw[h]at hR;simp only at hR;simp[g0,g5,g6,g7]
   by_cases c1:r < 128
   ·rw[if_pos (.inl c1)]at hR;subst hR;simp[c1];exact .kk
   by_cases c2:1114111 < r
   ·rw[if_pos (.inr (.inl c2))]at hR;subst hR;simp[c1,c2,g7];exact .kk
   by_cases c3:55296≤r
   ·by_cases c4:r < 57344
    ·rw[if_pos (.inr (.inr ⟨c3,c4⟩))]at hR;subst hR;simp[c1,c2,c3,c4,g7];exact .kk
    ·rw[if_neg (by omega)]at hR;subst hR;simp[c1,c2,c3,c4,g5,g7];exact .kk
   ·rw[if_neg (by omega)]at hR;subst hR;simp[c1,c2,c3,g5,g7];exact .kk
 rw[if_neg q1]at hR;have q1':¬(192≤(c.toNat:Int))∨¬(c.toNat:Int)< 224:=by omega
 by_cases q2:224≤(c.toNat:Int)∧(c.toNat:Int)< 240
 ·rw[if_pos q2]at hR;have hc:=w32_id (n:=(c.toNat:Int)) (by omega) (by omega);have hc2:=w32_id (n:=(c.toNat:Int)- 224) (by omega) (by omega);simp only[w32]at hc hc2;simp[q2.1,q2.2,hc,hc2,show 192≤(c.toNat:Int)by omega,show ¬(c.toNat:Int)< 224 by omega];have hr0:0≤(c.toNat:Int)- 224:=by omega
  have hr1:(c.toNat:Int)- 224 < 32:=by omega
  generalize (c.toNat:Int)- 224=r0 at *;simp only[decE]at hR;obtain⟨D,hD⟩:∃D,decL s 3 4 1 r0=D:=⟨_,rfl⟩
  rw[hD]at hR;refine ifGoal_of (fun p=> ?_) (fun p=> ?_)
  ·rw[if_pos (by simpa using p)]at hR;subst hR;simp;exact .kk
  rw[if_neg (by simpa using p)]at hR;have hp:¬(s.size:Int)< 3:=by simpa using p
  simp;refine LoopGoal.cut (fun st=>∃r,D=some r∧0≤r∧r < 8388608 * 64∧st.hp= []∧st.tm 0= .p (.str s)∧st.tm 5=i64 3∧st.tm 6= .p (.int .i32 2048)∧st.tm 7= .p (.int .i32 r)) ?_ ?_
  ·refine⟨fun k st=>∃(i:Nat) (r:Int),decL s 3 k i r=D∧k + i=5∧1≤i∧i≤3∧0≤r∧r < bnd i∧st.hp= []∧st.tm 0= .p (.str s)∧st.tm 5=i64 3∧st.tm 6= .p (.int .i32 2048)∧st.tm 7= .p (.int .i32 r)∧st.tm 8=i64 (i:Nat),4,.here ⟨1,r0,hD,rfl,by omega,by omega,hr0,by simpa [bnd]using hr1,by simp,by simp,by simp,by simp,by simp,by simp⟩,?_⟩;rintro k ⟨tm,hp'⟩ ⟨i,r,h,hk,hi1,hi2,hb0,hb1,h0,g0,g5,g6,g7,g8⟩;simp only at h0 g0 g5 g6 g7 g8;subst h0;obtain⟨k,rfl⟩:∃k',k=k' + 1:=⟨k - 1,by omega⟩
   simp only[decL]at h;simp[g0,g5,g8]
   by_cases hin:i < 3
   ·have hlt:i < s.size:=by omega
    have hin':(i:Int)< 3:=by omega
    have hb:s[i]? =some s[i]:=by simp[hlt]
    have hw:=w64_id (n:=(i:Int)+ 1) (by omega) (by omega);simp only[w64]at hw;rw[if_pos hin,hb]at h;simp only at h;simp[hin',hlt,g0,g5,g6,g7,g8];have hbb:0≤r∧r < 131072:=by
     refine⟨hb0,?_⟩;rcases(show i=1∨i=2∨i=3 by omega)with rfl | rfl | rfl <;> simp[bnd]at hb1 <;> omega
    have hbn:∀b:Int,128≤b→b≤191→0≤r * 64 + b - 128∧r * 64 + b - 128 < bnd (i + 1):=by
     intro b b1 b2;rcases(show i=1∨i=2∨i=3 by omega)with rfl | rfl | rfl <;> simp[bnd]at hb1⊢ <;> omega
    generalize hgi:s[i]=b at *
    by_cases c1:(b.toNat:Int)< 128
    ·rw[if_pos (.inl c1)]at h;rw[←h]at hR;simp only at hR;subst hR;simp[c1];exact .kk
    ·by_cases c2:191 <(b.toNat:Int)
     ·rw[if_pos (.inr c2)]at h;rw[←h]at hR;simp only at hR;subst hR;simp[c1,c2,hlt,g0,g8,hgi];exact .kk
     ·rw[if_neg (by omega)]at h;obtain⟨z1,z2,z3⟩:=dec_tail (s:=s) (n:=3) (low:=0) b (by omega) hbb.1 hbb.2;have z0:=w32_id (n:=(b.toNat:Int)) (by omega) (by omega);simp only[w32]at z0 z1 z2 z3;simp[c1,c2,hlt,g0,g5,g6,g7,g8,hgi,z0,z1,z2,z3];have hbn2:=hbn b.toNat (by omega) (by omega);exact .same k (by omega) ⟨i + 1,_,h,by omega,by omega,by omega,hbn2.1,hbn2.2,by simp,by simp[g0],by simp[g5],by simp[g6],by simp,by simp[hw]⟩
   ·have hin':¬(i:Int)< 3:=by omega
    rw[if_neg hin]at h;simp[hin'];refine⟨r,h.symm,hb0,?_,?_⟩
    ·rcases(show i=1∨i=2∨i=3∨i=4 by omega)with rfl | rfl | rfl | rfl <;> simp[bnd]at hb1 <;> omega
    ·simp[g0,g5,g6,g7]
  ·rintro⟨tm,hp'⟩ ⟨r,h,hb0,hb1,h0,g0,g5,g6,g7⟩;simp only at h0 g0 g5 g6 g7;subst h0;rw[h]at hR;simp only at hR;simp[g0,g5,g6,g7]
   by_cases c1:r < 2048
   ·rw[if_pos (.inl c1)]at hR;subst hR;simp[c1];exact .kk
   by_cases c2:1114111 < r
   ·rw[if_pos (.inr (.inl c2))]at hR;subst hR;simp[c1,c2,g7];exact .kk
   by_cases c3:55296≤r
   ·by_cases c4:r < 57344
    ·rw[if_pos (.inr (.inr ⟨c3,c4⟩))]at hR;subst hR;simp[c1,c2,c3,c4,g7];exact .kk
    ·rw[if_neg (by omega)]at hR;subst hR;simp[c1,c2,c3,c4,g5,g7];exact .kk
   ·rw[if_neg (by omega)]at hR;subst hR;simp[c1,c2,c3,g5,g7];exact .kk
 rw[if_neg q2]at hR
 by_cases q3:240≤(c.toNat:Int)∧(c.toNat:Int)< 248
 ·rw[if_pos q3]at hR;have hc:=w32_id (n:=(c.toNat:Int)) (by omega) (by omega);have hc2:=w32_id (n:=(c.toNat:Int)- 240) (by omega) (by omega);simp only[w32]at hc hc2;simp[q3.1,q3.2,hc,hc2,show 192≤(c.toNat:Int)by omega,show ¬(c.toNat:Int)< 224 by omega,show 224≤(c.toNat:Int)by omega,show ¬(c.toNat:Int)< 240 by omega];have hr0:0≤(c.toNat:Int)- 240:=by omega
  have hr1:(c.toNat:Int)- 240 < 32:=by omega
  generalize (c.toNat:Int)- 240=r0 at *;simp only[decE]at hR;obtain⟨D,hD⟩:∃D,decL s 4 4 1 r0=D:=⟨_,rfl⟩
  rw[hD]at hR;refine ifGoal_of (fun p=> ?_) (fun p=> ?_)
  ·rw[if_pos (by simpa using p)]at hR;subst hR;simp;exact .kk
  rw[if_neg (by simpa using p)]at hR;have hp:¬(s.size:Int)< 4:=by simpa using p
  simp;refine LoopGoal.cut (fun st=>∃r,D=some r∧0≤r∧r < 8388608 * 64∧st.hp= []∧st.tm 0= .p (.str s)∧st.tm 5=i64 4∧st.tm 6= .p (.int .i32 65536)∧st.tm 7= .p (.int .i32 r)) ?_ ?_
  ·refine⟨fun k st=>∃(i:Nat) (r:Int),decL s 4 k i r=D∧k + i=5∧1≤i∧i≤4∧0≤r∧r < bnd i∧st.hp= []∧st.tm 0= .p (.str s)∧st.tm 5=i64 4∧st.tm 6= .p (.int .i32 65536)∧st.tm 7= .p (.int .i32 r)∧st.tm 8=i64 (i:Nat),4,.here ⟨1,r0,hD,rfl,by omega,by omega,hr0,by simpa [bnd]using hr1,by simp,by simp,by simp,by simp,by simp,by simp⟩,?_⟩;rintro k ⟨tm,hp'⟩ ⟨i,r,h,hk,hi1,hi2,hb0,hb1,h0,g0,g5,g6,g7,g8⟩;simp only at h0 g0 g5 g6 g7 g8;subst h0;obtain⟨k,rfl⟩:∃k',k=k' + 1:=⟨k - 1,by omega⟩
   simp only[decL]at h;simp[g0,g5,g8]
   by_cases hin:i < 4
   ·have hlt:i < s.size:=by omega
    have hin':(i:Int)< 4:=by omega
    have hb:s[i]? =some s[i]:=by simp[hlt]
    have hw:=w64_id (n:=(i:Int)+ 1) (by omega) (by omega);simp only[w64]at hw;rw[if_pos hin,hb]at h;simp only at h;simp[hin',hlt,g0,g5,g6,g7,g8];have hbb:0≤r∧r < 131072:=by
     refine⟨hb0,?_⟩;rcases(show i=1∨i=2∨i=3 by omega)with rfl | rfl | rfl <;> simp[bnd]at hb1 <;> omega
    have hbn:∀b:Int,128≤b→b≤191→0≤r * 64 + b - 128∧r * 64 + b - 128 < bnd (i + 1):=by
     intro b b1 b2;rcases(show i=1∨i=2∨i=3 by omega)with rfl | rfl | rfl <;> simp[bnd]at hb1⊢ <;> omega
    generalize hgi:s[i]=b at *
    by_cases c1:(b.toNat:Int)< 128
    ·rw[if_pos (.inl c1)]at h;rw[←h]at hR;simp only at hR;subst hR;simp[c1];exact .kk
    ·by_cases c2:191 <(b.toNat:Int)
     ·rw[if_pos (.inr c2)]at h;rw[←h]at hR;simp only at hR;subst hR;simp[c1,c2,hlt,g0,g8,hgi];exact .kk
     ·rw[if_neg (by omega)]at h;obtain⟨z1,z2,z3⟩:=dec_tail (s:=s) (n:=4) (low:=0) b (by omega) hbb.1 hbb.2;have z0:=w32_id (n:=(b.toNat:Int)) (by omega) (by omega);simp only[w32]at z0 z1 z2 z3;simp[c1,c2,hlt,g0,g5,g6,g7,g8,hgi,z0,z1,z2,z3];have hbn2:=hbn b.toNat (by omega) (by omega);exact .same k (by omega) ⟨i + 1,_,h,by omega,by omega,by omega,hbn2.1,hbn2.2,by simp,by simp[g0],by simp[g5],by simp[g6],by simp,by simp[hw]⟩
   ·have hin':¬(i:Int)< 4:=by omega
    rw[if_neg hin]at h;simp[hin'];refine⟨r,h.symm,hb0,?_,?_⟩
    ·rcases(show i=1∨i=2∨i=3∨i=4 by omega)with rfl | rfl | rfl | rfl <;> simp[bnd]at hb1 <;> omega
    ·simp[g0,g5,g6,g7]
  ·rintro⟨tm,hp'⟩ ⟨r,h,hb0,hb1,h0,g0,g5,g6,g7⟩;simp only at h0 g0 g5 g6 g7;subst h0;rw[h]at hR;simp only at hR;simp[g0,g5,g6,g7]
   by_cases c1:r < 65536
   ·rw[if_pos (.inl c1)]at hR;subst hR;simp[c1];exact .kk
   by_cases c2:1114111 < r
   ·rw[if_pos (.inr (.inl c2))]at hR;subst hR;simp[c1,c2,g7];exact .kk
   by_cases c3:55296≤r
   ·by_cases c4:r < 57344
    ·rw[if_pos (.inr (.inr ⟨c3,c4⟩))]at hR;subst hR;simp[c1,c2,c3,c4,g7];exact .kk
    ·rw[if_neg (by omega)]at hR;subst hR;simp[c1,c2,c3,c4,g5,g7];exact .kk
   ·rw[if_neg (by omega)]at hR;subst hR;simp[c1,c2,c3,g5,g7];exact .kk
 rw[if_neg q3]at hR;subst hR;have hq:¬(c.toNat:Int)< 128:=by simpa using q
 by_cases g1:192≤(c.toNat:Int)
 ·have g2:¬(c.toNat:Int)< 224:=by omega
  have g3:224≤(c.toNat:Int):=by omega
  have g4:¬(c.toNat:Int)< 240:=by omega
  have g5:240≤(c.toNat:Int):=by omega
  have g6:¬(c.toNat:Int)< 248:=by omega
  simp[g1,g2,g3,g4,g5,g6];exact .kk
 ·have g3:¬224≤(c.toNat:Int):=by omega
  have g5:¬240≤(c.toNat:Int):=by omega
  simp[g1,g3,g5];exact .kk
end Rs
end Go.Proofs.Dm
set_option maxHeartbeats 4000000
set_option maxRecDepth 100000
namespace Go.Proofs.Dm
open Go Go.Proofs Go.Proofs.Tryz
namespace Rs
open Sc
theorem get_if (t:ByteArray) (k:Nat):t[k]? =if k < t.size then some (t.get! k)else none:=by
 by_cases h:k < t.size
 ·rw[if_pos h];have:=Go.get_at t k h;rw[Nat.add_zero]at this;rw[this];simp[h]
 ·rw[if_neg h];simp;omega
theorem get!_none (t:ByteArray) (k:Nat) (h:t.size≤k):t.get! k=0:=by
 have:¬k < t.size:=by omega
 cases t with
 | mk d=>
  simp only[ByteArray.get!];rw[getElem!_neg]
  ·rfl
  ·have:d.size≤k:=h;omega
theorem get!_extract (s:ByteArray) (i k:Nat):(s.extract i s.size).get! k=s.get! (i + k):=by
 have hz:(s.extract i s.size).size=s.size - i:=by simp
 have h1:=get_if (s.extract i s.size) k;have h2:=get_if s (i + k)
 by_cases h:i + k < s.size
 ·rw[if_pos h]at h2;rw[if_pos (by omega)]at h1;have:(s.extract i s.size)[k]? =s[i + k]? :=by
   rw[ba_get,ba_get,ext_list,List.getElem?_take_of_lt (by omega),List.getElem?_drop]
  rw[this,h2]at h1;exact(Option.some.inj h1).symm
 ·rw[get!_none _ _ (by omega),get!_none _ _ (by omega)]
def dN (t:ByteArray):Nat×Nat:=Lib.decodeN t.size (t.get! 0).toNat (t.get! 1).toNat (t.get! 2).toNat (t.get! 3).toNat
def fin (n:Nat) (low r:Int):Int×Bool:=if r < low∨1114111 < r∨(55296≤r∧r < 57344)then(1,false)else(n,true)
theorem decE2 (t:ByteArray) (low r:Int):decE t 2 low r=if t.size < 2 then(1,false)else if((t.get! 1).toNat:Int)< 128∨191 <((t.get! 1).toNat:Int)then(1,false)else fin 2 low (r * 64 +(t.get! 1).toNat - 128):=by
 by_cases h:t.size < 2
 ·have h':(t.size:Int)< 2:=by omega
  simp[decE,h,h']
 ·have h':¬(t.size:Int)< 2:=by omega
  have h1:1 < t.size:=by omega
  simp only[decE,decL,get_if,Nat.reduceAdd,Nat.reduceLT,if_true,if_pos h1,if_neg h,Nat.lt_irrefl,if_false];rw[if_neg (by simpa using h')]
  by_cases c:((t.get! 1).toNat:Int)< 128∨191 <((t.get! 1).toNat:Int)
  ·simp only[if_pos c]
  ·simp only[if_neg c,fin]
theorem decE3 (t:ByteArray) (low r:Int):decE t 3 low r=if t.size < 3 then(1,false)else if((t.get! 1).toNat:Int)< 128∨191 <((t.get! 1).toNat:Int)then(1,false)else if((t.get! 2).toNat:Int)< 128∨191 <((t.get! 2).toNat:Int)then(1,false)else fin 3 low ((r * 64 +(t.get! 1).toNat - 128)* 64 +(t.get! 2).toNat - 128):=by
 by_cases h:t.size < 3
 ·have h':(t.size:Int)< 3:=by omega
  simp[decE,h,h']
 ·have h':¬(t.size:Int)< 3:=by omega
  have h1:1 < t.size:=by omega
  have h2:2 < t.size:=by omega
  simp only[decE,decL,get_if,Nat.reduceAdd,Nat.reduceLT,if_true,if_pos h1,if_pos h2,if_neg h,Nat.lt_irrefl,if_false];rw[if_neg (by simpa using h')]
  by_cases c:((t.get! 1).toNat:Int)< 128∨191 <((t.get! 1).toNat:Int)
  ·simp only[if_pos c]
  ·simp only[if_neg c]
   by_cases c2:((t.get! 2).toNat:Int)< 128∨191 <((t.get! 2).toNat:Int)
   ·simp only[if_pos c2]
   ·simp only[if_neg c2,fin]
theorem decE4 (t:ByteArray) (low r:Int):decE t 4 low r=if t.size < 4 then(1,false)else if((t.get! 1).toNat:Int)< 128∨191 <((t.get! 1).toNat:Int)then(1,false)else if((t.get! 2).toNat:Int)< 128∨191 <((t.get! 2).toNat:Int)then(1,false)else if((t.get! 3).toNat:Int)< 128∨191 <((t.get! 3).toNat:Int)then(1,false)else fin 4 low (((r * 64 +(t.get! 1).toNat - 128)* 64 +(t.get! 2).toNat - 128)* 64 +(t.get! 3).toNat - 128):=by
 by_cases h:t.size < 4
 ·have h':(t.size:Int)< 4:=by omega
  simp[decE,h,h']
 ·have h':¬(t.size:Int)< 4:=by omega
  have h1:1 < t.size:=by omega
  have h2:2 < t.size:=by omega
  have h3:3 < t.size:=by omega
  simp only[decE,decL,get_if,Nat.reduceAdd,Nat.reduceLT,if_true,if_pos h1,if_pos h2,if_pos h3,if_neg h,Nat.lt_irrefl,if_false];rw[if_neg (by simpa using h')]
  by_cases c:((t.get! 1).toNat:Int)< 128∨191 <((t.get! 1).toNat:Int)
  ·simp only[if_pos c]
  ·simp only[if_neg c]
   by_cases c2:((t.get! 2).toNat:Int)< 128∨191 <((t.get! 2).toNat:Int)
   ·simp only[if_pos c2]
   ·simp only[if_neg c2]
    by_cases c3:((t.get! 3).toNat:Int)< 128∨191 <((t.get! 3).toNat:Int)
    ·simp only[if_pos c3]
    ·simp only[if_neg c3,fin]
def decN (n b0 b1 b2 b3:Nat):Int×Bool:=
 if(b0:Int)< 128 then(1,true)
 else if 192≤(b0:Int)∧(b0:Int)< 224 then(if n < 2 then(1,false)else if(b1:Int)< 128∨191 <(b1:Int)then(1,false)else fin 2 128 (((b0:Int)- 192)* 64 + b1 - 128))
 else if 224≤(b0:Int)∧(b0:Int)< 240 then(if n < 3 then(1,false)else if(b1:Int)< 128∨191 <(b1:Int)then(1,false)else if(b2:Int)< 128∨191 <(b2:Int)then(1,false)else fin 3 2048 ((((b0:Int)- 224)* 64 + b1 - 128)* 64 + b2 - 128))
 else if 240≤(b0:Int)∧(b0:Int)< 248 then(if n < 4 then(1,false)else if(b1:Int)< 128∨191 <(b1:Int)then(1,false)else if(b2:Int)< 128∨191 <(b2:Int)then(1,false)else if(b3:Int)< 128∨191 <(b3:Int)then(1,false)else fin 4 65536 (((((b0:Int)- 240)* 64 + b1 - 128)* 64 + b2 - 128)* 64 + b3 - 128))
 else(1,false)
theorem fin_eq (n:Nat) (low r:Int) (R:Nat) (hn:n≠1) (hr:(R:Int)=r) (hlow:0≤low) (c:Prop) [Decidable c] (hc:c↔¬(r < low∨1114111 < r∨(55296≤r∧r < 57344))):
  fin n low r=(((if c then(R,n)else(65533,1)).2:Int),!(decide ((if c then(R,n)else(65533,1)).1=65533)&&decide ((if c then(R,n)else(65533,1)).2=1))):=by
 unfold fin
 by_cases h:r < low∨1114111 < r∨(55296≤r∧r < 57344)
 ·have:¬c:=fun q=>(hc.1 q) h
  rw[if_pos h,if_neg this];rfl
 ·have:c:=hc.2 h;rw[if_neg h,if_pos this];simp[hn]
theorem decN_eq (n b0 b1 b2 b3:Nat) (h0:0 < n) (l0:b0 < 256) (l1:b1 < 256) (l2:b2 < 256) (l3:b3 < 256):
  decN n b0 b1 b2 b3=(((Lib.decodeN n b0 b1 b2 b3).2:Int),!(decide ((Lib.decodeN n b0 b1 b2 b3).1=65533)&&decide ((Lib.decodeN n b0 b1 b2 b3).2=1))):=by
 unfold decN Lib.decodeN
 by_cases q:b0 < 128
 ·rw[if_pos (by omega),if_pos q];simp;omega
 rw[if_neg (by omega),if_neg q]
 by_cases q1:192≤b0∧b0 < 224
 ·rw[if_pos (by omega)]
  by_cases c:1 < n∧b1 / 64=2
  ·rw[if_neg (by omega),if_neg (by omega),if_pos ⟨by omega,c⟩];exact fin_eq 2 128 _ _ (by decide) (by omega) (by decide) _ (by constructor <;> intro h <;> omega)
  ·rw[if_neg (show ¬(b0 / 32=6∧1 < n∧b1 / 64=2)from fun h=>c h.2),if_neg (show ¬(b0 / 16=14∧_)from fun h=>by omega),if_neg (show ¬(b0 / 8=30∧_)from fun h=>by omega)]
   by_cases c1:n < 2
   ·rw[if_pos c1];rfl
   ·rw[if_neg c1,if_pos (by omega)];rfl
 rw[if_neg (by omega),if_neg (show ¬(b0 / 32=6∧_)from fun h=>by omega)]
 by_cases q2:224≤b0∧b0 < 240
 ·rw[if_pos (by omega)]
  by_cases c:(1 < n∧b1 / 64=2)∧(2 < n∧b2 / 64=2)
  ·rw[if_neg (by omega),if_neg (by omega),if_neg (by omega),if_pos ⟨by omega,c⟩];exact fin_eq 3 2048 _ _ (by decide) (by omega) (by decide) _ (by constructor <;> intro h <;> omega)
  ·rw[if_neg (show ¬(b0 / 16=14∧(1 < n∧b1 / 64=2)∧(2 < n∧b2 / 64=2))from fun h=>c h.2),if_neg (show ¬(b0 / 8=30∧_)from fun h=>by omega)]
   by_cases c1:n < 3
   ·rw[if_pos c1];rfl
   ·rw[if_neg c1]
    by_cases c2:(b1:Int)< 128∨191 <(b1:Int)
    ·rw[if_pos c2];rfl
    ·rw[if_neg c2,if_pos (by omega)];rfl
 rw[if_neg (by omega),if_neg (show ¬(b0 / 16=14∧_)from fun h=>by omega)]
 by_cases q3:240≤b0∧b0 < 248
 ·rw[if_pos (by omega)]
  by_cases c:(1 < n∧b1 / 64=2)∧(2 < n∧b2 / 64=2)∧(3 < n∧b3 / 64=2)
  ·rw[if_neg (by omega),if_neg (by omega),if_neg (by omega),if_neg (by omega),if_pos ⟨by omega,c⟩];exact fin_eq 4 65536 _ _ (by decide) (by omega) (by decide) _ (by constructor <;> intro h <;> omega)
  ·rw[if_neg (show ¬(b0 / 8=30∧(1 < n∧b1 / 64=2)∧(2 < n∧b2 / 64=2)∧(3 < n∧b3 / 64=2))from fun h=>c h.2)]
   by_cases c1:n < 4
   ·rw[if_pos c1];rfl
   ·rw[if_neg c1]
    by_cases c2:(b1:Int)< 128∨191 <(b1:Int)
    ·rw[if_pos c2];rfl
    ·rw[if_neg c2]
     by_cases c3:(b2:Int)< 128∨191 <(b2:Int)
     ·rw[if_pos c3];rfl
     ·rw[if_neg c3,if_pos (by omega)];rfl
 rw[if_neg (by omega),if_neg (show ¬(b0 / 8=30∧_)from fun h=>by omega)];rfl
theorem decR_eq (t:ByteArray) (h:0 < t.size):decR t=(((dN t).2:Int),!(decide ((dN t).1=65533)&&decide ((dN t).2=1))):=by
 rw[dN,←decN_eq _ _ _ _ _ h (UInt8.toNat_lt _) (UInt8.toNat_lt _) (UInt8.toNat_lt _) (UInt8.toNat_lt _)];simp only[decR,get_if,if_pos h,decE2,decE3,decE4,decN]
theorem decode_dN (s:ByteArray) (i:Nat):Utf8.decode s i=dN (s.extract i s.size):=by
 rw[Lib.decode_at,dN,get!_extract,get!_extract,get!_extract,get!_extract];have hz:(s.extract i s.size).size=s.size - i:=by simp
 rw[hz];rfl
theorem decodeGo_dN (t:ByteArray) (h:0 < t.size):Lib.decodeGo t=dN t:=by
 rw[Lib.decodeGo,if_neg (by omega),Lib.decode_at,dN,Nat.sub_zero]
def badR (s:ByteArray) (i:Nat):Bool:= !(decR (s.extract i s.size)).2 || s[i]?.any (fun c=>(decide ((c.toNat:Int)< 32)&&((c.toNat:Int) !=9)&&((c.toNat:Int) !=10))||((c.toNat:Int)==127))
theorem dN_lead (t:ByteArray):((t.get! 0).toNat < 128→dN t=((t.get! 0).toNat,1))∧(128≤(t.get! 0).toNat→128≤(dN t).1):=by
 constructor
 ·intro h;simp only[dN,Lib.decodeN,if_pos h]
 ·intro h;simp only[dN,Lib.decodeN];rw[if_neg (by omega)]
  repeat' split
  all_goals simp
  all_goals omega
theorem badR_eq (s:ByteArray) (i:Nat) (h:i < s.size):badR s i=badAt s i:=by
 have hz:(s.extract i s.size).size=s.size - i:=by simp
 have hg:s[i]? =some (s.get! i):=by rw[get_if,if_pos h]
 have h0:(s.extract i s.size).get! 0=s.get! i:=by rw[get!_extract,Nat.add_zero]
 simp only[badR,badAt,badN];rw[decode_dN,decodeGo_dN _ (by omega),decR_eq _ (by omega),hg];simp only[Option.any_some,Bool.not_not];obtain⟨l1,l2⟩:=dN_lead (s.extract i s.size);rw[h0]at l1 l2;generalize dN (s.extract i s.size)=d at *;generalize (s.get! i).toNat=c at *;rw[Bool.eq_iff_iff];simp only[Bool.or_eq_true,Bool.and_eq_true,decide_eq_true_eq,bne_iff_ne,beq_iff_eq,ne_eq]
 by_cases hc:c < 128
 ·rw[l1 hc];simp only;omega
 ·have:=l2 (by omega);omega
def faultR (s:ByteArray):Nat→Nat→Int
 | 0,_=> -1
 | n + 1,i=>if i < s.size then(if badR s i then(i:Int)else faultR s n (i +(decR (s.extract i s.size)).1.toNat))else -1
theorem faultR_eq (s:ByteArray):∀n i,faultR s n i=faultF s n i
 | 0,_=>rfl
 | n + 1,i=>by
  simp only[faultR,faultF]
  by_cases h:i < s.size
  ·have hz:(s.extract i s.size).size=s.size - i:=by simp
   rw[if_pos h,if_pos h,badR_eq s i h,faultR_eq s n,decR_eq _ (by omega),decode_dN];rfl
  ·rw[if_neg h,if_neg h]
theorem decR_pos (t:ByteArray) (h:0 < t.size):1≤(decR t).1∧(decR t).1≤4:=by
 rw[decR_eq t h];simp only[dN,Lib.decodeN]
 repeat' split
 all_goals simp
end Rs
end Go.Proofs.Dm
