/- Part of the proof: contracts of the functions, walked by the D-machine. No condition. -/
import Derived.Test.YtmlhdhpjcipcdaaGreatDoorLS1
set_option linter.unusedSimpArgs false
set_option linter.unusedVariables false
namespace Go.Proofs.Dm
open Go Go.Proofs Go.Proofs.Tryz
namespace Sc
theorem ifGoal_of {t:Bool} {a b:St→Prop} {s:St} (h1:t=true→a s) (h2:t=false→b s):IfGoal t a b s:=by
 cases t
 ·rw[IfGoal_false];exact h2 rfl
 ·rw[IfGoal_true];exact h1 rfl
def eqB (s t:ByteArray):Bool:=s.toList==t.toList
def ops:List ByteArray:= [⟨#[40]⟩,⟨#[41]⟩,⟨#[123]⟩,⟨#[125]⟩,⟨#[44]⟩,⟨#[46]⟩,⟨#[58]⟩,⟨#[58,61]⟩,⟨#[61]⟩,⟨#[61,61]⟩,⟨#[33,61]⟩,⟨#[60]⟩,⟨#[43]⟩,⟨#[45]⟩,⟨#[42]⟩,⟨#[33]⟩,⟨#[38,38]⟩,⟨#[124,124]⟩]
def keys:List ByteArray:= [⟨#[112,97,99,107,97,103,101]⟩,⟨#[105,109,112,111,114,116]⟩,⟨#[118,97,114]⟩,⟨#[99,111,110,115,116]⟩,⟨#[116,121,112,101]⟩,⟨#[115,116,114,117,99,116]⟩,⟨#[102,117,110,99]⟩,⟨#[105,102]⟩,⟨#[101,108,115,101]⟩,⟨#[102,111,114]⟩,⟨#[114,101,116,117,114,110]⟩,⟨#[98,114,101,97,107]⟩,⟨#[99,111,110,116,105,110,117,101]⟩]
def isIn (xs:List ByteArray) (s:ByteArray):Bool:=xs.any fun x=>eqB s x
def idxS (s:ByteArray):List ByteArray→Nat→Int
 | [],_=> -1
 | x::xs,i=>if eqB s x then(i:Int)else idxS s xs (i + 1)
theorem idxS_ge (s:ByteArray):∀(xs:List ByteArray) (i:Nat),decide (0≤idxS s xs i)=isIn xs s
 | [],i=>by simp[idxS,isIn]
 | x::xs,i=>by
  simp only[idxS,isIn,List.any_cons]
  by_cases h:eqB s x=true
  ·simp[h]
  ·have:=idxS_ge s xs (i + 1);simp only[isIn]at this;simp[h,this]
def rowsS (xs:List ByteArray):List (List PD):=xs.map fun x=> [.str x]
theorem index_ok {W0 nb xs s} (hl:xs.length < 1000000):DCalls ⟨Tryz.prog,W0,nb⟩ 210 [.p (.sl 1 (rowsS xs)),.p (.str s)] [] (i64 (idxS s xs 0)) []:=by
 refine dcalls_end Tryz.func210 rfl (by kernel_rfl) 19 Tryz.ntmps210 #[.tmp 4] rfl (Nat.le_of_ble_eq_true rfl) ?_;simp;refine⟨fun m st=>∃i,idxS s (xs.drop i) i=idxS s xs 0∧m=xs.length - i∧i≤xs.length∧st.hp= []∧st.tm 0= .p (.sl 1 (rowsS xs))∧st.tm 1= .p (.str s)∧st.tm 7=i64 xs.length∧st.tm 8=i64 (i:Nat),xs.length,.here ⟨0,by simp,by simp,by simp,by simp,by simp,by simp,by simp[rowsS],by simp⟩,?_⟩;rintro m ⟨tm,hp⟩ ⟨i,h,rfl,hi,h0,h1,h2,h3,h4⟩;simp only at h0 h1 h2 h3 h4;subst h0;simp[h3,h4];rcases Nat.lt_or_ge i xs.length with hlt | hge
 ·have hg:(rowsS xs)[i]? =some [.str xs[i]]:=by simp[rowsS,hlt]
  have hd:xs.drop i=xs[i]::xs.drop (i + 1):=List.drop_eq_getElem_cons hlt;rw[hd]at h;simp only[idxS]at h;have hw:=w64_id (n:=(i:Int)+ 1) (by omega) (by omega);simp only[w64]at hw;simp[hlt,h1,h2,h3,h4,hg,rowsS];cases hq:eqB s xs[i]with
  | true=>
   rw[hq,if_pos rfl]at h;simp only[eqB]at hq;simp[hq];rw[←h];exact .kk
  | false=>
   rw[hq]at h;simp only[Bool.false_eq_true,if_false]at h;simp only[eqB]at hq;simp[hq,h4];exact .same (xs.length -(i + 1)) (by omega) ⟨i + 1,h,rfl,by omega,by simp,by simp[h1,rowsS],by simp[h2],by simp[h3],by simp[hw]⟩
 ·have hn:¬(i:Int)< xs.length:=by omega
  have:i=xs.length:=by omega
  subst this;simp[idxS]at h;simp[←h];exact .kk
theorem contains_ok {W0 nb xs s} (hl:xs.length < 1000000):DCalls ⟨Tryz.prog,W0,nb⟩ 188 [.p (.sl 1 (rowsS xs)),.p (.str s)] [] (.p (.bool (isIn xs s))) []:=by
 refine dcalls_end Tryz.func188 rfl (by kernel_rfl) 9 Tryz.ntmps188 #[.tmp 4] rfl (Nat.le_of_ble_eq_true rfl) ?_;simp;refine CallGoal.same (index_ok hl) ?_;simp[idxS_ge];exact .kk
theorem isOp_ok {W0 nb s}:DCalls ⟨Tryz.prog,W0,nb⟩ 180 [.p (.str s)] [] (.p (.bool (isIn ops s))) []:=by
 refine dcalls_end Tryz.func180 rfl (by kernel_rfl) 6 Tryz.ntmps180 #[.tmp 2] rfl (Nat.le_of_ble_eq_true rfl) ?_;simp[takes,handsOn,isTmp,Op.operands,Call.operands];refine CallGoal.intro (contains_ok (xs:=ops) (s:=s) (by decide)) (.cons (.fr _ _ _) (.cons (.refl _) .nil)) ?_;simp;exact .kk
def isKind (t:Tok) (xs:List ByteArray):Bool:=t.kind==4&&isIn xs t.text
theorem is_ok {W0 nb t xs} (hl:xs.length < 1000000):DCalls ⟨Tryz.prog,W0,nb⟩ 153 [.agg ((encT t).map .p),.p (.sl 1 (rowsS xs))] [] (.p (.bool (isKind t xs))) []:=by
 refine dcalls_end Tryz.func153 rfl (by kernel_rfl) 14 Tryz.ntmps153 #[.tmp 4] rfl (Nat.le_of_ble_eq_true rfl) ?_;simp[encT];cases h1:t.kind==4 with
 | true=>
  simp[h1];refine CallGoal.same (contains_ok hl) ?_;simp[isKind,h1];exact .kk
 | false=>
  simp[h1,isKind];exact .kk
def endK:List ByteArray:= [⟨#[114,101,116,117,114,110]⟩,⟨#[98,114,101,97,107]⟩,⟨#[99,111,110,116,105,110,117,101]⟩]
def endO:List ByteArray:= [⟨#[41]⟩,⟨#[125]⟩]
def ends (t:Tok):Bool:=t.kind==1 || t.kind==2 || t.kind==3 ||(t.kind==5&&isIn endK t.text)||(t.kind==4&&isIn endO t.text)
theorem ends_ok {W0 nb t}:DCalls ⟨Tryz.prog,W0,nb⟩ 147 [.agg ((encT t).map .p)] [] (.p (.bool (ends t))) []:=by
 refine dcalls_end Tryz.func147 rfl (by kernel_rfl) 27 Tryz.ntmps147 #[.tmp 2] rfl (Nat.le_of_ble_eq_true rfl) ?_;simp[encT];refine ifGoal_of (fun h1=> ?_) (fun h1=> ?_)
 ·simp[ends,h1];exact .kk
 simp;refine ifGoal_of (fun h2=> ?_) (fun h2=> ?_)
 ·simp[ends,h2];exact .kk
 simp;refine ifGoal_of (fun h3=> ?_) (fun h3=> ?_)
 ·simp[ends,h3];exact .kk
 simp;refine ifGoal_of (fun h5=> ?_) (fun h5=> ?_)
 ·have h4:(t.kind==4)=false:=by
   rw[beq_iff_eq]at h5;rw[h5];rfl
  simp;cases g1:t.text.toList== [114,101,116,117,114,110] <;> cases g2:t.text.toList== [98,114,101,97,107] <;> simp[g1,g2,ends,h1,h2,h3,h4,h5,isIn,endK,eqB]
  all_goals first
   | exact .keep (by simp[g1,g2]) (.refl _) (by simp) (by simp) (by simp) (by simp)
   | exact .keep (by simp[g1,g2,ends,h1,h2,h3,h4,h5,isIn,endK,eqB];try rfl) (.refl _) (by simp) (by simp) (by simp) (by simp)
 ·simp[takes,handsOn,isTmp,Op.operands,Call.operands];refine CallGoal.intro (is_ok (t:=t) (xs:=endO) (by decide)) (.cons (.refl _) (.cons (.fr _ _ _) .nil)) ?_;simp[ends,h1,h2,h3,h5,isKind];exact .kk
theorem key_ok {W0 nb s}:DCalls ⟨Tryz.prog,W0,nb⟩ 178 [.p (.str s)] [] (.p (.bool (isIn keys s))) []:=by
 refine dcalls_end Tryz.func178 rfl (by kernel_rfl) 18 Tryz.ntmps178 #[.tmp 2] rfl (Nat.le_of_ble_eq_true rfl) ?_;simp;cases h0:s.toList== [112,97,99,107,97,103,101]
 rotate_left
 ·have hb:isIn keys s=true:=by simp[isIn,keys,eqB,beq_iff_eq.1 h0]
  rw[hb];simp;exact .kk
 simp;cases h1:s.toList== [105,109,112,111,114,116]
 rotate_left
 ·have hb:isIn keys s=true:=by simp[isIn,keys,eqB,beq_iff_eq.1 h1]
  rw[hb];simp;exact .kk
 simp;cases h2:s.toList== [118,97,114]
 rotate_left
 ·have hb:isIn keys s=true:=by simp[isIn,keys,eqB,beq_iff_eq.1 h2]
  rw[hb];simp;exact .kk
 simp;cases h3:s.toList== [99,111,110,115,116]
 rotate_left
 ·have hb:isIn keys s=true:=by simp[isIn,keys,eqB,beq_iff_eq.1 h3]
  rw[hb];simp;exact .kk
 simp;cases h4:s.toList== [116,121,112,101]
 rotate_left
 ·have hb:isIn keys s=true:=by simp[isIn,keys,eqB,beq_iff_eq.1 h4]
  rw[hb];simp;exact .kk
 simp;cases h5:s.toList== [115,116,114,117,99,116]
 rotate_left
 ·have hb:isIn keys s=true:=by simp[isIn,keys,eqB,beq_iff_eq.1 h5]
  rw[hb];simp;exact .kk
 simp;cases h6:s.toList== [102,117,110,99]
 rotate_left
 ·have hb:isIn keys s=true:=by simp[isIn,keys,eqB,beq_iff_eq.1 h6]
  rw[hb];simp;exact .kk
 simp;cases h7:s.toList== [105,102]
 rotate_left
 ·have hb:isIn keys s=true:=by simp[isIn,keys,eqB,beq_iff_eq.1 h7]
  rw[hb];simp;exact .kk
 simp;cases h8:s.toList== [101,108,115,101]
 rotate_left
 ·have hb:isIn keys s=true:=by simp[isIn,keys,eqB,beq_iff_eq.1 h8]
  rw[hb];simp;exact .kk
 simp;cases h9:s.toList== [102,111,114]
 rotate_left
 ·have hb:isIn keys s=true:=by simp[isIn,keys,eqB,beq_iff_eq.1 h9]
  rw[hb];simp;exact .kk
 simp;cases h10:s.toList== [114,101,116,117,114,110]
 rotate_left
 ·have hb:isIn keys s=true:=by simp[isIn,keys,eqB,beq_iff_eq.1 h10]
  rw[hb];simp;exact .kk
 simp;cases h11:s.toList== [98,114,101,97,107]
 rotate_left
 ·have hb:isIn keys s=true:=by simp[isIn,keys,eqB,beq_iff_eq.1 h11]
  rw[hb];simp;exact .kk
 simp;cases h12:s.toList== [99,111,110,116,105,110,117,101]
 rotate_left
 ·have hb:isIn keys s=true:=by simp[isIn,keys,eqB,beq_iff_eq.1 h12]
  rw[hb];simp;exact .kk
 simp;have hb:isIn keys s=false:=by simp[isIn,keys,eqB,beq_eq_false_iff_ne.1 h0,beq_eq_false_iff_ne.1 h1,beq_eq_false_iff_ne.1 h2,beq_eq_false_iff_ne.1 h3,beq_eq_false_iff_ne.1 h4,beq_eq_false_iff_ne.1 h5,beq_eq_false_iff_ne.1 h6,beq_eq_false_iff_ne.1 h7,beq_eq_false_iff_ne.1 h8,beq_eq_false_iff_ne.1 h9,beq_eq_false_iff_ne.1 h10,beq_eq_false_iff_ne.1 h11,beq_eq_false_iff_ne.1 h12]
 rw[hb];exact .kk
end Sc
end Go.Proofs.Dm
set_option maxHeartbeats 4000000
namespace Go.Proofs.Dm
open Go Go.Proofs Go.Proofs.Tryz
namespace Sc
structure SS where
 at_:Nat
 line:Nat
 l:List Tok
 c:List Com
def runTo (s:ByteArray) (p:UInt8→Bool):Nat→Nat→Nat
 | 0,i=>i
 | n + 1,i=>match s[i]? with
  | some b=>if p b then runTo s p n (i + 1)else i
  | none=>i
def stop (s:ByteArray) (p:UInt8→Bool) (i:Nat):Nat:=runTo s p (s.size - i) i
theorem stop_eq (s:ByteArray) (p:UInt8→Bool) (i:Nat):stop s p i=match s[i]? with
  | some b=>if p b then stop s p (i + 1)else i
  | none=>i:=by
 unfold stop;rcases Nat.lt_or_ge i s.size with h | h
 ·obtain⟨n,hn⟩:∃n,s.size - i=n + 1:=⟨s.size - i - 1,by omega⟩
  have e:s.size -(i + 1)=n:=by omega
  rw[hn,e];rfl
 ·have e:s.size - i=0:=by omega
  have:s[i]? =none:=by simp[h]
  rw[e,this];rfl
theorem runTo_le (s:ByteArray) (p:UInt8→Bool):∀n i,i≤s.size→i≤runTo s p n i∧runTo s p n i≤s.size
 | 0,i,h=>⟨Nat.le_refl _,h⟩
 | n + 1,i,h=>by
  simp only[runTo];split
  ·rename_i b hb;have hlt:i < s.size:=by
    rcases Nat.lt_or_ge i s.size with q | q
    ·exact q
    ·simp[q]at hb
   split
   ·have:=runTo_le s p n (i + 1) hlt;omega
   ·omega
  ·omega
theorem stop_le (s:ByteArray) (p:UInt8→Bool) (i:Nat) (h:i≤s.size):i≤stop s p i∧stop s p i≤s.size:=runTo_le s p _ i h
def add (s:ByteArray) (k:Int) (e:Nat) (x:SS):SS:={x with l:=x.l ++ [⟨k,s.extract x.at_ e,x.at_,x.line,false⟩],at_:=e}
def semi (x:SS):SS:=if x.l.getLast?.any ends then{x with l:=x.l ++ [⟨6,⟨#[59]⟩,x.at_,x.line,true⟩]}else x
def xbox (s:ByteArray) (x:SS) (f:Int):List DV:= [.p (.str s),i64 x.at_,i64 x.line,.own 42 5 (x.l.map encT),.own 45 4 (x.c.map encC),i64 f]
attribute [local simp] xbox takes handsOn isTmp Op.operands Call.operands
theorem least_ok {W0 nb s x f a}:DCalls ⟨Tryz.prog,W0,nb⟩ 87 [.ref 0 0,i64 a] [xbox s x f] (.tup []) [xbox s x (if 0≤a∧(f < 0∨a < f)then a else f)]:=by
 refine dcalls_end Tryz.func87 rfl (by kernel_rfl) 25 Tryz.ntmps87 #[] rfl (Nat.le_of_ble_eq_true rfl) ?_;simp;cases h1:decide (0≤a)<;> cases h2:decide (f < 0)<;> cases h3:decide (a < f)<;> simp only[decide_eq_true_eq,decide_eq_false_iff_not]at h1 h2 h3 <;> simp[h1,h2,h3]
 all_goals exact .keep (by simp[h1,h2,h3]) (.refl _) (by simp) (by simp[h1,h2,h3]) (by simp) (by simp)
theorem put_ok {W0 nb s x f k t} (hl:x.l.length < 1000000000):DCalls ⟨Tryz.prog,W0,nb⟩ 90 [.ref 0 0,i64 k,.p (.str t)] [xbox s x f] (.tup [])
  [[.p (.str s),i64 (w64 (x.at_ + t.size)),i64 x.line,.own 42 5 ((x.l ++ [(⟨k,t,x.at_,x.line,false⟩:Tok)]).map encT),.own 45 4 (x.c.map encC),i64 f]]:=by
 have ha1:(x.l.length + 1)* 48≤140737488355328:=by omega
 have ha2:x.l.length≤9223372036854775806:=by omega
 refine dcalls_end Tryz.func90 rfl (by kernel_rfl) 35 Tryz.ntmps90 #[] rfl (Nat.le_of_ble_eq_true rfl) ?_;simp;refine drawWp.intro [(5,6),(4,10),(4,14),(10,14)] [4,10,14,17] mixed (by kernel_rfl) (by kernel_rfl) (by kernel_rfl) ?_;simp[ha1,ha2];refine⟨by simp,by simp,?_⟩;simp;exact .keep (by simp[encT]) (.refl _) (by simp) (by simp[encT]) (by simp[encT]) (by simp[encT])
theorem putA_ok {W0 nb s x f k e} (h1:x.at_≤e) (h2:e≤s.size) (h3:s.size < 1099511627776) (hl:x.l.length < 1000000000):DCalls ⟨Tryz.prog,W0,nb⟩ 90 [.ref 0 0,i64 k,.p (.str (s.extract x.at_ e))] [xbox s x f] (.tup []) [xbox s (add s k e x) f]:=by
 have h:=put_ok (W0:=W0) (nb:=nb) (s:=s) (x:=x) (f:=f) (k:=k) (t:=s.extract x.at_ e) hl;have hz:(s.extract x.at_ e).size=e - x.at_:=by simp;omega
 rw[hz,w64_id (by omega) (by omega),show(x.at_:Int)+((e - x.at_:Nat):Int)=(e:Int)by omega]at h;exact h
theorem semi_ok {W0 nb s x f} (hl:x.l.length < 1000000000):DCalls ⟨Tryz.prog,W0,nb⟩ 89 [.ref 0 0] [xbox s x f] (.tup []) [xbox s (semi x) f]:=by
 refine dcalls_end Tryz.func89 rfl (by kernel_rfl) 39 Tryz.ntmps89 #[] rfl (Nat.le_of_ble_eq_true rfl) ?_;rcases List.eq_nil_or_concat x.l with h | ⟨l',t,h⟩
 ·have hs:semi x=x:=by simp[semi,h]
  rw[hs];simp[h];exact .keep (by simp[h]) (.refl _) (by simp) (by simp[h]) (by simp[h]) (by simp[h])
 ·rw[List.concat_eq_append]at h;obtain⟨a,li,l,c⟩:=x;simp only at h hl;subst h;have hw:=w64_id (n:=(l'.length:Int)) (by omega) (by simp at hl;omega);simp only[w64]at hw;simp[hw,encT];refine CallGoal.same (ends_ok (t:=t)) ?_;cases he:ends t with
  | true=>
   have hs:semi ⟨a,li,l' ++ [t],c⟩=⟨a,li,(l' ++ [t])++ [⟨6,⟨#[59]⟩,a,li,true⟩],c⟩:=by simp[semi,he]
   rw[hs];have ha1:(l'.length + 1 + 1)* 48≤140737488355328:=by simp at hl;omega
   have ha2:l'.length + 1≤9223372036854775806:=by simp at hl;omega
   have ha3:l'.length≤9223372036854775805:=by omega
   simp;refine drawWp.intro [(4,8),(4,12),(8,12)] [4,8,12,15] mixed (by kernel_rfl) (by kernel_rfl) (by kernel_rfl) ?_;simp[ha1,ha2,ha3];refine⟨by simp,by simp,?_⟩;simp;exact .keep (by simp[encT]) (.refl _) (by simp) (by simp[encT]) (by simp[encT]) (by simp[encT])
  | false=>
   have hs:semi ⟨a,li,l' ++ [t],c⟩=⟨a,li,l' ++ [t],c⟩:=by simp[semi,he]
   rw[hs];simp;exact .keep (by simp[encT]) (.refl _) (by simp) (by simp[encT]) (by simp[encT]) (by simp[encT])
theorem run_ok {W0 nb s x f F} {p:UInt8→Bool} (hF:∀b,DCalls ⟨Tryz.prog,W0,nb⟩ F [u8 b] [] (.p (.bool (p b))) []) (h1:x.at_≤s.size) (h3:s.size < 1099511627776):
  DCalls ⟨Tryz.prog,W0,nb⟩ 140 [.ref 0 0,.fn F []] [xbox s x f] (.p (.str (s.extract x.at_ (stop s p x.at_)))) [xbox s x f]:=by
 refine dcalls_end Tryz.func140 rfl (by kernel_rfl) 39 Tryz.ntmps140 #[.tmp 4] rfl (Nat.le_of_ble_eq_true rfl) ?_;simp;refine⟨fun m st=>∃i:Nat,stop s p i=stop s p x.at_∧m=s.size - i∧x.at_≤i∧i≤s.size∧st.hp= [xbox s x f]∧st.tm 0= .ref 0 0∧st.tm 1= .fn F []∧st.tm 5=i64 (i:Nat),s.size - x.at_,.here ⟨x.at_,rfl,rfl,Nat.le_refl _,h1,by simp,by simp,by simp,by simp⟩,?_⟩;rintro m ⟨tm,hp⟩ ⟨i,h,rfl,hle,hi,h0,g1,g2,g5⟩;simp only at h0 g1 g2 g5;subst h0;rw[stop_eq]at h;simp[g1,g2,g5];rcases Nat.lt_or_ge i s.size with hlt | hge
 ·have hw:=w64_id (n:=(i:Int)+ 1) (by omega) (by omega);simp only[w64]at hw;have hb:s[i]? =some s[i]:=by simp[hlt]
  rw[hb]at h;simp only at h;simp[hlt,g1,g2,g5];refine CallGoal.same (hF _) ?_;cases hq:p s[i]with
  | true=>
   rw[hq,if_pos rfl]at h;simp[g1,g2,g5];exact .same (s.size -(i + 1)) (by omega) ⟨i + 1,h,rfl,by omega,by omega,by simp,by simp[g1],by simp[g2],by simp[hw]⟩
  | false=>
   rw[hq]at h;simp only[Bool.false_eq_true,if_false]at h;simp[g1,g2,g5];refine drawWp.intro [] [7] mixed (by kernel_rfl) (by kernel_rfl) (by kernel_rfl) ?_;simp[g1,g2,g5,hle,hi];refine⟨by simp,by simp,?_⟩;simp[h];exact .keep (by simp[h]) (.refl _) (by simp) (by simp[h]) (by simp[h]) (by simp[h])
 ·have hb:s[i]? =none:=by simp[hge]
  rw[hb]at h;simp only at h;simp[show ¬i < s.size by omega,g1,g2,g5];refine drawWp.intro [] [7] mixed (by kernel_rfl) (by kernel_rfl) (by kernel_rfl) ?_;simp[g1,g2,g5,hle,hi];refine⟨by simp,by simp,?_⟩;simp[h];exact .keep (by simp[h]) (.refl _) (by simp) (by simp[h]) (by simp[h]) (by simp[h])
end Sc
end Go.Proofs.Dm
