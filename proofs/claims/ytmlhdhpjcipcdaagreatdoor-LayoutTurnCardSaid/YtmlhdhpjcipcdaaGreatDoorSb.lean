/- Part of the proof: contracts of the functions, walked by the D-machine. No condition. -/
import Derived.Test.YtmlhdhpjcipcdaaGreatDoorSa
set_option linter.unusedSimpArgs false
set_option linter.unusedVariables false
namespace Go.Proofs.Dm
open Go Go.Proofs Go.Proofs.Tryz
namespace Sc
theorem ba_get (s:ByteArray) (i:Nat):s[i]? =s.data.toList[i]? :=by
 rcases Nat.lt_or_ge i s.size with h | h
 ·rw[Lib.data_getElem? s i h];simp[h]
 ·have h2:s.data.toList.length≤i:=by
   rw[←Lib.size_eq];exact h
  rw[List.getElem?_eq_none h2];simp[h]
theorem ba_size (s:ByteArray):s.size=s.data.toList.length:=Lib.size_eq s
theorem runTo_tw (s:ByteArray) (p:UInt8→Bool):∀n i,n=s.size - i→runTo s p n i=i +((s.data.toList.drop i).takeWhile p).length
 | 0,i,h=>by
  have:s.data.toList.length≤i:=by rw[←ba_size];omega
  simp[runTo,List.drop_eq_nil_of_le this]
 | n + 1,i,h=>by
  have hlt:i < s.data.toList.length:=by rw[←ba_size];omega
  rw[List.drop_eq_getElem_cons hlt,List.takeWhile_cons];simp only[runTo,ba_get,List.getElem?_eq_getElem hlt]
  by_cases hp:p s.data.toList[i]=true
  ·rw[if_pos hp,if_pos hp,runTo_tw s p n (i + 1) (by omega)];simp only[List.length_cons];omega
  ·rw[if_neg hp,if_neg hp];rfl
theorem stop_tw (s:ByteArray) (p:UInt8→Bool) (i:Nat):stop s p i=i +((s.data.toList.drop i).takeWhile p).length:=runTo_tw s p _ i rfl
theorem indexByte_tw (c:UInt8):∀l:List UInt8,Lib.indexByte l c=if(l.takeWhile (fun b=>b !=c)).length < l.length then((l.takeWhile (fun b=>b !=c)).length:Int)else -1
 | []=>rfl
 | b::l=>by
  simp only[Lib.indexByte,List.takeWhile_cons]
  by_cases h:b=c
  ·subst h;simp
  ·have h1:(b==c)=false:=by simpa using h
   have h2:(b !=c)=true:=by simpa using h
   rw[h1,h2,indexByte_tw c l];simp only[Bool.false_eq_true,if_false,if_true,List.length_cons];generalize (l.takeWhile (fun b=>b !=c)).length=k
   by_cases q:k < l.length
   ·have q':k + 1 < l.length + 1:=by omega
    have q2:((k:Int)== -1)=false:=beq_eq_false_iff_ne.2 (by omega);simp only[if_pos q,if_pos q',q2,Bool.false_eq_true,if_false];omega
   ·have q':¬k + 1 < l.length + 1:=by omega
    simp only[if_neg q,if_neg q',beq_self_eq_true,if_true]
theorem ext_list (s:ByteArray) (a b:Nat):(s.extract a b).data.toList=(s.data.toList.drop a).take (b - a):=by
 simp[List.extract]
theorem ba_ext {s t:ByteArray} (h:s.data.toList=t.data.toList):s=t:=by
 cases s;cases t;simp only at h
 congr
 exact Array.toList_inj.1 h
theorem ext_ext (s:ByteArray) (a b c d:Nat) (h:a≤b) (h2:a + d≤b):(s.extract a b).extract c d=s.extract (a + c) (a + d):=by
 apply ba_ext;rw[ext_list,ext_list,ext_list,List.drop_take,List.take_take,List.drop_drop]
 congr 1
 omega
def eol (s:ByteArray) (i:Nat):Nat:=stop s (fun b=>b !=10) i
theorem eol_index (s:ByteArray) (i:Nat) (h:i≤s.size):Lib.indexByte (s.extract i s.size).data.toList 10=if eol s i < s.size then((eol s i - i:Nat):Int)else -1:=by
 have hs:=ba_size s;have e:(s.extract i s.size).data.toList=s.data.toList.drop i:=by
  rw[ext_list,List.take_of_length_le];simp only[List.length_drop];omega
 rw[e,indexByte_tw,eol,stop_tw];simp only[List.length_drop]
 by_cases q:((s.data.toList.drop i).takeWhile (fun b=>b !=10)).length < s.data.toList.length - i
 ·rw[if_pos q,if_pos (by omega)];omega
 ·rw[if_neg q,if_neg (by omega)]
theorem quote_index:∀l:List UInt8,Lib.indexByte (l.takeWhile (fun b=>b !=10)) 34=if l[(l.takeWhile (fun b=>b !=34&&b !=10)).length]? =some 34 then((l.takeWhile (fun b=>b !=34&&b !=10)).length:Int)else -1
 | []=>rfl
 | b::l=>by
  simp only[List.takeWhile_cons]
  by_cases h:b=34
  ·subst h;simp[Lib.indexByte]
  ·by_cases h':b=10
   ·subst h';simp[Lib.indexByte]
   ·have h1:(b !=34)=true:=by simpa using h
    have h2:(b !=10)=true:=by simpa using h'
    have h3:(b==34)=false:=by simpa using h
    have ih:=quote_index l;simp only[h1,h2,Bool.and_self,if_true,Lib.indexByte,h3,Bool.false_eq_true,if_false,List.length_cons,List.getElem?_cons_succ,ih];generalize (l.takeWhile (fun b=>b !=34&&b !=10)).length=k
    by_cases q:l[k]? =some 34
    ·have q2:((k:Int)== -1)=false:=beq_eq_false_iff_ne.2 (by omega);simp only[if_pos q,q2,Bool.false_eq_true,if_false];omega
    ·simp only[if_neg q,beq_self_eq_true,if_true]
theorem two_str {w:World} {h ρ O ws} {a b:ByteArray} (r:RepDs w h ρ [.p (.str a),.p (.str b)] O 0 ws):ws= [.string a,.string b]:=by
 simp only[RepDs,RepD,Rep]at r;obtain⟨v1,r1,rfl,h1,v2,r2,rfl,h2,h3⟩:=r;rw[h1,h2,h3]
theorem str_u8 {w:World} {h ρ O ws} {a:ByteArray} {b:Int} (r:RepDs w h ρ [.p (.str a),.p (.int .u8 b)] O 0 ws):ws= [.string a,.int .u8 b]:=by
 simp only[RepDs,RepD,Rep]at r;obtain⟨v1,r1,rfl,h1,v2,r2,rfl,h2,h3⟩:=r;rw[h1,h2,h3]
theorem index_nl {W0 nb s}:DCalls ⟨Tryz.prog,W0,nb⟩ 184 [.p (.str s),.p (.str ⟨#[10]⟩)] [] (i64 (Lib.indexByte s.data.toList 10)) []:=
 dcalls_foreign (vs:= [.string s,.string ⟨#[10]⟩]) (v:= .int .i64 (Lib.indexByte s.data.toList 10)) ⟨_,Tryz.func184,by kernel_rfl,rfl⟩ (fun w h ρ O ws r=>two_str r) (fun w h ρ O=>by simp only[RepD,Rep])
  (fun w _ _=>(Tryz.stringslite_Index_one s 10 w).mono (by rintro e w' ⟨rfl,rfl⟩;exact⟨rfl,Go.RowKit.Below.refl _ _⟩))
theorem indexByte_ok {W0 nb s} {b:UInt8}:DCalls ⟨Tryz.prog,W0,nb⟩ 179 [.p (.str s),.p (.int .u8 34)] [] (i64 (Lib.indexByte s.data.toList 34)) []:=
 dcalls_foreign (vs:= [.string s,.int .u8 34]) (v:= .int .i64 (Lib.indexByte s.data.toList 34)) ⟨_,Tryz.func179,by kernel_rfl,rfl⟩ (fun w h ρ O ws r=>str_u8 r) (fun w h ρ O=>by simp only[RepD,Rep])
  (fun w _ _=>(Tryz.strings_IndexByte s 34 w).mono (by rintro e w' ⟨rfl,rfl⟩;exact⟨rfl,Go.RowKit.Below.refl _ _⟩))
theorem cutL_ok {W0 nb} {s:ByteArray} {i:Nat} (h1:i≤s.size) (h3:s.size < 1099511627776):∃y z,DCalls ⟨Tryz.prog,W0,nb⟩ 202 [.p (.str (s.extract i s.size)),.p (.str ⟨#[10]⟩)] [] (.tup [.p (.str (s.extract i (eol s i))),.p (.str y),.p (.bool z)]) []:=by
 have hi:=eol_index s i h1;have hle:=stop_le s (fun b=>b !=10) i h1;rw[show stop s (fun b=>b !=10) i=eol s i from rfl]at hle;have hz:(s.extract i s.size).size=s.size - i:=by simp
 by_cases q:eol s i < s.size
 ·rw[if_pos q]at hi;refine⟨(s.extract i s.size).extract (((eol s i - i:Nat):Int)+ 1).toNat (s.size - i),true,?_⟩;refine dcalls_end Tryz.func202 rfl (by kernel_rfl) 23 Tryz.ntmps202 #[.tmp 4,.tmp 5,.tmp 6] rfl (Nat.le_of_ble_eq_true rfl) ?_;simp;refine CallGoal.same index_nl ?_;rw[hi];have hw:=w64_id (n:=((eol s i - i:Nat):Int)+ 1) (by omega) (by omega);simp only[w64]at hw;have hge:(0:Int)≤((eol s i - i:Nat):Int):=by omega
  simp[hge];refine drawWp.intro [] [] mixed (by kernel_rfl) (by kernel_rfl) (by kernel_rfl) ?_;have hz1:(⟨#[10]⟩:ByteArray).size=1:=rfl;simp[hz1,hw,hz,hge,show((eol s i - i:Nat):Int)≤((s.size - i:Nat):Int)by omega,show(0:Int)≤((eol s i - i:Nat):Int)+ 1 by omega,show((eol s i - i:Nat):Int)+ 1≤((s.size - i:Nat):Int)by omega];have e:(s.extract i s.size).extract 0 (eol s i - i)=s.extract i (eol s i):=by
   rw[ext_ext s i s.size 0 (eol s i - i) h1 (by omega)]
   congr 1;omega
  rw[e];exact .kk
 ·rw[if_neg q]at hi;refine⟨⟨#[]⟩,false,?_⟩;have e:s.extract i (eol s i)=s.extract i s.size:=by rw[show eol s i=s.size by omega]
  rw[e];refine dcalls_end Tryz.func202 rfl (by kernel_rfl) 23 Tryz.ntmps202 #[.tmp 4,.tmp 5,.tmp 6] rfl (Nat.le_of_ble_eq_true rfl) ?_;simp;refine CallGoal.same index_nl ?_;rw[hi];simp;exact .kk
theorem cut_ok {W0 nb} {s:ByteArray} {i:Nat} (h1:i≤s.size) (h3:s.size < 1099511627776):∃y z,DCalls ⟨Tryz.prog,W0,nb⟩ 177 [.p (.str (s.extract i s.size)),.p (.str ⟨#[10]⟩)] [] (.tup [.p (.str (s.extract i (eol s i))),.p (.str y),.p (.bool z)]) []:=by
 obtain⟨y,z,h⟩:=cutL_ok (W0:=W0) (nb:=nb) h1 h3;refine⟨y,z,?_⟩;refine dcalls_end Tryz.func177 rfl (by kernel_rfl) 13 Tryz.ntmps177 #[.tmp 4,.tmp 5,.tmp 6] rfl (Nat.le_of_ble_eq_true rfl) ?_;simp;refine CallGoal.same h ?_;simp;exact .kk
end Sc
end Go.Proofs.Dm
set_option maxHeartbeats 4000000
namespace Go.Proofs.Dm
open Go Go.Proofs Go.Proofs.Tryz
namespace Sc
attribute [local simp] xbox takes handsOn isTmp Op.operands Call.operands
theorem ext_get (s:ByteArray) (a b i:Nat) (h:a + i < b) (h2:b≤s.size):(s.extract a b)[i]? =s[a + i]? :=by
 rw[ba_get,ba_get,ext_list,List.getElem?_take_of_lt (by omega),List.getElem?_drop]
def nameS (s:ByteArray) (x:SS) (e:Nat):Option SS:=if 24 < e - x.at_ then none else some (add s (if isIn keys (s.extract x.at_ e)then 5 else 1) e x)
def numS (s:ByteArray) (x:SS) (e:Nat):Option SS:=
 if 12 < e - x.at_ ||(decide (1 < e - x.at_)&&s[x.at_]?.any (fun b=>(b.toNat:Int)==48))|| s[e]?.any letter then none else some (add s 2 e x)
def textE (s:ByteArray) (i:Nat):Nat:=stop s (fun b=>b !=34&&b !=10) (i + 1)
def textS (s:ByteArray) (x:SS):Option SS:=if s[textE s x.at_]? =some 34 then some (add s 3 (textE s x.at_ + 1) x)else none
def opR (s:ByteArray) (x:SS):Nat→Option SS
 | 0=>none
 | n + 1=>if decide (x.at_ +(n + 1)≤s.size)&&isIn ops (s.extract x.at_ (x.at_ +(n + 1)))then some (add s 4 (x.at_ +(n + 1)) x)else opR s x n
def slashes (s:ByteArray) (i:Nat):Bool:=decide (i + 2≤s.size)&&((s.extract i (i + 2)).toList== [47,47])
def note (s:ByteArray) (x:SS):SS:={semi x with c:=x.c ++ [⟨s.extract x.at_ (eol s x.at_),x.at_,x.line,(semi x).l.length⟩],at_:=eol s x.at_}
def step (s:ByteArray) (x:SS):Option SS:=match s[x.at_]? with
 | none=>none
 | some c=>
  if(c.toNat:Int)==10 then some {semi x with at_:=x.at_ + 1,line:=x.line + 1}
  else if(c.toNat:Int)==32 ||(c.toNat:Int)==9 then some {x with at_:=x.at_ + 1}
  else if slashes s x.at_ then some (note s x)
  else if letter c then nameS s x (stop s wordB x.at_)
  else if digit c then numS s x (stop s digit x.at_)
  else if(c.toNat:Int)==34 then textS s x
  else if(c.toNat:Int)==59 then some (add s 6 (x.at_ + 1) x)
  else opR s x 2
def res (s:ByteArray) (x:SS):Option SS→List DV
 | some y=>xbox s y (-1)
 | none=>xbox s x x.at_
@[simp] theorem semi_at (x:SS):(semi x).at_=x.at_:=by unfold semi;split <;> rfl
@[simp] theorem semi_line (x:SS):(semi x).line=x.line:=by unfold semi;split <;> rfl
@[simp] theorem semi_c (x:SS):(semi x).c=x.c:=by unfold semi;split <;> rfl
theorem rest_ok {W0 nb s x f} (h1:x.at_≤s.size) (h3:s.size < 1099511627776):DCalls ⟨Tryz.prog,W0,nb⟩ 137 [.ref 0 0] [xbox s x f] (.p (.str (s.extract x.at_ (eol s x.at_)))) [xbox s x f]:=by
 obtain⟨y,z,h⟩:=cut_ok (W0:=W0) (nb:=nb) h1 h3;refine dcalls_end Tryz.func137 rfl (by kernel_rfl) 21 Tryz.ntmps137 #[.tmp 2] rfl (Nat.le_of_ble_eq_true rfl) ?_;simp;refine drawWp.intro [] [7] mixed (by kernel_rfl) (by kernel_rfl) (by kernel_rfl) ?_;simp[h1];refine CallGoal.same h ?_;simp;refine⟨by simp,by simp,?_⟩;simp;exact .kk
theorem hasPrefixL_ok {W0 nb} {s:ByteArray} {i:Nat} (h1:i≤s.size):DCalls ⟨Tryz.prog,W0,nb⟩ 126 [.p (.str (s.extract i s.size)),.p (.str ⟨#[47,47]⟩)] [] (.p (.bool (slashes s i))) []:=by
 have hz:(s.extract i s.size).size=s.size - i:=by simp
 have hz2:(⟨#[47,47]⟩:ByteArray).size=2:=rfl;refine dcalls_end Tryz.func126 rfl (by kernel_rfl) 18 Tryz.ntmps126 #[.tmp 4] rfl (Nat.le_of_ble_eq_true rfl) ?_;simp
 by_cases q:i + 2≤s.size
 ·have e:(s.extract i s.size).extract 0 2=s.extract i (i + 2):=by rw[ext_ext s i s.size 0 2 h1 (by omega)];rfl
  simp[hz,hz2,show 2≤s.size - i by omega,show(2:Int)≤((s.size - i:Nat):Int)by omega,e,slashes,q];exact .kk
 ·simp[hz,hz2,show ¬2≤s.size - i by omega,slashes,q];exact .kk
theorem hasPrefix_ok {W0 nb} {s:ByteArray} {i:Nat} (h1:i≤s.size):DCalls ⟨Tryz.prog,W0,nb⟩ 81 [.p (.str (s.extract i s.size)),.p (.str ⟨#[47,47]⟩)] [] (.p (.bool (slashes s i))) []:=by
 refine dcalls_end Tryz.func81 rfl (by kernel_rfl) 8 Tryz.ntmps81 #[.tmp 4] rfl (Nat.le_of_ble_eq_true rfl) ?_;simp;refine CallGoal.same (hasPrefixL_ok h1) ?_;simp;exact .kk
theorem name_ok {W0 nb s x e} (h1:x.at_≤e) (h2:e≤s.size) (h3:s.size < 1099511627776) (hl:x.l.length < 1000000000):DCalls ⟨Tryz.prog,W0,nb⟩ 139 [.ref 0 0,.p (.str (s.extract x.at_ e))] [xbox s x (-1)] (.tup []) [res s x (nameS s x e)]:=by
 have hz:(s.extract x.at_ e).size=e - x.at_:=by simp;omega
 refine dcalls_end Tryz.func139 rfl (by kernel_rfl) 24 Tryz.ntmps139 #[] rfl (Nat.le_of_ble_eq_true rfl) ?_;simp
 by_cases q:24 < e - x.at_
 ·have q':(24:Int)<((e - x.at_:Nat):Int):=by omega
  simp[hz,Nat.min_eq_left h2,q',nameS,q,res];exact .kk
 ·have q':¬(24:Int)<((e - x.at_:Nat):Int):=by omega
  simp[hz,Nat.min_eq_left h2,q',nameS,q];refine CallGoal.same key_ok ?_;cases hk:isIn keys (s.extract x.at_ e)with
  | true=>
   simp[hk];refine CallGoal.same (putA_ok (x:=x) (k:=5) h1 h2 h3 hl) ?_;simp[res];exact .kk
  | false=>
   simp[hk];refine CallGoal.same (putA_ok (x:=x) (k:=1) h1 h2 h3 hl) ?_;simp[res];exact .kk
theorem number_ok {W0 nb s x e} (h1:x.at_ < e) (h2:e≤s.size) (h3:s.size < 1099511627776) (hl:x.l.length < 1000000000):DCalls ⟨Tryz.prog,W0,nb⟩ 143 [.ref 0 0,.p (.str (s.extract x.at_ e))] [xbox s x (-1)] (.tup []) [res s x (numS s x e)]:=by
 have hz:(s.extract x.at_ e).size=e - x.at_:=by simp;omega
 have hw2:(x.at_:Int)+((e - x.at_:Nat):Int)=(e:Int):=by omega
 have hwe:=w64_id (n:=(e:Int)) (by omega) (by omega);simp only[w64]at hwe;have hg:(s.extract x.at_ e)[0]? =s[x.at_]? :=ext_get s x.at_ e 0 h1 h2;have hg2:s[x.at_]? =some s[x.at_]:=by simp
 refine dcalls_end Tryz.func143 rfl (by kernel_rfl) 53 Tryz.ntmps143 #[] rfl (Nat.le_of_ble_eq_true rfl) ?_;simp[hz,Nat.min_eq_left h2,hw2,hwe]
 by_cases q:12 < e - x.at_
 ·have q':(12:Int)<((e - x.at_:Nat):Int):=by omega
  simp[q',numS,q,res];exact .kk
 ·have q':¬(12:Int)<((e - x.at_:Nat):Int):=by omega
  simp[Nat.min_eq_left h2,q',q];have hb:s[e]? =none∨e < s.size:=by
   rcases Nat.lt_or_ge e s.size with h | h
   ·exact .inr h
   ·exact .inl (by simp[h])
  by_cases p1:1 < e - x.at_
  ·have p1':(1:Int)<((e - x.at_:Nat):Int):=by omega
   cases p2:(s[x.at_].toNat:Int)==48 with
   | true=>
    simp[Nat.min_eq_left h2,p1',p1,hg,hg2,p2,numS,q,p1,res];exact .kk
   | false=>
    simp[Nat.min_eq_left h2,p1',p1,hg,hg2,p2];rcases hb with hb | hlt
    ·have hge:¬(e:Int)< s.size:=by
      intro h;have:e < s.size:=by omega
      simp[this]at hb
     simp[hge,hwe,show ¬e < s.size by omega];refine CallGoal.same (putA_ok (x:=x) (k:=2) (by omega) h2 h3 hl) ?_;simp[numS,q,p1,hb,res,hg2,p2];exact .kk
    ·have hlt':(e:Int)< s.size:=by omega
     have hb:s[e]? =some s[e]:=by simp[hlt]
     simp[hlt',hlt,hwe,hb];refine CallGoal.same (letter_ok (c:=s[e])) ?_;cases hq:letter s[e]with
     | true=>
      simp[numS,q,p1,hb,hq,res,hg2,p2];exact .kk
     | false=>
      simp;refine CallGoal.same (putA_ok (x:=x) (k:=2) (by omega) h2 h3 hl) ?_;simp[numS,q,p1,hb,hq,res,hg2,p2];exact .kk
  ·have p1':¬(1:Int)<((e - x.at_:Nat):Int):=by omega
   have p2:=p1';simp[Nat.min_eq_left h2,p1',p1];rcases hb with hb | hlt
   ·have hge:¬(e:Int)< s.size:=by
     intro h;have:e < s.size:=by omega
     simp[this]at hb
    simp[hge,hwe,show ¬e < s.size by omega];refine CallGoal.same (putA_ok (x:=x) (k:=2) (by omega) h2 h3 hl) ?_;simp[numS,q,p1,hb,res,hg2,p2];exact .kk
   ·have hlt':(e:Int)< s.size:=by omega
    have hb:s[e]? =some s[e]:=by simp[hlt]
    simp[hlt',hlt,hwe,hb];refine CallGoal.same (letter_ok (c:=s[e])) ?_;cases hq:letter s[e]with
    | true=>
     simp[numS,q,p1,hb,hq,res,hg2,p2];exact .kk
    | false=>
     simp;refine CallGoal.same (putA_ok (x:=x) (k:=2) (by omega) h2 h3 hl) ?_;simp[numS,q,p1,hb,hq,res,hg2,p2];exact .kk
theorem drop_next (s:ByteArray) {i:Nat} {c:UInt8} (h:s[i]? =some c):i < s.size∧s.data.toList.drop i=c::s.data.toList.drop (i + 1):=by
 rw[ba_get]at h;have hlt:i < s.data.toList.length:=(List.getElem?_eq_some_iff.1 h).1;refine⟨by rw[ba_size];exact hlt,?_⟩;rw[List.drop_eq_getElem_cons hlt,(List.getElem?_eq_some_iff.1 h).2]
theorem eol_next (s:ByteArray) {i:Nat} {c:UInt8} (h:s[i]? =some c) (hc:c≠10):eol s i=i + 1 +((s.data.toList.drop (i + 1)).takeWhile (fun b=>b !=10)).length:=by
 rw[eol,stop_tw,(drop_next s h).2,List.takeWhile_cons,if_pos (by simpa using hc),List.length_cons];omega
theorem quote_at (s:ByteArray) {i:Nat} (h:s[i]? =some 34):Lib.indexByte ((s.extract i (eol s i)).extract 1 (s.extract i (eol s i)).size).data.toList 34=if s[textE s i]? =some 34 then((textE s i -(i + 1):Nat):Int)else -1:=by
 obtain⟨hlt,hd⟩:=drop_next s h;have he:=eol_next s h (by decide);have hle:=stop_le s (fun b=>b !=10) i (by omega);rw[show stop s (fun b=>b !=10) i=eol s i from rfl]at hle;have hz:(s.extract i (eol s i)).size=eol s i - i:=by simp;omega
 rw[hz,ext_ext s i (eol s i) 1 (eol s i - i) hle.1 (by omega),show i +(eol s i - i)=eol s i by omega,ext_list];have e:(s.data.toList.drop (i + 1)).take (eol s i -(i + 1))=(s.data.toList.drop (i + 1)).takeWhile (fun b=>b !=10):=by
  rw[he,Nat.add_sub_cancel_left];exact(List.prefix_iff_eq_take.1 (List.takeWhile_prefix _)).symm
 rw[e,quote_index];have ht:textE s i=i + 1 +((s.data.toList.drop (i + 1)).takeWhile (fun b=>b !=34&&b !=10)).length:=stop_tw _ _ _;have hg:s[textE s i]? =(s.data.toList.drop (i + 1))[((s.data.toList.drop (i + 1)).takeWhile (fun b=>b !=34&&b !=10)).length]? :=by
  rw[ba_get,ht,List.getElem?_drop]
 rw[hg,ht,Nat.add_sub_cancel_left]
theorem text_le (s:ByteArray) {i:Nat} (h:s[i]? =some 34) (h2:s[textE s i]? =some 34):i + 1≤textE s i∧textE s i < eol s i∧eol s i≤s.size:=by
 obtain⟨hlt,hd⟩:=drop_next s h;have he:=eol_next s h (by decide);have hle:=stop_le s (fun b=>b !=10) i (by omega);rw[show stop s (fun b=>b !=10) i=eol s i from rfl]at hle;have ht:textE s i=i + 1 +((s.data.toList.drop (i + 1)).takeWhile (fun b=>b !=34&&b !=10)).length:=stop_tw _ _ _;refine⟨by omega,?_,hle.2⟩;have hg:(s.data.toList.drop (i + 1))[((s.data.toList.drop (i + 1)).takeWhile (fun b=>b !=34&&b !=10)).length]? =some 34:=by
  rw[←h2,ba_get,ht,List.getElem?_drop]
 have:=quote_index (s.data.toList.drop (i + 1));rw[if_pos hg,indexByte_tw]at this;have hl2:∀l:List UInt8,(l.takeWhile (fun b=>b !=10)).length≤l.length:=fun l=>(List.takeWhile_prefix _).length_le
 split at this
 ·rename_i q;have:=hl2 ((s.data.toList.drop (i + 1)).takeWhile (fun b=>b !=10));have h5:(((s.data.toList.drop (i + 1)).takeWhile (fun b=>b !=10)).takeWhile (fun b=>b !=34)).length <((s.data.toList.drop (i + 1)).takeWhile (fun b=>b !=10)).length:=q;omega
 ·omega
theorem text_ok {W0 nb s x} (h1:s[x.at_]? =some 34) (h3:s.size < 1099511627776) (hl:x.l.length < 1000000000):DCalls ⟨Tryz.prog,W0,nb⟩ 144 [.ref 0 0,.p (.str (s.extract x.at_ (eol s x.at_)))] [xbox s x (-1)] (.tup []) [res s x (textS s x)]:=by
 obtain⟨hlt,hd⟩:=drop_next s h1;have he:=eol_next s h1 (by decide);have hle:=stop_le s (fun b=>b !=10) x.at_ (by omega);rw[show stop s (fun b=>b !=10) x.at_=eol s x.at_ from rfl]at hle;have hz:(s.extract x.at_ (eol s x.at_)).size=eol s x.at_ - x.at_:=by simp;omega
 have hq:=quote_at s h1;rw[hz]at hq;refine dcalls_end Tryz.func144 rfl (by kernel_rfl) 23 Tryz.ntmps144 #[] rfl (Nat.le_of_ble_eq_true rfl) ?_;simp[hz,Nat.min_eq_left hle.2,show(1:Int)≤((eol s x.at_ - x.at_:Nat):Int)by omega,show 1≤eol s x.at_ - x.at_ by omega,show 0 < eol s x.at_ - x.at_ by omega];refine CallGoal.same (indexByte_ok (b:=34)) ?_;rw[hq]
 by_cases q:s[textE s x.at_]? =some 34
 ·obtain⟨t1,t2,t3⟩:=text_le s h1 q;have hw:=w64_id (n:=((textE s x.at_ -(x.at_ + 1):Nat):Int)+ 2) (by omega) (by omega);simp only[w64]at hw;rw[if_pos q];have hge:¬((textE s x.at_ -(x.at_ + 1):Nat):Int)< 0:=by omega
  have e:(s.extract x.at_ (eol s x.at_)).extract 0 (((textE s x.at_ -(x.at_ + 1):Nat):Int)+ 2).toNat=s.extract x.at_ (textE s x.at_ + 1):=by
   rw[ext_ext s x.at_ (eol s x.at_) 0 _ hle.1 (by omega)]
   congr 1
   omega
  simp[hge,hw,hz,Nat.min_eq_left hle.2,e,show(0:Int)≤((textE s x.at_ -(x.at_ + 1):Nat):Int)+ 2 by omega,show((textE s x.at_ -(x.at_ + 1):Nat):Int)+ 2≤((eol s x.at_ - x.at_:Nat):Int)by omega];refine CallGoal.same (putA_ok (x:=x) (k:=3) (by omega) (by omega) h3 hl) ?_;simp[textS,q,res];exact .kk
 ·rw[if_neg q];simp[textS,q,res];exact .kk
end Sc
end Go.Proofs.Dm
