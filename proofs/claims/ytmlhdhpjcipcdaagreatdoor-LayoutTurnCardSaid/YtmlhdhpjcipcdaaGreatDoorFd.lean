/- Part of the proof: contracts of the functions, walked by the D-machine. No condition. -/
import Derived.Test.YtmlhdhpjcipcdaaGreatDoorFc
import Derived.Test.YtmlhdhpjcipcdaaGreatDoorFa
set_option linter.unusedSimpArgs false
set_option linter.unusedVariables false
set_option maxHeartbeats 8000000
set_option maxRecDepth 100000
namespace Go.Proofs.Dm
open Go Go.Proofs Go.Proofs.Tryz Go.Proofs.Dm.Sc
namespace Fo
attribute [local simp] encT encC takes handsOn isTmp Op.operands Call.operands
def cJ (l:List Tok) (src:List ByteArray) (x:LS) (c:Com) (st:St):Prop:=∃a,fresh a 2∧st.hp= [lbox a l src x,(encC c).map .p]∧st.tm 0= .ref 0 0∧st.tm 3= .ref 1 0
theorem trimR_size (s:ByteArray):(trimR s).size≤s.size:=by
 have h:(Lib.trimRightS s.data.toList [32,9]).length≤s.data.toList.length:=by
  have:=(List.dropWhile_sublist (fun b=>([32,9]:List UInt8).contains b) (l:=s.data.toList.reverse)).length_le;rw[List.length_reverse]at this;unfold Lib.trimRightS;rw[List.length_reverse];exact this
 have e:(trimR s).size=(Lib.trimRightS s.data.toList [32,9]).length:=by
  show(Lib.trimRightS s.data.toList [32,9]).toArray.size=_;simp
 have e2:s.data.toList.length=s.size:=by rw[Array.length_toList];rfl
 omega
theorem com_ok {W0 nb l src x a y} {c:Com} (hf:fresh a 2) (hx:Fits l src x) (hl:c.line < 1000000000) (hn:c.next < 1000000000) (ht:c.text.size≤1000000000) (hz2:∀z,beginS l src x c.next c.line false=some z→z.out.size≤1000000001000) (h:comS l src x c=some y):DCalls ⟨Tryz.prog,W0,nb⟩ 54 [.ref 0 0,.agg ((encC c).map .p)] [lbox a l src x] (.tup []) [lbox (.ref 0 2) l src y]:=by
 have hr:=fresh_refs hf;have hm:=fresh_map hf;have ho:=fresh_own hf;have hz:=fresh_fz hf;have hf2:fresh (.ref 0 2) 2:= .inr rfl;have hsp:spB.size=1:=rfl;unfold comS at h;obtain⟨Z,hZ⟩:∃Z,(if 0≤x.last∧(endT l x).line=c.line then some {x with out:=x.out ++ spB}else beginS l src x c.next c.line false)=Z:=⟨_,rfl⟩
 rw[hZ]at h;cases Z with
 | none=>cases h
 | some z=>
 dsimp only at h;injection h with h;subst h
 have hzs:z.out.size≤1000000001000:=by
  split at hZ
  ·injection hZ with hZ;subst hZ
   have:=hx.out;simp only[ByteArray.size_append];rw[hsp];omega
  ·exact hz2 z hZ
 have c1:=end_ok (W0:=W0) (nb:=nb) (l:=l) (src:=src) (x:=x) hf (by have:=hx.len;omega) hx.last;have c2:=write_ok (W0:=W0) (nb:=nb) (l:=l) (src:=src) (x:=x) (s:=spB) hf (by rw[hsp];have:=hx.out;omega);refine dcalls_end Tryz.func54 rfl (by kernel_rfl) 42 Tryz.ntmps54 #[] rfl (Nat.le_of_ble_eq_true rfl) ?_;refine cwp_cut (fun st=>st.hp= [lbox a l src x,(encC c).map .p]∧st.tm 0= .ref 0 0∧st.tm 3= .ref 1 0) ?_ ?_
 ·simp[lbox]
 rintro⟨tm,hp⟩ ⟨g0,g1,g3⟩;simp only at g0 g1 g3;subst g0;refine cwp_cut (cJ l src z c) ?_ ?_
 ·rcases Int.lt_or_le x.last 0 with h1 | h1
  ·have h1':¬0≤x.last:=by omega
   rw[if_neg (fun q=>h1' q.1)]at hZ;have c3:=begin_ok (W0:=W0) (nb:=nb) hf hx hl hn hZ;simp only[lbox]at c1 c2 c3;simp[lbox,g1,g3,hr,hm,ho,hz];refine drawWp.intro [(7,10)] [10] mixed (by kernel_rfl) (by kernel_rfl) (by kernel_rfl) ?_;simp[lbox,g1,g3,hr,hm,ho,hz,h1'];refine⟨by simp[h1'],by simp[h1'],?_⟩;simp[lbox,g1,g3,hr,hm,ho,hz,h1'];refine CallGoal.same c3 ?_;simp;exact⟨_,hf2,by simp[lbox],by simp[g1],by simp[g3]⟩
  ·simp only[lbox]at c1 c2;simp only[spB]at c2;simp[lbox,g1,g3,hr,hm,ho,hz];refine drawWp.intro [(7,10)] [10] mixed (by kernel_rfl) (by kernel_rfl) (by kernel_rfl) ?_;simp[lbox,g1,g3,hr,hm,ho,hz,h1];refine CallGoal.same c1 ?_;simp[lbox,g1,g3,hr,hm,ho,hz,h1];refine⟨by simp[h1,hr,hm],by simp[h1,hr,hm],?_⟩
   by_cases h2:(endT l x).line=c.line
   ·rw[if_pos ⟨h1,h2⟩]at hZ;injection hZ with hZ;subst hZ
    simp[lbox,g1,g3,hr,hm,ho,hz,h1,h2];refine CallGoal.same c2 ?_;simp;exact⟨_,hf2,by simp[lbox,spB],by simp[g1],by simp[g3]⟩
   ·rw[if_neg (fun q=>h2 q.2)]at hZ;have c3:=begin_ok (W0:=W0) (nb:=nb) hf hx hl hn hZ;simp only[lbox]at c3;have h2':((endT l x).line==c.line)=false:=beq_eq_false_iff_ne.2 h2;simp[lbox,g1,g3,hr,hm,ho,hz,h1,h2'];refine CallGoal.same c3 ?_;simp;exact⟨_,hf2,by simp[lbox],by simp[g1],by simp[g3]⟩
 clear g1 g3 hr hm ho hz hf c1 c2;rintro⟨tm,hp⟩ ⟨a,hf,g0,g1,g3⟩;simp only at g0 g1 g3;subst g0;have hr:=fresh_refs hf;have hm:=fresh_map hf;have ho:=fresh_own hf;have hz:=fresh_fz hf;have hts:=trimR_size c.text;have c1:=trimR_ok (W0:=W0) (nb:=nb) (s:=c.text) (by omega);have c2:=write_ok (W0:=W0) (nb:=nb) (l:=l) (src:=src) (x:=z) (s:=trimR c.text) hf (by omega);simp only[lbox]at c2;simp[lbox,g1,g3,hr,hm,ho,hz];refine drawWp.intro [] [4,5] mixed (by kernel_rfl) (by kernel_rfl) (by kernel_rfl) ?_;simp[lbox,g1,g3,hr,hm,ho,hz];refine CallGoal.same c1 ?_;simp[lbox,g1,g3,hr,hm,ho,hz];refine CallGoal.same c2 ?_;simp;refine⟨by simp[hr,hm],by simp[hr,hm],?_⟩;simp[lbox,g1,g3,hr,hm,ho,hz];exact .keep (by simp[lbox,bytesR_append]) (.refl _) (by simp) (by simp[lbox,bytesR_append]) (by simp[lbox,bytesR_append]) (by simp[lbox,bytesR_append])
end Fo
end Go.Proofs.Dm
set_option maxHeartbeats 8000000
set_option maxRecDepth 100000
namespace Go.Proofs.Dm
open Go Go.Proofs Go.Proofs.Tryz Go.Proofs.Dm.Sc
namespace Fo
attribute [local simp] encT takes handsOn isTmp Op.operands Call.operands
theorem value_ok {W0 nb} {t:Tok}:DCalls ⟨Tryz.prog,W0,nb⟩ 154 [.agg ((encT t).map .p)] [] (.p (.bool (valueT t))) []:=by
 refine dcalls_end Tryz.func154 rfl (by kernel_rfl) 21 Tryz.ntmps154 #[.tmp 2] rfl (Nat.le_of_ble_eq_true rfl) ?_;simp;cases h1:t.kind==1 with
 | true=>
  simp[valueT,h1];exact .kk
 | false=>
  cases h2:t.kind==2 with
  | true=>
   simp[valueT,h1,h2];exact .kk
  | false=>
   cases h3:t.kind==3 with
   | true=>
    simp[valueT,h1,h2,h3];exact .kk
   | false=>
    simp[h2,h3];refine CallGoal.intro (is_ok (t:=t) (xs:= [⟨#[41]⟩]) (by decide)) (.cons (.refl _) (.cons (.fr _ _ _) .nil)) ?_;simp[valueT,h1,h2,h3];exact .kk
theorem space_ok {W0 nb} {p a b:Tok}:DCalls ⟨Tryz.prog,W0,nb⟩ 95 [.agg ((encT p).map .p),.agg ((encT a).map .p),.agg ((encT b).map .p)] [] (.p (.bool (spaceT p a b))) []:=by
 have v:=value_ok (W0:=W0) (nb:=nb) (t:=p);have i1:=is_ok (W0:=W0) (nb:=nb) (t:=a) (xs:= [⟨#[40]⟩,⟨#[46]⟩,⟨#[33]⟩]) (by decide);have i2:=is_ok (W0:=W0) (nb:=nb) (t:=a) (xs:= [⟨#[45]⟩]) (by decide);have i3:=is_ok (W0:=W0) (nb:=nb) (t:=b) (xs:= [⟨#[41]⟩,⟨#[44]⟩,⟨#[46]⟩,⟨#[58]⟩]) (by decide);have i4:=is_ok (W0:=W0) (nb:=nb) (t:=b) (xs:= [⟨#[40]⟩]) (by decide);have i5:=is_ok (W0:=W0) (nb:=nb) (t:=a) (xs:= [⟨#[41]⟩]) (by decide);have i6:=is_ok (W0:=W0) (nb:=nb) (t:=a) (xs:= [⟨#[123]⟩]) (by decide);have i7:=is_ok (W0:=W0) (nb:=nb) (t:=b) (xs:= [⟨#[125]⟩]) (by decide);unfold spaceT;generalize valueT p=V at *;generalize isKind a [⟨#[40]⟩,⟨#[46]⟩,⟨#[33]⟩]=K1 at *;generalize isKind a [⟨#[45]⟩]=K2 at *;generalize isKind b [⟨#[41]⟩,⟨#[44]⟩,⟨#[46]⟩,⟨#[58]⟩]=K3 at *;generalize isKind b [⟨#[40]⟩]=K4 at *;generalize isKind a [⟨#[41]⟩]=K5 at *;generalize isKind a [⟨#[123]⟩]=K6 at *;generalize isKind b [⟨#[125]⟩]=K7 at *;refine dcalls_end Tryz.func95 rfl (by kernel_rfl) 47 Tryz.ntmps95 #[.tmp 6] rfl (Nat.le_of_ble_eq_true rfl) ?_;simp;refine CallGoal.intro i1 (.cons (.refl _) (.cons (.fr _ _ _) .nil)) ?_;cases K1 with
 | true=>
  simp;exact .kk
 | false=>
 simp;refine CallGoal.intro i2 (.cons (.refl _) (.cons (.fr _ _ _) .nil)) ?_;simp;have hk2:(K2&& !V)=true∨K2=false∨(K2=true∧V=true):=by cases K2 <;> cases V <;> simp
 rcases hk2 with hk2 | hk2
 ·simp only[Bool.and_eq_true,Bool.not_eq_true']at hk2;obtain⟨rfl,rfl⟩:=hk2;simp;refine CallGoal.same v ?_;simp;exact .kk
 rcases hk2 with rfl | ⟨rfl,rfl⟩
 rotate_left
 ·simp;refine CallGoal.same v ?_;simp;refine CallGoal.intro i3 (.cons (.refl _) (.cons (.fr _ _ _) .nil)) ?_;simp;cases K3 with
  | true=>
   simp;exact .kk
  | false=>
  simp;refine CallGoal.intro i4 (.cons (.refl _) (.cons (.fr _ _ _) .nil)) ?_;cases K4 with
  | false=>
   simp;refine CallGoal.intro i6 (.cons (.refl _) (.cons (.fr _ _ _) .nil)) ?_;cases K6 with
   | false=>
    simp;exact .kk
   | true=>
    simp;refine CallGoal.intro i7 (.cons (.refl _) (.cons (.fr _ _ _) .nil)) ?_;cases K7 with
    | true=>
     simp;exact .kk
    | false=>
     simp;exact .kk
  | true=>
   simp;cases ha:a.kind==1 with
   | true=>
    have ha':a.kind=1:=by simpa using ha
    simp;exact .keep (by simp[ha']) (.refl _) (by simp) (by simp[ha']) (by simp[ha']) (by simp[ha'])
   | false=>
    have ha':¬a.kind=1:=by simpa using ha
    simp;refine CallGoal.intro i5 (.cons (.refl _) (.cons (.fr _ _ _) .nil)) ?_;cases K5 with
    | true=>
     simp;exact .keep (by simp[ha']) (.refl _) (by simp) (by simp[ha']) (by simp[ha']) (by simp[ha'])
    | false=>
     simp;refine CallGoal.intro i6 (.cons (.refl _) (.cons (.fr _ _ _) .nil)) ?_;cases K6 with
     | false=>
      simp;exact .keep (by simp[ha']) (.refl _) (by simp) (by simp[ha']) (by simp[ha']) (by simp[ha'])
     | true=>
      simp;refine CallGoal.intro i7 (.cons (.refl _) (.cons (.fr _ _ _) .nil)) ?_;cases K7 with
      | true=>
       simp;exact .keep (by simp[ha']) (.refl _) (by simp) (by simp[ha']) (by simp[ha']) (by simp[ha'])
      | false=>
       simp;exact .keep (by simp[ha']) (.refl _) (by simp) (by simp[ha']) (by simp[ha']) (by simp[ha'])
 ·simp;refine CallGoal.intro i3 (.cons (.refl _) (.cons (.fr _ _ _) .nil)) ?_;simp;cases K3 with
  | true=>
   simp;exact .kk
  | false=>
  simp;refine CallGoal.intro i4 (.cons (.refl _) (.cons (.fr _ _ _) .nil)) ?_;cases K4 with
  | false=>
   simp;refine CallGoal.intro i6 (.cons (.refl _) (.cons (.fr _ _ _) .nil)) ?_;cases K6 with
   | false=>
    simp;exact .kk
   | true=>
    simp;refine CallGoal.intro i7 (.cons (.refl _) (.cons (.fr _ _ _) .nil)) ?_;cases K7 with
    | true=>
     simp;exact .kk
    | false=>
     simp;exact .kk
  | true=>
   simp;cases ha:a.kind==1 with
   | true=>
    have ha':a.kind=1:=by simpa using ha
    simp;exact .keep (by simp[ha']) (.refl _) (by simp) (by simp[ha']) (by simp[ha']) (by simp[ha'])
   | false=>
    have ha':¬a.kind=1:=by simpa using ha
    simp;refine CallGoal.intro i5 (.cons (.refl _) (.cons (.fr _ _ _) .nil)) ?_;cases K5 with
    | true=>
     simp;exact .keep (by simp[ha']) (.refl _) (by simp) (by simp[ha']) (by simp[ha']) (by simp[ha'])
    | false=>
     simp;refine CallGoal.intro i6 (.cons (.refl _) (.cons (.fr _ _ _) .nil)) ?_;cases K6 with
     | false=>
      simp;exact .keep (by simp[ha']) (.refl _) (by simp) (by simp[ha']) (by simp[ha']) (by simp[ha'])
     | true=>
      simp;refine CallGoal.intro i7 (.cons (.refl _) (.cons (.fr _ _ _) .nil)) ?_;cases K7 with
      | true=>
       simp;exact .keep (by simp[ha']) (.refl _) (by simp) (by simp[ha']) (by simp[ha']) (by simp[ha'])
      | false=>
       simp;exact .keep (by simp[ha']) (.refl _) (by simp) (by simp[ha']) (by simp[ha']) (by simp[ha'])
end Fo
end Go.Proofs.Dm
