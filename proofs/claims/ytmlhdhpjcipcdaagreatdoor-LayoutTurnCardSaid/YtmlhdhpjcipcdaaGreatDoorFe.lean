/- Part of the proof: contracts of the functions, walked by the D-machine. No condition. -/
import Derived.Test.YtmlhdhpjcipcdaaGreatDoorFd
set_option linter.unusedSimpArgs false
set_option linter.unusedVariables false
set_option maxHeartbeats 16000000
set_option maxRecDepth 100000
namespace Go.Proofs.Dm
open Go Go.Proofs Go.Proofs.Tryz Go.Proofs.Dm.Sc
namespace Fo
attribute [local simp] encT encC takes handsOn isTmp Op.operands Call.operands
def tJ (l:List Tok) (src:List ByteArray) (x:LS) (i:Nat) (t:Tok) (c p:DV) (st:St):Prop:=∃a,fresh a 2∧st.hp= [lbox a l src x,(encT t).map .p]∧st.tm 0= .ref 0 0∧st.tm 1=i64 (i:Nat)∧st.tm 4= .ref 1 0∧(c≠ .un→st.tm 5=c)∧(p≠ .un→st.tm 6=p)
def tK (l:List Tok) (src:List ByteArray) (x:LS) (i:Nat) (t:Tok) (st:St):Prop:=st.hp= [lbox (.ref 0 2) l src x,(encT t).map .p]∧st.tm 0= .ref 0 0∧st.tm 1=i64 (i:Nat)∧st.tm 4= .ref 1 0
abbrev bD (b:Bool):DV:= .p (.bool b)
theorem tok_ok {W0 nb l src x a y} {i:Nat} {t:Tok} (hf:fresh a 2) (hx:Fits l src x) (hx2:Fits l src {x with opn:=if isO t [125]then x.opn - 1 else x.opn}) (hi:l[i]? =some t) (hl:t.line < 1000000000) (hs:t.text.size≤1000000000) (hz2:∀z,sepS l src {x with opn:=if isO t [125]then x.opn - 1 else x.opn} i t=some z→z.out.size≤1000000001000∧ -1000000000 < z.opn∧z.opn < 1000000000) (h:tokS l src x i t=some y):
  DCalls ⟨Tryz.prog,W0,nb⟩ 55 [.ref 0 0,i64 (i:Nat)] [lbox a l src x] (.tup []) [lbox (.ref 0 2) l src y]:=by
 have hr:=fresh_refs hf;have hm:=fresh_map hf;have ho:=fresh_own hf;have hz:=fresh_fz hf;have hf2:fresh (.ref 0 2) 2:= .inr rfl;have hsp:spB.size=1:=rfl;have e3:(⟨#[125]⟩:ByteArray).toList= [125]:=by kernel_rfl
 have e4:(⟨#[123]⟩:ByteArray).toList= [123]:=by kernel_rfl
 have c1:=fis_ok (W0:=W0) (nb:=nb) (t:=t) (x:=⟨#[125]⟩);have c2:=fis_ok (W0:=W0) (nb:=nb) (t:=t) (x:=⟨#[123]⟩);rw[e3]at c1;rw[e4]at c2;have hil:i < l.length:=(List.getElem?_eq_some_iff.1 hi).1;have hlen:=hx.len;unfold tokS at h;generalize hcl:isO t [125]=cl at *;generalize hop:isO t [123]=op at *;obtain⟨X,hX⟩:∃X:LS,X={x with opn:=if cl then x.opn - 1 else x.opn}:=⟨_,rfl⟩
 rw[←hX]at h hz2 hx2;cases hq:sepS l src X i t with
 | none=>rw[hq]at h;cases h
 | some z=>
 rw[hq]at h;dsimp only at h;injection h with h
 obtain⟨hzs,hzo1,hzo2⟩:=hz2 z hq;refine dcalls_end Tryz.func55 rfl (by kernel_rfl) 114 Tryz.ntmps55 #[] rfl (Nat.le_of_ble_eq_true rfl) ?_;refine cwp_cut (tJ l src x i t .un .un) ?_ ?_
 ·simp[lbox,hr,hm,ho,hz,hi];exact⟨a,hf,by simp[lbox],by simp,by simp,by simp,by simp,by simp⟩
 clear hm ho hz hr hf;rintro⟨tm,hp⟩ ⟨a,hf,g0,g1,g2,g4,g5,g6⟩;simp only at g0 g1 g2 g4 g5 g6;subst g0;have hr:=fresh_refs hf;have hm:=fresh_map hf;have ho:=fresh_own hf;have hz:=fresh_fz hf;refine cwp_cut (tJ l src x i t (bD cl) .un) ?_ ?_
 ·simp[lbox,g1,g2,g4,hr,hm,ho,hz];refine CallGoal.same c1 ?_;simp;exact⟨a,hf,by simp[lbox],by simp[g1],by simp[g2],by simp[g4],by simp,by simp⟩
 clear g1 g2 g4 g5 g6;clear hm ho hz hr hf;rintro⟨tm,hp⟩ ⟨a,hf,g0,g1,g2,g4,g5,g6⟩;simp only at g0 g1 g2 g4 g5 g6;subst g0;have hr:=fresh_refs hf;have hm:=fresh_map hf;have ho:=fresh_own hf;have hz:=fresh_fz hf;have g5:=g5 (by simp);refine cwp_cut (tJ l src X i t (bD cl) .un) ?_ ?_
 ·have hw:=w64_id (n:=x.opn - 1) (by have:=hx.opn;omega) (by have:=hx.opn;omega);simp only[w64]at hw;cases cl with
  | true=>
   simp[lbox,g1,g2,g4,g5,hr,hm,ho,hz,hw];exact⟨a,hf,by simp[lbox,hX,hw],by simp[g1],by simp[g2],by simp[g4],by simp[g5],by simp⟩
  | false=>
   simp[lbox,g1,g2,g4,g5,hr,hm,ho,hz];exact⟨a,hf,by simp[lbox,hX],by simp[g1],by simp[g2],by simp[g4],by simp[g5],by simp⟩
 clear hX hx;clear g1 g2 g4 g5 g6;clear hm ho hz hr hf;rintro⟨tm,hp⟩ ⟨a,hf,g0,g1,g2,g4,g5,g6⟩;simp only at g0 g1 g2 g4 g5 g6;subst g0;have hr:=fresh_refs hf;have hm:=fresh_map hf;have ho:=fresh_own hf;have hz:=fresh_fz hf;have g5:=g5 (by simp);clear g6;generalize hpa:(cl&&isO (endT l X) [123]&& !X.aside)=pair at *;have ce:=end_ok (W0:=W0) (nb:=nb) (l:=l) (src:=src) (x:=X) hf (by have:=hx2.len;omega) hx2.last;have ci:=fis_ok (W0:=W0) (nb:=nb) (t:=endT l X) (x:=⟨#[123]⟩);rw[e4]at ci;simp only[lbox]at ce;refine cwp_cut (tJ l src X i t (bD cl) (bD pair)) ?_ ?_
 ·cases cl with
  | false=>
   simp at hpa;subst hpa;simp[lbox,g1,g2,g4,g5,hr,hm,ho,hz];exact⟨a,hf,by simp[lbox],by simp[g1],by simp[g2],by simp[g4],by simp[g5],by simp⟩
  | true=>
   simp[lbox,g1,g2,g4,g5,hr,hm,ho,hz];refine CallGoal.same ce ?_;simp[lbox,g1,g2,g4,g5,hr,hm,ho,hz];refine CallGoal.same ci ?_;cases he:isO (endT l X) [123]with
   | false=>
    rw[he]at hpa;simp at hpa;subst hpa;simp[lbox,g1,g2,g4,g5,hr,hm,ho,hz];exact⟨a,hf,by simp[lbox],by simp[g1],by simp[g2],by simp[g4],by simp[g5],by simp⟩
   | true=>
    rw[he]at hpa;simp only[Bool.true_and]at hpa;subst hpa;simp[lbox,g1,g2,g4,g5,hr,hm,ho,hz];exact⟨a,hf,by simp[lbox],by simp[g1],by simp[g2],by simp[g4],by simp[g5],by simp⟩
 clear g1 g2 g4 g5;clear ce;clear hm ho hz hr hf;rintro⟨tm,hp⟩ ⟨a,hf,g0,g1,g2,g4,g5,g6⟩;simp only at g0 g1 g2 g4 g5 g6;subst g0;have hr:=fresh_refs hf;have hm:=fresh_map hf;have ho:=fresh_own hf;have hz:=fresh_fz hf;have g5:=g5 (by simp);have g6:=g6 (by simp);have hX4:=hx2;obtain⟨b1,b2,b3,b4,b5,b6⟩:=hX4;have ca:=ahead_ok (W0:=W0) (nb:=nb) (l:=l) (src:=src) (x:=X) hf (by omega) b3;have ce:=end_ok (W0:=W0) (nb:=nb) (l:=l) (src:=src) (x:=X) hf (by omega) b3;have cs:=space_ok (W0:=W0) (nb:=nb) (p:=aheadT l X) (a:=endT l X) (b:=t);have cw:=write_ok (W0:=W0) (nb:=nb) (l:=l) (src:=src) (x:=X) (s:=spB) hf (by rw[hsp];omega);simp only[lbox]at ca ce cw;simp only[spB]at cw;refine cwp_cut (tJ l src z i t .un .un) ?_ ?_
 ·have h:=hq;unfold sepS at h;dsimp only at h;rw[hcl,hpa]at h;rcases Int.lt_or_le X.last 0 with h1 | h1
  ·rw[if_pos (by simp[h1])]at h;have cb:=begin_ok (W0:=W0) (nb:=nb) hf hx2 hl (by omega) h;simp only[lbox]at cb;simp[lbox,g1,g2,g4,g5,g6,hr,hm,ho,hz,h1];refine CallGoal.same cb ?_;simp;exact⟨_,hf2,by simp[lbox],by simp[g1],by simp[g2],by simp[g4],by simp,by simp⟩
  have h1':¬X.last < 0:=by omega
  cases h2:X.aside with
  | true=>
   rw[if_pos (by simp[h2])]at h;have cb:=begin_ok (W0:=W0) (nb:=nb) hf hx2 hl (by omega) h;simp only[lbox]at cb;rw[h2]at cb;simp[lbox,g1,g2,g4,g5,g6,hr,hm,ho,hz,h1',h2];refine CallGoal.same cb ?_;simp;exact⟨_,hf2,by simp[lbox],by simp[g1],by simp[g2],by simp[g4],by simp,by simp⟩
  | false=>
   rw[h2]at ca ce cw;cases hp5:pair with
   | true=>
    rw[hp5]at g6;rw[if_neg (by simp[h1',h2,hp5])]at h;simp[lbox,g1,g2,g4,g5,g6,hr,hm,ho,hz,h1',h2]
    try simp[lbox,g1,g2,g4,g5,hr,hm,ho,hz]
    refine drawWp.intro [(1,4),(3,4)] [4] mixed (by kernel_rfl) (by kernel_rfl) (by kernel_rfl) ?_;simp[lbox,g1,g2,g4,g5,hr,hm,ho,hz];refine CallGoal.same ca ?_;simp[lbox,g1,g2,g4,g5,hr,hm,ho,hz];refine CallGoal.same ce ?_;simp[lbox,g1,g2,g4,g5,hr,hm,ho,hz];refine CallGoal.same cs ?_;simp[lbox,g1,g2,g4,g5,hr,hm,ho,hz];refine⟨by simp[hr,hm,g1,g2,g4],by simp[hr,hm,g1,g2,g4],?_⟩;cases hsp:spaceT (aheadT l X) (endT l X) t with
    | true=>
     rw[hsp,if_pos rfl]at h;injection h with h;subst h
     simp[lbox,g1,g2,g4,g5,hr,hm,ho,hz];refine CallGoal.same cw ?_;simp;exact⟨_,hf2,by simp[lbox,spB,h2],by simp[g1],by simp[g2],by simp[g4],by simp,by simp⟩
    | false=>
     rw[hsp]at h;simp only[Bool.false_eq_true,if_false,Option.some.injEq]at h;subst h;simp[lbox,g1,g2,g4,g5,hr,hm,ho,hz];exact⟨_,hf,by simp[lbox,h2],by simp[g1],by simp[g2],by simp[g4],by simp,by simp⟩
   | false=>
    rw[hp5]at g6;cases h3:X.semi with
    | true=>
     rw[if_pos (by simp[h3,hp5])]at h;have cb:=begin_ok (W0:=W0) (nb:=nb) hf hx2 hl (by omega) h;simp only[lbox]at cb;rw[h2,h3]at cb;simp[lbox,g1,g2,g4,g5,g6,hr,hm,ho,hz,h1',h2,h3];refine CallGoal.same cb ?_;simp;exact⟨_,hf2,by simp[lbox],by simp[g1],by simp[g2],by simp[g4],by simp,by simp⟩
    | false=>
     rw[h3]at ca ce cw;cases hcl2:cl with
     | true=>
      rw[hcl2]at g5;rw[if_pos (by simp[h3,hp5,hcl2])]at h;have cb:=begin_ok (W0:=W0) (nb:=nb) hf hx2 hl (by omega) h;simp only[lbox]at cb;rw[h2,h3,hcl2]at cb;simp[lbox,g1,g2,g4,g5,g6,hr,hm,ho,hz,h1',h2,h3];refine CallGoal.same cb ?_;simp;exact⟨_,hf2,by simp[lbox],by simp[g1],by simp[g2],by simp[g4],by simp,by simp⟩
     | false=>
      rw[hcl2]at g5;simp[lbox,g1,g2,g4,g5,g6,hr,hm,ho,hz,h1',h2,h3];refine CallGoal.same ce ?_;simp[lbox,g1,g2,g4,g5,g6,hr,hm,ho,hz,h1',h2,h3];refine CallGoal.same ci ?_;cases he:isO (endT l X) [123]with
      | true=>
       rw[if_pos (by simp[h3,hp5,hcl2,he])]at h;have cb:=begin_ok (W0:=W0) (nb:=nb) hf hx2 hl (by omega) h;simp only[lbox]at cb;rw[h2,h3,hcl2]at cb;simp[lbox,g1,g2,g4,g5,g6,hr,hm,ho,hz,h1',h2,h3];refine CallGoal.same cb ?_;simp;exact⟨_,hf2,by simp[lbox],by simp[g1],by simp[g2],by simp[g4],by simp,by simp⟩
      | false=>
       rw[if_neg (by simp[h1',h2,h3,hp5,hcl2,he])]at h;simp[lbox,g1,g2,g4,g5,g6,hr,hm,ho,hz,h1',h2,h3]
       try simp[lbox,g1,g2,g4,g5,hr,hm,ho,hz]
       refine drawWp.intro [(1,4),(3,4)] [4] mixed (by kernel_rfl) (by kernel_rfl) (by kernel_rfl) ?_;simp[lbox,g1,g2,g4,g5,hr,hm,ho,hz];refine CallGoal.same ca ?_;simp[lbox,g1,g2,g4,g5,hr,hm,ho,hz];refine CallGoal.same ce ?_;simp[lbox,g1,g2,g4,g5,hr,hm,ho,hz];refine CallGoal.same cs ?_;simp[lbox,g1,g2,g4,g5,hr,hm,ho,hz];refine⟨by simp[hr,hm,g1,g2,g4],by simp[hr,hm,g1,g2,g4],?_⟩;cases hsp:spaceT (aheadT l X) (endT l X) t with
       | true=>
        rw[hsp,if_pos rfl]at h;injection h with h;subst h
        simp[lbox,g1,g2,g4,g5,hr,hm,ho,hz];refine CallGoal.same cw ?_;simp;exact⟨_,hf2,by simp[lbox,spB,h2,h3],by simp[g1],by simp[g2],by simp[g4],by simp,by simp⟩
       | false=>
        rw[hsp]at h;simp only[Bool.false_eq_true,if_false,Option.some.injEq]at h;subst h;simp[lbox,g1,g2,g4,g5,hr,hm,ho,hz];exact⟨_,hf,by simp[lbox,h2,h3],by simp[g1],by simp[g2],by simp[g4],by simp,by simp⟩
 clear g1 g2 g4 g5 g6 ca ce cs cw b1 b2 b3 b4 b5 b6 hx2 hz2 ci;clear hm ho hz hr hf;rintro⟨tm,hp⟩ ⟨a,hf,g0,g1,g2,g4,g5,g6⟩;simp only at g0 g1 g2 g4 g5 g6;subst g0;have hr:=fresh_refs hf;have hm:=fresh_map hf;have ho:=fresh_own hf;have hz:=fresh_fz hf;clear g5 g6;have cw2:=write_ok (W0:=W0) (nb:=nb) (l:=l) (src:=src) (x:=z) (s:=t.text) hf (by omega);simp only[lbox]at cw2;refine cwp_cut (tK l src {z with out:=z.out ++ t.text} i t) ?_ ?_
 ·simp[lbox,g1,g2,g4,hr,hm,ho,hz];refine drawWp.intro [] [4] mixed (by kernel_rfl) (by kernel_rfl) (by kernel_rfl) ?_;simp[lbox,g1,g2,g4,hr,hm,ho,hz];refine CallGoal.same cw2 ?_;simp[lbox,g1,g2,g4,hr,hm,ho,hz];refine⟨by simp[hr,hm,g1,g2,g4],by simp[hr,hm,g1,g2,g4],?_⟩
  try simp[lbox,g1,g2,g4,hr,hm,ho,hz]
  exact⟨by simp[lbox],by simp[g1],by simp[g2],by simp[g4]⟩
 generalize hz':({z with out:=z.out ++ t.text}:LS)=z2;have hzo:z2.opn=z.opn:=by rw[←hz']
 clear g1 g2 g4 cw2;clear hm ho hz hr hf;rintro⟨tm,hp⟩ ⟨g0,g1,g2,g4⟩;simp only at g0 g1 g2 g4;subst g0;have hf:=hf2;have hr:=fresh_refs hf;have hm:=fresh_map hf;have ho:=fresh_own hf;have hz:=fresh_fz hf;have hw:=w64_id (n:=z2.opn + 1) (by omega) (by omega);simp only[w64]at hw;refine cwp_cut (tK l src {z2 with opn:=if op then z2.opn + 1 else z2.opn} i t) ?_ ?_
 ·simp[lbox,g1,g2,g4,hr,hm,ho,hz];refine CallGoal.same c2 ?_;cases op with
  | true=>
   simp[lbox,g1,g2,g4,hr,hm,ho,hz,hw];exact⟨by simp[lbox,hw],by simp[g1],by simp[g2],by simp[g4]⟩
  | false=>
   simp[lbox,g1,g2,g4,hr,hm,ho,hz];exact⟨by simp[lbox],by simp[g1],by simp[g2],by simp[g4]⟩
 clear g1 g2 g4;clear hm ho hz hr hf;rintro⟨tm,hp⟩ ⟨g0,g1,g2,g4⟩;simp only at g0 g1 g2 g4;subst g0;have hf:=hf2;have hr:=fresh_refs hf;have hm:=fresh_map hf;have ho:=fresh_own hf;have hz:=fresh_fz hf;simp[lbox,g1,g2,g4,hr,hm,ho,hz];refine drawWp.intro [(6,9)] [6,9,12,15] mixed (by kernel_rfl) (by kernel_rfl) (by kernel_rfl) ?_;simp[lbox,g1,g2,g4,hr,hm,ho,hz];refine⟨by simp[hr,hm,g1,g2,g4],by simp[hr,hm,g1,g2,g4],?_⟩;simp[lbox,g1,g2,g4,hr,hm,ho,hz];subst hz';subst h;exact .keep (by simp[lbox,bytesR_append]) (.refl _) (by simp) (by simp[lbox,bytesR_append]) (by simp[lbox,bytesR_append]) (by simp[lbox,bytesR_append])
end Fo
end Go.Proofs.Dm
