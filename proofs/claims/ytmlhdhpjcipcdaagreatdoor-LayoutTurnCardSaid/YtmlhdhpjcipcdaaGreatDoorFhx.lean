/- Part of the proof: contracts of the functions, walked by the D-machine. No condition. -/
import Derived.Test.YtmlhdhpjcipcdaaGreatDoorFgx
import Derived.Test.YtmlhdhpjcipcdaaGreatDoorVcx
set_option linter.unusedSimpArgs false
set_option linter.unusedVariables false
set_option maxHeartbeats 8000000
set_option maxRecDepth 100000
namespace Go.Proofs.Dm
open Go Go.Proofs Go.Proofs.Tryz Go.Proofs.Dm.Sc
namespace Fo
attribute [local simp] encT encC takes handsOn isTmp Op.operands Call.operands
def sizedB (l:List Tok) (cs:List Com) (src:List ByteArray):Bool:=
 decide (l.length≤300000)&&decide (cs.length≤300000)&&l.all (fun t=>decide (t.line < 1000000000)&&decide (t.text.size≤300000))&&
 cs.all (fun c=>decide (c.line < 1000000000)&&decide (c.next < 1000000000)&&decide (c.text.size≤300000))&&src.all (fun s=>decide (s.size≤9223372036854775807))
theorem sized_of {l cs src} (h:sizedB l cs src=true):Sized l cs src 300000:=by
 simp only[sizedB,Bool.and_eq_true,List.all_eq_true,decide_eq_true_eq]at h;obtain⟨⟨⟨⟨h1,h2⟩,h3⟩,h4⟩,h5⟩:=h;exact⟨h1,h2,h3,fun c hc=>⟨(h4 c hc).1.1,(h4 c hc).1.2,(h4 c hc).2⟩,h5,Nat.le_refl _⟩
def layE (l:List Tok) (cs:List Com) (src:List ByteArray):Option (List UInt8×Int):=
 if sizedB l cs src then(match layS l cs src with
  | some out=>some (if 2000 < out.size then([],2000)else(out.data.toList,-1))
  | none=>none)else none
def fmtE (s:ByteArray):Option (List UInt8×Int):=
 if decide (0≤(Gr.textP s).2.2)then some ([],(Gr.textP s).2.2)else layE (Gr.textP s).2.1 (scanP s).2.1 (linesP s)
theorem fmt_fault {W0 nb} {s:ByteArray} (h2:2≤nb) (hT:Lib.Utf8Tabs 0 1 W0) (hs:s.size < 100000) (hf:0≤(Gr.textP s).2.2):
  DCalls ⟨Tryz.prog,W0,nb⟩ 29 [.p (.str s)] [] (.tup [.p (.str ⟨#[]⟩),i64 (Gr.textP s).2.2]) []:=by
 have c1:=Gr.pText_ok (W0:=W0) (nb:=nb) h2 hT (s:=s) (by omega);obtain⟨R,hR⟩:∃R,Gr.textP s=R:=⟨_,rfl⟩
 rw[hR]at c1 hf⊢;obtain⟨⟨k,tt,ks⟩,l,f⟩:=R;simp only[encN]at c1;simp only at hf;refine dcalls_end Tryz.func29 rfl (by kernel_rfl) 96 Tryz.ntmps29 #[.tmp 2,.tmp 3] rfl (Nat.le_of_ble_eq_true rfl) ?_;simp;refine CallGoal.same c1 ?_;simp[hf];exact .kk
theorem fmt_eval {W0 nb} {s:ByteArray} {r:List UInt8} {f:Int} (h2:2≤nb) (hT:Lib.Utf8Tabs 0 1 W0) (hs:s.size < 100000) (h:fmtE s=some (r,f)):
  DCalls ⟨Tryz.prog,W0,nb⟩ 29 [.p (.str s)] [] (.tup [.p (.str ⟨r.toArray⟩),i64 f]) []:=by
 unfold fmtE at h;split at h
 ·rename_i hf;have:=fmt_fault (W0:=W0) (nb:=nb) h2 hT hs (of_decide_eq_true hf);simp only[Option.some.injEq,Prod.mk.injEq]at h;obtain⟨rfl,rfl⟩:=h;exact this
 ·rename_i hf;have hf':(Gr.textP s).2.2 < 0:=by
   have:¬0≤(Gr.textP s).2.2:=by simpa using hf
   omega
  unfold layE at h;split at h
  ·rename_i hz;split at h
   ·rename_i out ho;have:=fmt_ok (W0:=W0) (nb:=nb) h2 hT hs hf' (sized_of hz) ho;simp only[Option.some.injEq]at h;unfold fmtR at this
    by_cases h3:2000 < out.size
    ·rw[if_pos h3]at h;rw[if_pos h3,if_pos h3]at this;simp only[Prod.mk.injEq]at h;obtain⟨rfl,rfl⟩:=h;exact this
    ·rw[if_neg h3]at h;rw[if_neg h3,if_neg h3]at this;simp only[Prod.mk.injEq]at h;obtain⟨rfl,rfl⟩:=h;exact this
   ·cases h
  ·cases h
theorem is_eval {W0 nb} {s:ByteArray} {r:List UInt8} {f:Int} (h2:2≤nb) (hT:Lib.Utf8Tabs 0 1 W0) (hs:s.size < 100000) (h:fmtE s=some (r,f)):
  DCalls ⟨Tryz.prog,W0,nb⟩ 31 [.p (.str s)] [] (.p (.bool (decide (f < 0)&&(r==s.toList)))) []:=by
 have c:=fmt_eval (W0:=W0) (nb:=nb) h2 hT hs h;have e:(⟨r.toArray⟩:ByteArray).toList=r:=by rw[Lib.toList_data]
 refine dcalls_end Tryz.func31 rfl (by kernel_rfl) 17 Tryz.ntmps31 #[.tmp 2] rfl (Nat.le_of_ble_eq_true rfl) ?_;simp;refine CallGoal.same c ?_
 by_cases h3:f < 0
 ·simp[h3,e];exact .keep (by simp[h3,e]) (.refl _) (by simp) (by simp[h3,e]) (by simp[h3,e]) (by simp[h3,e])
 ·simp[h3];exact .keep (by simp[h3]) (.refl _) (by simp) (by simp[h3]) (by simp[h3]) (by simp[h3])
def t1:ByteArray:=⟨#[112,97,99,107,97,103,101,32,112,59,32,102,117,110,99,32,32,102,40,32,97,32,105,110,116,32,41,123,32,59,120,61,45,97,42,40,32,49,32,41,47,47,32,99,10,10,10,10,105,102,32,120,32,123,32,125,101,108,115,101,32,123,32,121,40,97,44,98,41,32,125,32,125]⟩
def t2:ByteArray:=⟨#[112,97,99,107,97,103,101,32,112,10,102,117,110,99,32,102,40,97,32,105,110,116,41,32,123,10,9,120,32,61,32,45,97,32,42,32,40,49,41,32,47,47,32,99,10,10,9,105,102,32,120,32,123,125,32,101,108,115,101,32,123,10,9,9,121,40,97,44,32,98,41,10,9,125,10,125,10]⟩
def t3:ByteArray:=⟨#[112,97,99,107,97,103,101]⟩
theorem k1:fmtE t1=some (t2.data.toList,-1):=by kernel_rfl
theorem k2:fmtE t2=some (t2.data.toList,-1):=by kernel_rfl
theorem k3:fmtE t3=some ([],7):=by kernel_rfl
theorem begun17_ok {W0 nb} (h2:2≤nb) (hT:Lib.Utf8Tabs 0 1 W0):DCalls ⟨Tryz.prog,W0,nb⟩ 28 [] [] (.p (.bool true)) []:=by
 have c1:=fmt_eval (W0:=W0) (nb:=nb) h2 hT (s:=t1) (by decide) k1;have c2:=fmt_eval (W0:=W0) (nb:=nb) h2 hT (s:=t3) (by decide) k3;have c3:=is_eval (W0:=W0) (nb:=nb) h2 hT (s:=t2) (by decide) k2;have c5:DCalls ⟨Tryz.prog,W0,nb⟩ 44 [] [] (.p (.bool true)) []:=by
  refine dcalls_end Tryz.func44 rfl (by kernel_rfl) 2 Tryz.ntmps44 #[.tmp 0] rfl (Nat.le_of_ble_eq_true rfl) ?_;simp;refine CallGoal.same (Pq.begun_ok h2 hT) ?_;simp;exact .kk
 have c6:DCalls ⟨Tryz.prog,W0,nb⟩ 51 [] [] (.p (.bool true)) []:=by
  refine dcalls_end Tryz.func51 rfl (by kernel_rfl) 2 Tryz.ntmps51 #[.tmp 0] rfl (Nat.le_of_ble_eq_true rfl) ?_;simp;refine CallGoal.same (Sh.begun_ok h2 hT) ?_;simp;exact .kk
 have e3:(decide ((-1:Int)< 0)&&(t2.data.toList==t2.toList))=true:=by rw[Lib.toList_data];simp
 rw[e3]at c3;have e1:(⟨t2.data.toList.toArray⟩:ByteArray)=t2:=rfl;rw[e1]at c1;simp only[t1,t2,t3]at c1 c2 c3;refine dcalls_end Tryz.func28 rfl (by kernel_rfl) 33 Tryz.ntmps28 #[.tmp 0] rfl (Nat.le_of_ble_eq_true rfl) ?_;simp;refine CallGoal.same c1 ?_;simp;refine CallGoal.same c2 ?_;simp;refine CallGoal.same c5 ?_;simp;refine CallGoal.same c6 ?_;simp;refine CallGoal.same c3 ?_;simp;exact .kk
end Fo
end Go.Proofs.Dm
