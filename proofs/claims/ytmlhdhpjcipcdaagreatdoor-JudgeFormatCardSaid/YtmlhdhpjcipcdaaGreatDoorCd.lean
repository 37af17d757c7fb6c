/- Part of the proof: what the walked functions compute. No condition. -/
import Derived.Test.YtmlhdhpjcipcdaaGreatDoorCc
import Derived.Test.YtmlhdhpjcipcdaaGreatDoorBb
set_option linter.unusedSimpArgs false
set_option linter.unusedVariables false
set_option maxHeartbeats 16000000
set_option maxRecDepth 100000
namespace Go.Proofs.Dm
open Go Go.Proofs Go.Proofs.Tryz Go.Proofs.Dm.Sc
namespace Rf
attribute [local simp] encT encC takes handsOn isTmp Op.operands Call.operands
theorem fmt_bad {s:ByteArray} (h:0≤(fmtP s).2):(fmtP s).1= []:=by
 unfold fmtP at h⊢;split
 ·rfl
 ·split
  ·rfl
  ·rename_i h1 h2;rw[if_neg h1,if_neg h2]at h;exact absurd h (show ¬(0:Int)≤ -1 by decide)
theorem fmt_good {s:ByteArray} (h:(fmtP s).2 < 0):(Gr.textP s).2.2 < 0∧(layT s).size≤2000∧fmtP s=((layT s).data.toList,-1):=by
 unfold fmtP at h⊢;split at h
 ·omega
 ·rename_i h1;split at h
  ·exact absurd h (by decide)
  ·rename_i h2;rw[if_neg h1,if_neg h2];exact⟨by omega,by unfold layT;omega,rfl⟩
theorem fmt_of {s:ByteArray} (h1:(Gr.textP s).2.2 < 0) (h2:(layT s).size≤2000):fmtP s=((layT s).data.toList,-1):=by
 unfold fmtP;rw[if_neg (by omega),if_neg (by unfold layT at h2;omega)];rfl
theorem fmt_again {s:ByteArray} (hs:s.size < 10000000) (h:(fmtP s).2 < 0):fmtP (layT s)=((layT s).data.toList,-1):=by
 obtain⟨h1,h2,_⟩:=fmt_good h;obtain⟨g1,g2,g3,g4⟩:=laid_ok (Gr.parsed hs h1) h2;obtain⟨k1,_⟩:=Gr.parsed_same hs (t:=layT s) (by omega) h1 g1 (.inr g2);have:=fmt_of (s:=layT s) (by rw[k1];decide) (by rw[g4];exact h2);rw[g4]at this;exact this
theorem ftextA_ok {W0 nb} {s:ByteArray} (h2:2≤nb) (hT:Lib.Utf8Tabs 0 1 W0) (hs:s.size < 100000):
  DCalls ⟨Tryz.prog,W0,nb⟩ 29 [.p (.str s)] [] (.tup [.p (.str ⟨(fmtP s).1.toArray⟩),i64 (fmtP s).2]) []:=Fo.fmt_eval h2 hT hs (fmtE_ok hs)
theorem fisA_ok {W0 nb} {s:ByteArray} (h2:2≤nb) (hT:Lib.Utf8Tabs 0 1 W0) (hs:s.size < 100000):
  DCalls ⟨Tryz.prog,W0,nb⟩ 31 [.p (.str s)] [] (.p (.bool (decide ((fmtP s).2 < 0)&&((fmtP s).1==s.toList)))) []:=Fo.is_eval h2 hT hs (fmtE_ok hs)
def cutA (s:ByteArray) (n:Nat):ByteArray:=if n < s.size then s.extract 0 n else s
theorem cutA_size (s:ByteArray) (n:Nat):(cutA s n).size≤n:=by
 unfold cutA;split
 ·simp;omega
 ·omega
theorem cutA_ok {W0 nb s} {n:Nat} (hn:n < 1000000):DCalls ⟨Tryz.prog,W0,nb⟩ 22 [.p (.str s),i64 (n:Nat)] [] (.p (.str (cutA s n))) []:=by
 refine dcalls_end Tryz.func22 rfl (by kernel_rfl) 13 Tryz.ntmps22 #[.tmp 4] rfl (Nat.le_of_ble_eq_true rfl) ?_;simp
 by_cases h:n < s.size
 ·simp[h,cutA,Nat.le_of_lt h];exact .keep (by simp) (.refl _) (by simp) (by simp) (by simp) (by simp)
 ·simp[h,cutA];exact .keep (by simp) (.refl _) (by simp) (by simp) (by simp) (by simp)
theorem formatAgain_ok {W0 nb} (h2:2≤nb) (hT:Lib.Utf8Tabs 0 1 W0) {s:ByteArray}:DCalls ⟨Tryz.prog,W0,nb⟩ 7 [.p (.str s)] [] (.p (.bool true)) []:=by
 have c0:=Fo.begun17_ok (W0:=W0) (nb:=nb) h2 hT;have c1:=cutA_ok (W0:=W0) (nb:=nb) (s:=s) (n:=1500) (by decide);have hz:=cutA_size s 1500;generalize cutA s 1500=a at *;have c2:=ftextA_ok (W0:=W0) (nb:=nb) h2 hT (s:=a) (by omega);rcases Int.lt_or_le (fmtP a).2 0 with h | h
 ·obtain⟨h3,h4,e1⟩:=fmt_good h;have e2:=fmt_again (by omega) h;rw[e1]at c2;have c3:=ftextA_ok (W0:=W0) (nb:=nb) h2 hT (s:=layT a) (by omega);have c4:=fisA_ok (W0:=W0) (nb:=nb) h2 hT (s:=layT a) (by omega);rw[e2]at c3 c4;simp only[ba_toArray]at c2 c3 c4;have e3:(decide ((-1:Int)< 0)&&((layT a).data.toList==(layT a).toList))=true:=by rw[Lib.toList_data];simp
  rw[e3]at c4;generalize layT a=t at *;refine dcalls_end Tryz.func7 rfl (by kernel_rfl) 37 Tryz.ntmps7 #[.tmp 2] rfl (Nat.le_of_ble_eq_true rfl) ?_;simp;refine CallGoal.same c0 ?_;simp;refine CallGoal.same c1 ?_;simp;refine CallGoal.same c2 ?_;simp;refine CallGoal.same c3 ?_;simp;refine CallGoal.same c4 ?_;simp;exact .keep (by simp) (.refl _) (by simp) (by simp) (by simp) (by simp)
 ·have e1:=fmt_bad h;rw[e1]at c2;generalize (fmtP a).2=f at *;refine dcalls_end Tryz.func7 rfl (by kernel_rfl) 37 Tryz.ntmps7 #[.tmp 2] rfl (Nat.le_of_ble_eq_true rfl) ?_;simp;refine CallGoal.same c0 ?_;simp;refine CallGoal.same c1 ?_;simp;refine CallGoal.same c2 ?_;simp[h];exact .keep (by simp[h]) (.refl _) (by simp) (by simp[h]) (by simp[h]) (by simp[h])
end Rf
end Go.Proofs.Dm
