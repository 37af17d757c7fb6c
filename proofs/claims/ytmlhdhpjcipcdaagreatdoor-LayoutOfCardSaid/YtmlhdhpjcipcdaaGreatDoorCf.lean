/- Part of the proof: what the walked functions compute. No condition. -/
import Derived.Test.YtmlhdhpjcipcdaaGreatDoorCe
import Derived.Test.YtmlhdhpjcipcdaaGreatDoorYy
import Derived.Test.YtmlhdhpjcipcdaaGreatDoorCd
set_option linter.unusedSimpArgs false
set_option linter.unusedVariables false
set_option maxHeartbeats 4000000
namespace Go.Proofs.Dm
open Go Go.Proofs Go.Proofs.Dm.Sc
open Fo (isO zeroT nlB trimR linesP)
namespace Rf
theorem fault_ref (s:ByteArray):La.faultS s=refF s:=by
 unfold La.faultS refF;rw[ends_suffix];cases h1:decide (0≤(scanP s).2.2)with
 | true=>rfl
 | false=>
  cases h2:endsNl s with
  | false=>rfl
  | true=>
   simp only[Bool.or_self,Bool.not_true,Bool.false_eq_true,if_false];rw[chop_lines h2];exact go_right _ 0 0 0 rfl (Nat.zero_le _) (fun k t q=>by omega)
end Rf
end Go.Proofs.Dm
set_option maxHeartbeats 16000000
set_option maxRecDepth 100000
namespace Go.Proofs.Dm
open Go Go.Proofs Go.Proofs.Tryz Go.Proofs.Dm.Sc
open Fo (linesP)
namespace Rf
attribute [local simp] encT encC takes handsOn isTmp Op.operands Call.operands
theorem lay_right {s:ByteArray} (hs:s.size < 10000000) (h:(fmtP s).2 < 0):refF (layT s)= -1:=by
 obtain⟨h1,h2,_⟩:=fmt_good h;obtain⟨g1,g2,g3,g4⟩:=laid_ok (Gr.parsed hs h1) h2;obtain⟨k1,_⟩:=Gr.parsed_same hs (t:=layT s) (by omega) h1 g1 (.inr g2);have hn:(Gr.textP (layT s)).2.2 < 0:=by rw[k1];decide
 obtain⟨_,_,hb⟩:=Gr.text_bal (s:=layT s) (by omega) hn;exact laid_right (Gr.parsed (by omega) hn) hb g4
theorem lfaultB_ok {W0 nb} {s:ByteArray} (h2:2≤nb) (hT:Lib.Utf8Tabs 0 1 W0) (hs:s.size < 100000):DCalls ⟨Tryz.prog,W0,nb⟩ 41 [.p (.str s)] [] (i64 (refF s)) []:=by
 rw[←fault_ref];have hc:=La.chop_size s;refine La.fault_ok h2 hT hs ?_ ?_ (fun x hx=> ?_)
 ·rcases Int.lt_or_le (scanP s).2.2 0 with h | h
  ·obtain⟨_,_,hl⟩:=Gr.scan_good (s:=s) (by omega) h;omega
  ·have:(scanP s).1= []:=by
    unfold scanP at h⊢;dsimp only at h⊢;split at h
    ·rename_i q;rw[if_pos q]
    ·exact absurd h (by simp only;omega)
   rw[this];simp
 ·have:=Gr.lines_len (La.chop s);have hcount:(La.chop s).data.toList.count 10≤(La.chop s).size:=by rw[ba_size];exact List.count_le_length
  omega
 ·have:=lines_short (La.chop s) x hx;omega
theorem lrightB_ok {W0 nb} {s:ByteArray} (h2:2≤nb) (hT:Lib.Utf8Tabs 0 1 W0) (hs:s.size < 100000):DCalls ⟨Tryz.prog,W0,nb⟩ 42 [.p (.str s)] [] (.p (.bool (refF s== -1))) []:=by
 have c:=lfaultB_ok (W0:=W0) (nb:=nb) h2 hT hs;refine dcalls_end Tryz.func42 rfl (by kernel_rfl) 6 Tryz.ntmps42 #[.tmp 2] rfl (Nat.le_of_ble_eq_true rfl) ?_;simp;refine CallGoal.same c ?_;simp;exact .keep (by simp) (.refl _) (by simp) (by simp) (by simp) (by simp)
theorem layoutOf_ok {W0 nb} (h2:2≤nb) (hT:Lib.Utf8Tabs 0 1 W0) {s:ByteArray}:DCalls ⟨Tryz.prog,W0,nb⟩ 17 [.p (.str s)] [] (.p (.bool true)) []:=by
 have c0:=La.begun18_ok (W0:=W0) (nb:=nb) h2 hT;have c1:=cutA_ok (W0:=W0) (nb:=nb) (s:=s) (n:=1500) (by decide);have hz:=cutA_size s 1500;generalize cutA s 1500=a at *;have c2:=ftextA_ok (W0:=W0) (nb:=nb) h2 hT (s:=a) (by omega);rcases Int.lt_or_le (fmtP a).2 0 with h | h
 ·obtain⟨h3,h4,e1⟩:=fmt_good h;have hr:=lay_right (by omega) h;rw[e1]at c2;have c3:=lrightB_ok (W0:=W0) (nb:=nb) h2 hT (s:=layT a) (by omega);rw[hr]at c3;simp only[ba_toArray]at c2;generalize layT a=t at *;refine dcalls_end Tryz.func17 rfl (by kernel_rfl) 21 Tryz.ntmps17 #[.tmp 2] rfl (Nat.le_of_ble_eq_true rfl) ?_;simp;refine CallGoal.same c0 ?_;simp;refine CallGoal.same c1 ?_;simp;refine CallGoal.same c2 ?_;simp;refine CallGoal.same c3 ?_;simp;exact .keep (by simp) (.refl _) (by simp) (by simp) (by simp) (by simp)
 ·generalize (fmtP a).2=f at *;generalize (⟨(fmtP a).1.toArray⟩:ByteArray)=t at *;refine dcalls_end Tryz.func17 rfl (by kernel_rfl) 21 Tryz.ntmps17 #[.tmp 2] rfl (Nat.le_of_ble_eq_true rfl) ?_;simp;refine CallGoal.same c0 ?_;simp;refine CallGoal.same c1 ?_;simp;refine CallGoal.same c2 ?_;simp[h];exact .keep (by simp[h]) (.refl _) (by simp) (by simp[h]) (by simp[h]) (by simp[h])
end Rf
end Go.Proofs.Dm
