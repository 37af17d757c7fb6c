/- Part of the proof: contracts of the functions, walked by the D-machine. No condition. -/
import Derived.Test.YtmlhdhpjcipcdaaGreatDoorFa
import Derived.Test.YtmlhdhpjcipcdaaGreatDoorSb
set_option linter.unusedSimpArgs false
set_option linter.unusedVariables false
set_option maxHeartbeats 8000000
set_option maxRecDepth 100000
namespace Go.Proofs
open Go Go.RowKit Go.Shelf
theorem Tryz.infoA:(Tryz.prog.info? (Tryz.lays160_ren.t 116)).map (fun i=>(i.zero,i.size))=some (some (.agg (Array.replicate 256 (.bool false))),256):=by kernel_rfl
theorem Tryz.infoB:(Tryz.prog.info? (Tryz.lays162_ren.t 116)).map (fun i=>(i.zero,i.size))=some (some (.agg (Array.replicate 256 (.bool false))),256):=by kernel_rfl
set_option maxHeartbeats 1000000 in
theorem Any.split_nl {P:Program} {ρ:Ren} (L:Lays.n146 P ρ) (hi9:(P.info? (ρ.t 9)).map (fun i=>(i.zero,i.size,i.bytes))=some (some (.string ByteArray.empty),1,16)) (s:ByteArray) (w:World) (hs:s.size < 4294967281):
  Calls P (ρ.f 146) #[.string s,.string ⟨#[10]⟩] w fun e w'=>
   e= .returned (.slice (some ⟨w.heap.size,0,none⟩) (Lib.countB s ⟨#[10]⟩ + 1) (Lib.countB s ⟨#[10]⟩ + 1))∧w'=w.alloc (.cells ((Lib.splitB ⟨#[10]⟩ 0 (Lib.countB s ⟨#[10]⟩) s).map Value.string).toArray (ρ.t 9)):=by
 have h1:1≤(⟨#[10]⟩:ByteArray).size:=Nat.le_refl 1;have hle:=Lib.countB_le ⟨#[10]⟩ h1 s.size s (Nat.le_refl _);have hlen:=Lib.splitB_all ⟨#[10]⟩ h1 0 _ s rfl;have c:=Any.strings_genSplit_core {L with} hi9 s ⟨#[10]⟩ 0 (-1) (Lib.countB s ⟨#[10]⟩ + 1) w hs h1 (Nat.zero_le _)
  (fun x c _=>(Any.strings_Index_one {L with} x 10 _).mono fun e w' ⟨he,hw⟩=>⟨by rw[he];show Ending.returned (Value.int .i64 (Lib.indexByte x.data.toList 10))=Ending.returned (Value.int .i64 (Lib.index x.data.toList [10]));rw[Lib.index_one],hw⟩)
  ((Any.strings_Count_one {L with} s 10 w).mono fun e w' ⟨he,hw⟩=>⟨by
   rw[he];show _=Ending.returned (Value.int .i64 ((Lib.count s.data.toList [10]:Nat):Int));rw[Lib.count_one];rfl,hw⟩) (by decide) (by decide) (by rw[if_pos (by decide)];omega)
 rw[Nat.add_sub_cancel,hlen]at c;have e2:Lib.cellsOf (Lib.splitB ⟨#[10]⟩ 0 (Lib.countB s ⟨#[10]⟩) s) (Lib.countB s ⟨#[10]⟩ + 1)=((Lib.splitB ⟨#[10]⟩ 0 (Lib.countB s ⟨#[10]⟩) s).map Value.string).toArray:=by rw[←hlen];exact Lib.cellsOf_full _
 rw[e2]at c;have t3:=L.t3;have t9:=L.t9;have t31:=L.t31;have a3:=L.a3;have a9:=L.a9;have a31:=L.a31;have z3:=L.z3;have v3:=L.v3;have z9:=L.z9;have v9:=L.v9;have z31:=L.z31;have v31:=L.v31;have e221:∀args w,(callFunc (ρ.f 221) args).run P w= .ok (.enter (ρ.f 221) args) w:=enters_of L.f221 (by kernel_rfl) rfl
 go_enter L.f146,Body.n146_ntmps ρ
 go_wp2_with (go_at_fn (ρ.f 221);refine c.mono ?_;rintro e w' ⟨rfl,hw⟩;rw[hw])
 go_ret
 exact⟨rfl,rfl⟩
namespace Dm.Fo
open Dm Dm.Sc Go.Proofs.Tryz
attribute [local simp] encT encC takes handsOn isTmp Op.operands Call.operands
theorem ascii2:∀(j:Nat) b,(⟨#[32,9]⟩:ByteArray).data.toList[j]? =some b→b.toNat < 128:=by
 intro j b hj
 match j,hj with
 | 0,hj=>simp at hj;subst hj;decide
 | 1,hj=>simp at hj;subst hj;decide
 | j + 2,hj=>simp at hj
def trimB2 (s:ByteArray):ByteArray:=⟨(Lib.trimS s.data.toList [32,9]).toArray⟩
theorem trim2_ok {W0 nb s} (hs:s.size≤9223372036854775807):DCalls ⟨Tryz.prog,W0,nb⟩ 185 [.p (.str s),.p (.str ⟨#[32,9]⟩)] [] (.p (.str (trimB2 s))) []:=
 dcalls_foreign (vs := [.string s, .string ⟨#[32, 9]⟩]) (v := .string (trimB2 s)) ⟨_, Tryz.func185, by kernel_rfl, rfl⟩ (fun w h ρ O ws r => by
     simp only[RepDs,RepD,Rep]at r
     obtain⟨v1,r1,rfl,h1,v2,r2,rfl,h2,h3⟩:=r
     rw[h1,h2,h3]) (fun w h ρ O=>by simp only[RepD,Rep])
   (fun w _ _=>(Any.strings_Trim_laid Tryz.lays160 Tryz.infoA s ⟨#[32,9]⟩ w hs (by decide) ascii2).mono (by rintro e w' ⟨rfl,hb⟩;exact⟨rfl,hb⟩))
theorem trimR_ok {W0 nb s} (hs:s.size≤9223372036854775807):DCalls ⟨Tryz.prog,W0,nb⟩ 80 [.p (.str s),.p (.str ⟨#[32,9]⟩)] [] (.p (.str (trimR s))) []:=
 dcalls_foreign (vs := [.string s, .string ⟨#[32, 9]⟩]) (v := .string (trimR s)) ⟨_, Tryz.func80, by kernel_rfl, rfl⟩ (fun w h ρ O ws r => by
     simp only[RepDs,RepD,Rep]at r
     obtain⟨v1,r1,rfl,h1,v2,r2,rfl,h2,h3⟩:=r
     rw[h1,h2,h3]) (fun w h ρ O=>by simp only[RepD,Rep])
   (fun w _ _=>(Any.strings_TrimRight_laid Tryz.lays162 Tryz.infoB s ⟨#[32,9]⟩ w hs (by decide) ascii2).mono (by rintro e w' ⟨rfl,hb⟩;exact⟨rfl,hb⟩))
theorem hp_ok {W0 nb} {s p:ByteArray}:DCalls ⟨Tryz.prog,W0,nb⟩ 81 [.p (.str s),.p (.str p)] [] (.p (.bool (Lib.hasPrefix s.data.toList p.data.toList))) []:=
 dcalls_foreign (vs := [.string s, .string p]) (v := .bool (Lib.hasPrefix s.data.toList p.data.toList)) ⟨_, Tryz.func81, by kernel_rfl, rfl⟩ (fun w h ρ O ws r => by
     simp only[RepDs,RepD,Rep]at r
     obtain⟨v1,r1,rfl,h1,v2,r2,rfl,h2,h3⟩:=r
     rw[h1,h2,h3]) (fun w h ρ O=>by simp only[RepD,Rep])
   (fun w _ _=>(Tryz.strings_HasPrefix s p w).mono (by rintro e w' ⟨rfl,rfl⟩;exact⟨rfl,Below.refl _ _⟩))
theorem hp_of {W0 nb} {s p:ByteArray} {b:Bool} (h:Lib.hasPrefix s.data.toList p.data.toList=b):DCalls ⟨Tryz.prog,W0,nb⟩ 81 [.p (.str s),.p (.str p)] [] (.p (.bool b)) []:=h▸hp_ok
theorem mul_ok {W0 nb} {n:Nat} (hn:n≤64):DCalls ⟨Tryz.prog,W0,nb⟩ 186 [.p (.int .u64 1),.p (.int .u64 (n:Nat))] [] (.tup [.p (.int .u64 0),.p (.int .u64 (n:Nat))]) []:=
 dcalls_foreign (vs := [.int .u64 1, .int .u64 (n : Nat)]) (v := .tuple #[.int .u64 0, .int .u64 (n : Nat)]) ⟨_, Tryz.func186, by kernel_rfl, rfl⟩ (fun w h ρ O ws r => by
     simp only[RepDs,RepD,Rep]at r
     obtain⟨v1,r1,rfl,h1,v2,r2,rfl,h2,h3⟩:=r
     rw[h1,h2,h3]) (fun w h ρ O=>by simp only[RepD,RepDs,Rep];exact⟨_,rfl,_,_,rfl,rfl,_,_,rfl,rfl,rfl⟩)
   (fun w _ _=>(Tryz.bits_Mul 1 n (by decide) (by omega) w).mono (by
     rintro e w' ⟨he,rfl⟩
     have e1:1 * n / 18446744073709551616=0:=by omega
     have e2:1 * n% 18446744073709551616=n:=by omega
     rw[e1,e2]at he
     exact⟨he,Below.refl _ _⟩))
def tabs64:ByteArray:=⟨#[9,9,9,9,9,9,9,9,9,9,9,9,9,9,9,9,9,9,9,9,9,9,9,9,9,9,9,9,9,9,9,9,9,9,9,9,9,9,9,9,9,9,9,9,9,9,9,9,9,9,9,9,9,9,9,9,9,9,9,9,9,9,9,9]⟩
theorem tabs_pad {n:Nat} (hn:n≤64):tabs64.extract 0 n=pad n:=by
 have h:(List.range 65).all (fun n=>(tabs64.extract 0 n).toList==(pad n).toList)=true:=by kernel_rfl
 have:=List.all_eq_true.1 h n (List.mem_range.2 (by omega));have h2:=beq_iff_eq.1 this;rw[Lib.toList_data,Lib.toList_data]at h2;exact ba_ext h2
theorem repeat_ok {W0 nb} {n:Nat} (hn:n≤64):DCalls ⟨Tryz.prog,W0,nb⟩ 152 [.p (.str ⟨#[9]⟩),i64 (n:Nat)] [] (.p (.str (pad n))) []:=by
 have hz:(⟨#[9]⟩:ByteArray).size=1:=rfl;have w1:IntKind.u64.wrap 1=1:=by decide
 have w2:IntKind.u64.wrap (n:Int)=n:=by simp[IntKind.wrap,IntKind.bits,IntKind.signed];omega
 have w3:IntKind.i64.wrap (n:Int)=n:=w64_id (by omega) (by omega);have c:=mul_ok (W0:=W0) (nb:=nb) hn;rcases Nat.lt_or_ge n 2 with h2 | h2
 ·have:n=0∨n=1:=by omega
  rcases this with rfl | rfl
  ·have e:pad 0=⟨#[]⟩:=rfl;rw[e];refine dcalls_end Tryz.func152 rfl (by kernel_rfl) 125 Tryz.ntmps152 #[.tmp 4] rfl (Nat.le_of_ble_eq_true rfl) ?_;simp;exact .kk
  ·have e:pad 1=⟨#[9]⟩:=rfl;rw[e];refine dcalls_end Tryz.func152 rfl (by kernel_rfl) 125 Tryz.ntmps152 #[.tmp 4] rfl (Nat.le_of_ble_eq_true rfl) ?_;simp;exact .kk
 ·have n0:((n:Int)==0)=false:=by rw[beq_eq_false_iff_ne];omega
  have n1:((n:Int)==1)=false:=by rw[beq_eq_false_iff_ne];omega
  have e:∀k:Nat,k=n→tabs64.extract 0 k=pad n:=fun k hk=>by subst hk;exact tabs_pad hn
  generalize hzn:((n:Nat):Int)=z at *;have n2:¬z < 0:=by omega
  have n3:z≤128:=by omega
  have n4:z≤64:=by omega
  have n5:¬(9223372036854775807:Int)< z:=by omega
  have n6:0≤z:=by omega
  have hb:(⟨#[9]⟩:ByteArray)[0]=9:=rfl;refine dcalls_end Tryz.func152 rfl (by kernel_rfl) 125 Tryz.ntmps152 #[.tmp 4] rfl (Nat.le_of_ble_eq_true rfl) ?_;simp[n0,n1,n2,hz,w1,w2];refine CallGoal.same c ?_;simp[n5,w3,hz,hb]
  iterate 4
   (try simp [n3, n4, w3]
    refine CallGoal.same (hp_of (b:=false) (by kernel_rfl)) ?_
    simp[n3,n4,w3])
  try simp[n4,w3]
  refine CallGoal.same (hp_of (b:=true) (by kernel_rfl)) ?_;have hs64:tabs64.size=64:=rfl;have e2:=e z.toNat (by omega);simp only[tabs64]at hs64 e2;simp[n4,n6,w3,hs64,e2];exact .kk
theorem split_ok {W0 nb} {s:ByteArray} (hs:s.size < 4294967281):DCalls ⟨Tryz.prog,W0,nb⟩ 53 [.p (.str s),.p (.str ⟨#[10]⟩)] [] (.p (.sl 1 (rowsS (linesP s)))) []:=by
 refine dcalls_rows (vs := [.string s, .string nlB]) (xs := linesP s) (T := 9) ⟨_, Tryz.func53, by kernel_rfl, rfl⟩ (fun w h ρ O ws r => by
     simp only[RepDs,RepD,Rep]at r
     obtain⟨v1,r1,rfl,h1,v2,r2,rfl,h2,h3⟩:=r
     rw[h1,h2,h3];rfl) (fun w _ _=> ?_)
 have hl:(linesP s).length=Lib.countB s nlB + 1:=Lib.splitB_all nlB (Nat.le_refl 1) 0 _ s rfl;rw[hl];exact Any.split_nl Tryz.lays146 (by kernel_rfl) s w hs
end Dm.Fo
end Go.Proofs
