/- Part of the proof: contracts of the functions, walked by the D-machine. No condition. -/
import Derived.Test.YtmlhdhpjcipcdaaGreatDoorHa
import Derived.Test.YtmlhdhpjcipcdaaGreatDoorHb
import Derived.Test.YtmlhdhpjcipcdaaGreatDoorHd
import Derived.Test.YtmlhdhpjcipcdaaGreatDoorRi
set_option linter.unusedSimpArgs false
set_option linter.unusedVariables false
set_option maxHeartbeats 4000000
namespace Go.Proofs.Dm
open Go Go.Proofs Go.Proofs.Tryz Go.Proofs.Dm.Sc
namespace Gr
variable {l:List Tok}
theorem exprE_one (U:M Rp.RS Nd) (N:Nat):Rp.exprE l U N 1=Rp.exprT l U N 5:=by
 funext rs
 simp[Rp.exprE]
theorem exprE_tame {U:M Rp.RS Nd} (tU:Tame (Yr l) T U) (N:Nat):Tame (Yr l) T (Rp.exprE l U (N + 1) 1):=by
 rw[exprE_one];exact exprT_tame tU N 5
theorem exprE_agr (hg:Good l) {Ug:GN} {U:M Rp.RS Nd} (aU:AgR l Ug U) (tU:Tame (Yr l) T U) (N:Nat):AgR l (exprE2 l N Ug) (Rp.exprE l U (N + 1) 1):=by
 rw[exprE_one];exact exprT_agr hg aU tU N 5
structure TameR (F:Rp.RF) (l:List Tok):Prop where
 unary:Tame (Yr l) T F.unary
 block:Tame (Yr l) T F.block
 ifs:Tame (Yr l) T F.ifs
 stmt:Tame (Yr l) T F.stmt
theorem r1u (N k:Nat):Tame (Yr l) T (Rp.rf l (N + 1) (k + 1)).unary:=unary2_tame (primR_tame _)
theorem r1b (N k:Nat):Tame (Yr l) T (Rp.rf l (N + 1) (k + 1)).block:=blockB_tame N
theorem r2i (N k:Nat):Tame (Yr l) T (Rp.rf l (N + 1) (k + 2)).ifs:=ifs2_tame (exprE_tame (r1u N k) N) (r1b N k)
theorem rf_tame (hg:Good l) (N k:Nat):TameR (Rp.rf l (N + 1) (k + 3)) l where
 unary:=r1u N (k + 2)
 block:=r1b N (k + 2)
 ifs:=r2i N (k + 1)
 stmt:=by
  have e:=exprE_tame (r1u (l:=l) N (k + 1)) N;have f:=fors2_tame e (r1b N (k + 1));exact stmt2_tame (vars2_tame e) (consts2_tame e) (r1b N (k + 1)) (r2i N k) f (simple2_tame hg e f) e
structure AgRF (l:List Tok) (G:SF2) (F:Rp.RF):Prop where
 unary:AgR l G.unary F.unary
 block:AgR l G.block F.block
 ifs:AgR l G.ifs F.ifs
 stmt:AgR l G.stmt F.stmt
theorem AgRF.step (hg:Good l) {N:Nat} (hN:N < 1000000000) {G:SF2} {F:Rp.RF} (h:AgRF l G F) (t:TameR F l):AgRF l (step2 l N G) (Rp.stepR l (N + 1) F):=by
 have te:=exprE_tame t.unary N;have ae:=exprE_agr hg h.unary t.unary N;have tf:=fors2_tame te t.block;have af:=fors2_agr hg ae h.block te t.block;exact⟨unary2_agr hg h.unary (primR_agr hg ae te (fun x=>callR_agr hg ae te N (by omega) x) (fun x=>callR_tame N x) N) t.unary (primR_tame _),
  blockB_agr hg h.stmt t.stmt N (by omega),
  ifs2_agr hg ae h.block h.ifs te t.block t.ifs,
  stmt2_agr hg (vars2_agr hg ae te) (consts2_agr hg ae te) h.block h.ifs af (simple2_agr hg ae af te tf) ae (vars2_tame te) (consts2_tame te) t.block t.ifs tf (simple2_tame hg te tf) te⟩
theorem knotR (hg:Good l) {N:Nat} (hN:N < 1000000000):∀n,AgRF l (sf2 l N n) (Rp.rf l (N + 1) (n + 3))
 | 0=>⟨fun d hd=>Agr.out,fun d hd=>Agr.out,fun d hd=>Agr.out,fun d hd=>Agr.out⟩
 | n + 1=>(knotR hg hN n).step hg hN (rf_tame hg N n)
theorem parse_of (hg:Good l) {N:Nat} (hN:N < 1000000000) (n:Nat) {r:Nd×Int} (h:tokensA (fileS2 l N (sf2 l N n) 0 0)=some r):Rp.parseR (Rp.fileRF l (N + 1) (Rp.rf l (N + 1) (n + 3)))=some r:=by
 have a:=knotR hg hN n;have t:=rf_tame hg N n;have te:=exprE_tame t.unary N;have ae:=exprE_agr hg a.unary t.unary N;have ad:=decl2_agr hg (vars2_agr hg ae te) (consts2_agr hg ae te) (structsB_agr hg N (by omega)) (funcs_agr hg a.block t.block N (by omega)) (vars2_tame te) (consts2_tame te) (structsB_tame N) (funcs_tame t.block N (by omega));have td:Tame (Yr l) T _:=decl2_tame (vars2_tame te) (consts2_tame te) (structsB_tame N) (funcs_tame t.block N (by omega));have hf:=fileR_agr hg ad td N hN 0 hg.pos;have e0:(Yr l).emb 0 0=(⟨0,-1,0⟩:Rp.RS):=rfl;rw[e0]at hf;unfold Rp.parseR Rp.fileRF;unfold fileS2 at h;cases hs:file2 l (decl2 l (vars2 l (exprE2 l N (sf2 l N n).unary)) (consts2 l (exprE2 l N (sf2 l N n).unary)) (structs2 l N) (funcs2 l (sf2 l N n).block N)) N 0 0 with
 | ok nd a'=>
  rw[hs]at h hf;simp only[tokensA,Option.some.injEq]at h;obtain⟨h1,h2,_⟩:=hf;rw[h2];subst h;rfl
 | bad k=>
  rw[hs]at h hf;simp only[tokensA,Option.some.injEq]at h;obtain⟨x,p,h2,h3,_⟩:=hf;obtain⟨q1,q2,q3,q4⟩:=flt_at (l:=l) (p:=p) (by rw[h3];omega);rw[h2];subst h;have:p.bad=k:=by rw[←q4,h3]
  simp only[Option.bind_some,this];rfl
 | out=>rw[hs]at h;cases h
theorem answer_two (hg:Good l) (hk:Keys l):fileS2 l (2 * l.length + 4) (sf2 l (2 * l.length + 4) (3 * l.length + 5)) 0 0=answer l:=by
 have h:=fileS_le hk (N:=l.length + 2) (M:=2 * l.length + 4) (n:=3 * l.length + 4) (m:=3 * l.length + 5) (by omega) (by omega) (by omega) 0 0 True.intro;have hf:=answer_fin hg;rcases h with q | q
 ·rw[answer,q]at hf;exact absurd hf (fun h=>h)
 ·exact q
end Gr
end Go.Proofs.Dm
set_option maxHeartbeats 4000000
namespace Go.Proofs.Dm
open Go Go.Proofs Go.Proofs.Tryz Go.Proofs.Dm.Sc
namespace Gr
theorem text_of (s:ByteArray) (hs:s.size < 10000000) (hf:(scanP s).2.2 < 0) {r:Option (Nd×Int)} (h:tokensA (answer (scanP s).1)=r):Pp.textOf (scanP s).1 (scanP s).2.2 r=some (textP s)∧Rp.textOf (scanP s).1 (scanP s).2.2 r=some (textP s):=by
 obtain⟨hg,hk,hl⟩:=scan_good hs hf;have hfin:=answer_fin hg;have hd:decide (0≤(scanP s).2.2)=false:=by simp;omega
 subst h;unfold Pp.textOf Rp.textOf textP;simp only[hd,Bool.false_eq_true,if_false];cases ha:answer (scanP s).1 with
 | ok nd a'=>
  simp only[tokensA,Option.bind_some];constructor <;> first | rfl | trivial
 | bad k=>
  rw[ha]at hfin;have hk':k <(scanP s).1.length:=hfin;have h0:decide ((0:Int)≤(k:Int))=true:=by simp
  have e1:Pp.less (k:Int) (((scanP s).1.length:Int)- 1)=k:=by unfold Pp.less;split <;> omega
  simp only[tokensA,Option.bind_some,h0,if_true,e1,Int.toNat_natCast,tok_lt k hk'];constructor
  ·first | rfl |(rw[if_pos (by omega)])| simp
  ·first | rfl | trivial
 | out=>rw[ha]at hfin;exact absurd hfin (fun h=>h)
theorem rText_ok {W0 nb} {s:ByteArray} (hs:s.size < 10000000):
  DCalls ⟨Tryz.prog,W0,nb⟩ 23 [.p (.str s)] [] (.tup [.agg ((encN (textP s).1).map .p),.p (.sl 5 ((textP s).2.1.map encT)),i64 (textP s).2.2]) []:=by
 rcases Int.lt_or_le (scanP s).2.2 0 with hf | hf
 ·obtain⟨hg,hk,hl⟩:=scan_good hs hf;obtain⟨r,hr⟩:=tokens_fin hg;have hne:(scanP s).1≠ []:=by
   intro h;have:=hg.pos;rw[h]at this;simp at this
  refine Rp.text_ok hs (.inl hne) (Rp.fileRF_ok (N:=2 *(scanP s).1.length + 4 + 1) (n:=3 *(scanP s).1.length + 5 + 3)) ?_;rw[parse_of hg (N:=2 *(scanP s).1.length + 4) (by have:=hg.len;omega) (3 *(scanP s).1.length + 5) (r:=r) (by rw[answer_two hg hk];exact hr),←hr];exact(text_of s hs hf rfl).2
 ·have hd:decide (0≤(scanP s).2.2)=true:=by simpa using hf
  refine Rp.text_ok (F:=fun _=>none) hs (.inr hf) (fun{_ _ _} h=>by cases h) ?_;simp only[Rp.textOf,textP,hd,if_true]
end Gr
end Go.Proofs.Dm
