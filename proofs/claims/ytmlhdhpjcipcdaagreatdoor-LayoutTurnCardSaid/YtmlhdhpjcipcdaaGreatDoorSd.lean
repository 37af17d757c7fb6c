/- Part of the proof: contracts of the functions, walked by the D-machine. No condition. -/
import Derived.Test.YtmlhdhpjcipcdaaGreatDoorLS1
import Derived.LoopTactic
import Derived.Laws.RangeAny
import Derived.Laws.RangeString
import Derived.Lib.DecodeN
import Derived.Shelf.Unicode.DecodeAny
import Derived.Deep.DeepFit
import Derived.Lib.OthersKept
import Derived.WalkSmall
import Derived.Test.YtmlhdhpjcipcdaaGreatDoorSc
import Derived.Test.YtmlhdhpjcipcdaaGreatDoorDn
set_option linter.unusedSimpArgs false
set_option linter.unusedVariables false
namespace Go.Proofs
open Go Go.RowKit Go.Lib
namespace Dm.Sc
def badN (r d:Nat):Bool:=(decide ((r:Int)< 32)&&((r:Int) !=9)&&((r:Int) !=10))||((r:Int)==127)||(((r:Int)==65533)&&((d:Int)==1))
def badAt (s:ByteArray) (i:Nat):Bool:=
 badN (Utf8.decode s i).1 (Lib.decodeGo (s.extract i s.size)).2
theorem badN_false {r d:Nat} (h:¬(((r:Int)< 32∧(r:Int)≠9∧(r:Int)≠10)∨(r:Int)=127∨((r:Int)=65533∧(d:Int)=1))):badN r d=false:=by
 cases hb:badN r d
 ·rfl
 ·exfalso;apply h
  simp only[badN,Bool.or_eq_true,Bool.and_eq_true,decide_eq_true_eq,bne_iff_ne,beq_iff_eq]at hb;omega
theorem badN_true {r d:Nat} (h:((r:Int)< 32∧(r:Int)≠9∧(r:Int)≠10)∨(r:Int)=127∨((r:Int)=65533∧(d:Int)=1)):badN r d=true:=by
 simp only[badN,Bool.or_eq_true,Bool.and_eq_true,decide_eq_true_eq,bne_iff_ne,beq_iff_eq];omega
theorem decW (s:ByteArray) (i:Nat):1≤(Utf8.decode s i).2:=by
 rw[Lib.decode_at];unfold Lib.decodeN
 repeat' split
 all_goals simp
def faultF (s:ByteArray):Nat→Nat→Int
 | 0,_=> -1
 | n + 1,i=>if i < s.size then(if badAt s i then(i:Int)else faultF s n (i +(Utf8.decode s i).2))else -1
end Dm.Sc
open Dm.Sc
set_option maxHeartbeats 4000000 in
set_option maxRecDepth 1000000 in
theorem Tryz.fault_walk (s:ByteArray) (w:World) (hT:Lib.Utf8Tabs 0 1 w) (hs:s.size≤4611686018427387904):
  Calls Tryz.prog 88 #[.string s] w fun e w'=>e= .returned (.int .i64 (faultF s s.size 0))∧Below w.heap.size w w':=by
 go_enter Tryz.func88,Tryz.ntmps88
 go_wp2
 go_loopw [3] (fun _ w'=>∃(pos b:Nat),Below w.heap.size w w'∧w'.heap[w.heap.size]? =some (.stringIter s pos)∧faultF s b pos=faultF s s.size 0∧s.size≤pos + b) (fun _ w'=>s.size - w'.iterPos w.heap.size)
 case atStart=>exact⟨0,s.size,(Below.refl _ _).alloc (Nat.le_refl _) _,World.iter_heap w s 0,rfl,by omega⟩
 case round=>
  obtain⟨pos,b,hb,hk,hc,hle⟩:=hrel;have hit:=iterPos_of hk;have hklt:w.heap.size < wr.heap.size:=(Array.getElem?_eq_some_iff.1 hk).1
  by_cases hp:pos < s.size
  ·have hnx:∀ty,(Instr.next (.pointer (some ⟨w.heap.size,0,none⟩)) true ty).run Tryz.prog wr=_:=fun ty=>run_next_any_at wr w.heap.size s pos ty hk hp
   have hwd:=decW s pos;have hk2:=iterAt_heap wr w.heap.size s pos (pos +(Utf8.decode s pos).2) hk;have hb2:=below_iterAt hb (Nat.le_refl _) s (pos +(Utf8.decode s pos).2);have hsz:=iterAt_size wr w.heap.size s (pos +(Utf8.decode s pos).2);have cD:=Tryz.utf8_DecodeRuneInString (s.extract pos s.size) (wr.iterAt w.heap.size s (pos +(Utf8.decode s pos).2)) (Utf8Tabs_below hT hb2);have hbad:badAt s pos=badN (Utf8.decode s pos).1 (Lib.decodeGo (s.extract pos s.size)).2:=rfl;cases b with
   | zero=>omega
   | succ b=>
   simp only[faultF,if_pos hp]at hc;rw[hbad]at hc;obtain⟨D,hD⟩:∃D,Lib.decodeGo (s.extract pos s.size)=D:=⟨_,rfl⟩
   rw[hD]at cD hc;obtain⟨D1,D2⟩:=D;obtain⟨R,hR⟩:∃R,Utf8.decode s pos=R:=⟨_,rfl⟩
   rw[hR]at cD hc hnx hwd hk2 hb2 hsz;obtain⟨R1,R2⟩:=R;simp only at cD hc hnx hwd hk2 hb2 hsz;generalize wr.iterAt w.heap.size s (pos + R2)=wi at *
   go_wp2_with (first
    |(go_at_call 146;go_fit cD;rintro e w2 ⟨rfl,hbw⟩)
    | go_in)
   all_goals (try simp only[beq_iff_eq,beq_eq_false_iff_ne]at *)
   all_goals first
    | (have hbd : badN R1 D2 = false := badN_false (by omega)
       rw[hbd]at hc
       simp only[Bool.false_eq_true,if_false]at hc
       exact⟨⟨pos + R2,b,hb2,hk2,hc,by omega⟩,by rw[iterPos_of hk2,hit];omega⟩)
    | (have hbd : badN R1 D2 = true := badN_true (by omega)
       rw[hbd,if_pos rfl]at hc
       go_ret
       (refine⟨?_,hb2⟩;rw[←hc];rfl))
    | (have hk3 : w2.heap[w.heap.size]? = some (.stringIter s (pos + R2)) := (hbw.block _ (by omega)).trans hk2
       have hb3:Below w.heap.size w w2:=hb2.trans (hbw.mono (by omega))
       have hbd:badN R1 D2=false:=badN_false (by omega)
       rw[hbd]at hc
       simp only[Bool.false_eq_true,if_false]at hc
       exact⟨⟨pos + R2,b,hb3,hk3,hc,by omega⟩,by rw[iterPos_of hk3,hit];omega⟩)
    | (have hb3 : Below w.heap.size w w2 := hb2.trans (hbw.mono (by omega))
       have hbd:badN R1 D2=true:=badN_true (by omega)
       rw[hbd,if_pos rfl]at hc
       go_ret
       (refine⟨?_,hb3⟩;rw[←hc];rfl))
  ·have hnx:∀ty,(Instr.next (.pointer (some ⟨w.heap.size,0,none⟩)) true ty).run Tryz.prog wr=_:=fun ty=>run_next_end_at wr w.heap.size s pos ty hk hp
   go_wp2
   go_ret
   refine⟨?_,hb⟩;rw[←hc];cases b <;> simp[faultF,hp]
end Go.Proofs
set_option maxHeartbeats 4000000
namespace Go.Proofs.Dm
open Go Go.Proofs Go.Proofs.Tryz
namespace Sc
theorem tabs_of {W0 w:World} {nb:Nat} (h2:2≤nb) (hT:Lib.Utf8Tabs 0 1 W0) (he:∀b,b < nb→w.heap[b]? =W0.heap[b]?):Lib.Utf8Tabs 0 1 w:=
 ⟨fun c hc=>(World.cell?_of_block (w:=W0) (a:=⟨0,c,none⟩) (he 0 (by omega))).trans (hT.1 c hc),fun i hi=>
  ⟨(World.cell?_of_block (w:=W0) (a:=⟨1,2 * i,none⟩) (he 1 (by omega))).trans (hT.2 i hi).1,(World.cell?_of_block (w:=W0) (a:=⟨1,2 * i + 1,none⟩) (he 1 (by omega))).trans (hT.2 i hi).2⟩⟩
theorem str_one {w:World} {h ρ O ws} {a:ByteArray} (r:RepDs w h ρ [.p (.str a)] O 0 ws):ws= [.string a]:=by
 simp only[RepDs,RepD,Rep]at r;obtain⟨v1,r1,rfl,h1,h3⟩:=r;rw[h1,h3]
theorem utfFault_ok {W0 nb s} (h2:2≤nb) (hT:Lib.Utf8Tabs 0 1 W0) (hs:s.size≤4611686018427387904):DCalls ⟨Tryz.prog,W0,nb⟩ 88 [.p (.str s)] [] (i64 (faultF s s.size 0)) []:=
 dcalls_foreign (vs:= [.string s]) (v:= .int .i64 (faultF s s.size 0)) ⟨_,Tryz.func88,by kernel_rfl,rfl⟩ (fun w h ρ O ws r=>str_one r) (fun w h ρ O=>by simp only[RepD,Rep])
  (fun w _ he=>Tryz.fault_walk s w (tabs_of h2 hT he) hs)
theorem step_ok {s x y} (h1:x.at_ < s.size) (h:step s x=some y):x.at_ < y.at_∧y.at_≤s.size∧y.l.length≤x.l.length + 1∧y.c.length≤x.c.length + 1∧x.line≤y.line∧y.line≤x.line + 1:=by
 have hg:s[x.at_]? =some s[x.at_]:=by simp
 have hsl:=semi_len x;simp only[step,hg]at h;generalize s[x.at_]=c at *;have run:∀p:UInt8→Bool,p c=true→x.at_ < stop s p x.at_∧stop s p x.at_≤s.size:=fun p hp=>by
  have:=stop_le s p (x.at_ + 1) (by omega);rw[stop_eq,hg];simp only[hp,if_true];omega
 have hadd:∀k e,x.at_ < e→e≤s.size→y=add s k e x→x.at_ < y.at_∧y.at_≤s.size∧y.l.length≤x.l.length + 1∧y.c.length≤x.c.length + 1∧x.line≤y.line∧y.line≤x.line + 1:=by
  rintro k e g1 g2 rfl;simp[add];omega
 split at h
 ·cases h;simp;omega
 split at h
 ·cases h;simp;omega
 split at h
 ·rename_i q1 _ _;cases h;have hr:=run (fun b=>b !=10) (by
   have:¬(c.toNat:Int)=10:=by simpa using q1
   have:c≠10:=by rintro rfl;exact this rfl
   simpa using this)
  rw[show stop s (fun b=>b !=10) x.at_=eol s x.at_ from rfl]at hr;simp[note];omega
 split at h
 ·rename_i q;obtain⟨r1,r2⟩:=run wordB (by simp[wordB,q]);simp only[nameS]at h;split at h
  ·cases h
  ·cases h;exact hadd _ _ r1 r2 rfl
 split at h
 ·rename_i q;obtain⟨r1,r2⟩:=run digit q;simp only[numS]at h;split at h
  ·cases h
  ·cases h;exact hadd _ _ r1 r2 rfl
 split at h
 ·rename_i q;have hc34:c=34:=by
   have:=beq_iff_eq.1 q;exact UInt8.toNat_inj.1 (by simp;omega)
  subst hc34;simp only[textS]at h;split at h
  ·rename_i q2;obtain⟨t1,t2,t3⟩:=text_le s hg q2;cases h;exact hadd _ _ (by omega) (by omega) rfl
  ·cases h
 split at h
 ·cases h;exact hadd _ _ (by omega) (by omega) rfl
 ·have:∀n,opR s x n=some y→∃e,x.at_ < e∧e≤s.size∧y=add s 4 e x:=by
   intro n
   induction n with
   | zero=>intro h;cases h
   | succ n ih=>
    intro h;simp only[opR]at h;split at h
    ·rename_i q;simp only[Bool.and_eq_true,decide_eq_true_eq]at q;cases h;exact⟨_,by omega,q.1,rfl⟩
    ·exact ih h
  obtain⟨e,g1,g2,g3⟩:=this 2 h;exact hadd _ _ g1 g2 g3
def loopS (s:ByteArray):Nat→SS→SS×Int
 | 0,x=>(x,-1)
 | n + 1,x=>if x.at_ < s.size then(match step s x with
  | some y=>loopS s n y
  | none=>(x,(x.at_:Int)))else(x,-1)
def least (a f:Int):Int:=if 0≤a∧(f < 0∨a < f)then a else f
def scanF (s:ByteArray) (f:Int):Int:=if(2000:Int)< s.size then least 2000 (least (faultF s s.size 0) f)else least (faultF s s.size 0) f
def ended (y:SS):List Tok:=(semi y).l ++ [⟨7,⟨#[]⟩,(semi y).at_,(semi y).line,false⟩]
def scanP (s:ByteArray):List Tok×List Com×Int:=
 let r:=loopS s (s.size + 1) ⟨0,1,[],[]⟩
 if 0≤scanF s r.2 then([],[],scanF s r.2)else(ended r.1,r.1.c,-1)
theorem loopS_ok {s}:∀n x,x.at_≤s.size→(loopS s n x).1.at_≤s.size∧(loopS s n x).1.l.length + x.at_≤x.l.length +(loopS s n x).1.at_∧(loopS s n x).1.c.length + x.at_≤x.c.length +(loopS s n x).1.at_∧x.line≤(loopS s n x).1.line∧(loopS s n x).1.line + x.at_≤x.line +(loopS s n x).1.at_∧x.at_≤(loopS s n x).1.at_
 | 0,x,h=>by simp[loopS];omega
 | n + 1,x,h=>by
  simp only[loopS];split
  ·rename_i hlt;cases hs:step s x with
   | none=>simp;omega
   | some y=>
    have h1:=step_ok hlt hs;have h2:=loopS_ok n y h1.2.1;simp only;omega
  ·simp;omega
def toks (l:List Tok):DV:= .p (.sl 5 (l.map encT))
def coms (l:List Com):DV:= .p (.sl 4 (l.map encC))
attribute [local simp] xbox takes handsOn isTmp Op.operands Call.operands
theorem least_ok2 {W0 nb s x f a}:DCalls ⟨Tryz.prog,W0,nb⟩ 87 [.ref 0 0,i64 a] [xbox s x f] (.tup []) [xbox s x (least a f)]:=least_ok
def scanI (s:ByteArray) (L:SS×Int) (m:Nat) (st:St):Prop:=∃x f,st.hp= [xbox s x f]∧st.tm 0= .p (.str s)∧st.tm 5= .ref 0 0∧x.at_≤s.size∧x.l.length≤x.at_∧x.c.length≤x.at_∧0≤x.line∧x.line≤x.at_ + 1∧((f= -1∧loopS s m x=L∧s.size < x.at_ + m)∨(0≤f∧(x,f)=L))
theorem scan_ok {W0 nb s} (h2:2≤nb) (hT:Lib.Utf8Tabs 0 1 W0) (hs:s.size < 10000000):DCalls ⟨Tryz.prog,W0,nb⟩ 52 [.p (.str s)] [] (.tup [toks (scanP s).1,coms (scanP s).2.1,i64 (scanP s).2.2]) []:=by
 obtain⟨R,hR⟩:∃R,scanP s=R:=⟨_,rfl⟩
 rw[hR];obtain⟨L,hL⟩:∃L,loopS s (s.size + 1) ⟨0,1,[],[]⟩=L:=⟨_,rfl⟩
 simp only[scanP,hL]at hR;have hLb:=loopS_ok (s:=s) (s.size + 1) ⟨0,1,[],[]⟩ (Nat.zero_le _);rw[hL]at hLb;simp only[List.length_nil]at hLb;refine dcalls_end Tryz.func52 rfl (by kernel_rfl) 55 Tryz.ntmps52 #[.tmp 2,.tmp 3,.tmp 4] rfl (Nat.le_of_ble_eq_true rfl) ?_;simp;refine LoopGoal.cut (fun st=>st.hp= [xbox s L.1 L.2]∧st.tm 0= .p (.str s)∧st.tm 5= .ref 0 0) ?_ ?_
 ·refine⟨scanI s L,s.size + 1,.here ⟨⟨0,1,[],[]⟩,-1,by simp,by simp,by simp,by simp,by simp,by simp,by simp,by simp,.inl ⟨rfl,hL,by simp⟩⟩,?_⟩;rintro m ⟨tm,hp⟩ ⟨x,f,h0,g0,g5,b1,b2,b3,b4,b5,hc⟩;simp only at h0 g0 g5;subst h0;rcases hc with ⟨rfl,hc,hm⟩ | ⟨hf,rfl⟩
  ·obtain⟨n,rfl⟩:∃n,m=n + 1:=⟨m - 1,by omega⟩
   by_cases hlt:x.at_ < s.size
   ·simp[g0,g5,hlt];simp only[loopS,if_pos hlt]at hc;refine CallGoal.same (one_ok (x:=x) hlt (by omega) (by omega) (by omega) (by omega)) ?_;simp;cases hst:step s x with
    | some y=>
     rw[hst]at hc;simp only at hc;have hy:=step_ok hlt hst;exact .same n (by omega) ⟨y,-1,by simp[res],by simp[g0],by simp[g5],by omega,by omega,by omega,by omega,by omega,.inl ⟨rfl,hc,by omega⟩⟩
    | none=>
     rw[hst]at hc;simp only at hc;exact .same n (by omega) ⟨x,(x.at_:Int),by simp[res],by simp[g0],by simp[g5],by omega,by omega,by omega,by omega,by omega,.inr ⟨by omega,hc⟩⟩
   ·simp only[loopS,if_neg hlt]at hc;subst hc;simp[g0,g5,hlt]
  ·by_cases hlt:x.at_ < s.size
   ·simp[g0,g5,hlt,show ¬f < 0 by omega]
   ·simp[g0,g5,hlt]
 ·rintro⟨tm,hp⟩ ⟨h0,g0,g5⟩;simp only at h0 g0 g5;subst h0;obtain⟨x,f⟩:=L;simp only at hR hLb;simp[g0,g5];refine CallGoal.same (utfFault_ok h2 hT (by omega)) ?_;simp;refine CallGoal.same (least_ok2) ?_;simp[g0,g5];refine IfGoal.cut (fun st=>st.hp= [xbox s x (scanF s f)]∧st.tm 5= .ref 0 0) ?_ ?_
  ·refine ifGoal_of (fun q=> ?_) (fun q=> ?_)
   ·have q':(2000:Int)< s.size:=by simpa using q
    simp[g5];refine CallGoal.same (least_ok2) ?_;simp[g5,scanF,q']
   ·have q':¬(2000:Int)< s.size:=by simpa using q
    simp[g5,scanF,q']
  ·rintro⟨tm,hp⟩ ⟨h0,g5⟩;simp only at h0 g5;subst h0;simp[g5];refine ifGoal_of (fun q=> ?_) (fun q=> ?_)
   ·have q':0≤scanF s f:=by simpa using q
    rw[if_pos q']at hR;subst hR;simp[g5];refine drawWp.intro [] [] mixed (by kernel_rfl) (by kernel_rfl) (by kernel_rfl) ?_;simp[g5];exact .keep (by simp[toks,coms]) (.refl _) (by simp) (by simp[toks,coms]) (by simp[toks,coms]) (by simp[toks,coms])
   ·have q':¬0≤scanF s f:=by simpa using q
    rw[if_neg q']at hR;subst hR;have hsl:=semi_len x;simp[g5];refine CallGoal.same (semi_ok (x:=x) (by omega)) ?_;simp[g5];have hp:=put_ok (W0:=W0) (nb:=nb) (s:=s) (x:=semi x) (f:=scanF s f) (k:=7) (t:=⟨#[]⟩) (by omega);simp only[xbox,semi_at,semi_line,semi_c]at hp;refine CallGoal.same hp ?_;simp[g5];refine drawWp.intro [(3,7)] [7] mixed (by kernel_rfl) (by kernel_rfl) (by kernel_rfl) ?_;simp[g5];refine⟨by simp,by simp,?_⟩;exact .keep (by simp[toks,coms,ended]) (.refl _) (by simp) (by simp[toks,coms,ended]) (by simp[toks,coms,ended]) (by simp[toks,coms,ended])
end Sc
end Go.Proofs.Dm
