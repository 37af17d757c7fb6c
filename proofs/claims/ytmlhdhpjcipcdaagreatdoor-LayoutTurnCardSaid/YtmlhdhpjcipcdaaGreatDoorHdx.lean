/- Part of the proof: contracts of the functions, walked by the D-machine. No condition. -/
import Derived.Test.YtmlhdhpjcipcdaaGreatDoorHbx
import Derived.Test.YtmlhdhpjcipcdaaGreatDoorSd
import Derived.Test.YtmlhdhpjcipcdaaGreatDoorGcx
import Derived.Test.YtmlhdhpjcipcdaaGreatDoorHcx
set_option linter.unusedSimpArgs false
set_option linter.unusedVariables false
set_option maxHeartbeats 4000000
namespace Go.Proofs.Dm
open Go Go.Proofs Go.Proofs.Dm.Sc
namespace Gr
def KT (t:Tok):Prop:=t.kind=5→isIn keys t.text=true
def KL (x:SS):Prop:=∀t∈x.l,KT t
theorem KL.add {s:ByteArray} {x:SS} {k:Int} {e:Nat} (h:KL x) (hk:k=5→isIn keys (s.extract x.at_ e)=true):KL (Sc.add s k e x):=by
 intro t ht;simp only[Sc.add,List.mem_append,List.mem_singleton]at ht;rcases ht with q | rfl
 ·exact h t q
 ·exact hk
theorem KL.semi {x:SS} (h:KL x):KL (Sc.semi x):=by
 unfold Sc.semi;split
 ·intro t ht;simp only[List.mem_append,List.mem_singleton]at ht;rcases ht with q | rfl
  ·exact h t q
  ·intro q;simp at q
 ·exact h
theorem KL.op {s:ByteArray} {x y:SS} (h:KL x):∀n,opR s x n=some y→KL y
 | 0,q=>by cases q
 | n + 1,q=>by
  simp only[opR]at q;split at q
  ·cases q;exact h.add (fun e=>by omega)
  ·exact KL.op h n q
theorem KL.step {s:ByteArray} {x y:SS} (h:KL x) (q:Sc.step s x=some y):KL y:=by
 unfold Sc.step at q;split at q
 ·cases q
 ·split at q
  ·cases q;exact h.semi
  split at q
  ·cases q;exact h
  split at q
  ·cases q;exact h.semi
  split at q
  ·unfold nameS at q;split at q
   ·cases q
   ·cases q;refine h.add fun e=> ?_
    split at e
    ·assumption
    ·cases e
  split at q
  ·unfold numS at q;split at q
   ·cases q
   ·cases q;exact h.add (fun e=>by omega)
  split at q
  ·unfold textS at q;split at q
   ·cases q;exact h.add (fun e=>by omega)
   ·cases q
  split at q
  ·cases q;exact h.add (fun e=>by omega)
  ·exact h.op 2 q
theorem KL.loop {s:ByteArray}:∀(n:Nat) (x:SS),KL x→KL (loopS s n x).1
 | 0,x,h=>h
 | n + 1,x,h=>by
  unfold loopS;split
  ·cases q:Sc.step s x with
   | none=>exact h
   | some y=>exact KL.loop n y (h.step q)
  ·exact h
def offKeys (x:ByteArray):Bool:= !(x.toList== [45])&& !(x.toList== [33])&& !(x.toList== [58,61])&& !(x.toList== [58])
theorem keys_off:keys.all offKeys=true:=by kernel_rfl
theorem keys_of {l:List Tok} (h:∀t∈l,KT t):Keys l:=by
 intro t ht hk;have h1:=h t ht hk;simp only[isIn,List.any_eq_true,eqB,beq_iff_eq]at h1;obtain⟨x,hx,he⟩:=h1;have h2:=List.all_eq_true.1 keys_off x hx;simp only[offKeys,←he,Bool.and_eq_true,Bool.not_eq_true',beq_eq_false_iff_ne,ne_eq]at h2;exact⟨h2.1.1.1,h2.1.1.2,h2.1.2,h2.2⟩
theorem scan_good {s:ByteArray} (hs:s.size < 10000000) (hf:(scanP s).2.2 < 0):Good (scanP s).1∧Keys (scanP s).1∧(scanP s).1.length≤s.size + 2:=by
 have h0:KL (⟨0,1,[],[]⟩:SS):=fun t ht=>by cases ht
 have h1:=KL.loop (s:=s) (s.size + 1) _ h0;have h2:=loopS_ok (s:=s) (s.size + 1) ⟨0,1,[],[]⟩ (by simp);unfold scanP at hf⊢;dsimp only at hf⊢;split at hf
 ·rename_i q;exact absurd hf (by simp only;omega)
 ·rename_i q;rw[if_neg q];have hl:(ended (loopS s (s.size + 1) ⟨0,1,[],[]⟩).1).length≤s.size + 2:=by
   have:=semi_len (loopS s (s.size + 1) ⟨0,1,[],[]⟩).1;simp only[List.length_nil]at h2;simp only[ended,List.length_append,List.length_singleton];omega
  refine⟨⟨by simp[ended],by simp only;omega,?_⟩,keys_of fun t ht=> ?_,hl⟩
  ·simp[tokAt,ended]
  ·simp only[ended,List.mem_append,List.mem_singleton]at ht;rcases ht with q | rfl
   ·exact h1.semi t q
   ·intro q;simp at q
end Gr
end Go.Proofs.Dm
set_option maxHeartbeats 4000000
namespace Go.Proofs.Dm
open Go Go.Proofs Go.Proofs.Dm.Sc
namespace Gr
def TB (s:ByteArray) (t:Tok):Prop:=0≤t.at_∧t.at_≤(s.size:Int)∧t.text.size≤s.size + 1
def TL (s:ByteArray) (x:SS):Prop:=x.at_≤s.size∧∀t∈x.l,TB s t
theorem TL.add {s:ByteArray} {x:SS} {k:Int} {e:Nat} (h:TL s x):∀t∈(Sc.add s k e x).l,TB s t:=by
 intro t ht;simp only[Sc.add,List.mem_append,List.mem_singleton]at ht;have h1:=h.1;rcases ht with q | rfl
 ·exact h.2 t q
 ·refine⟨by simp only;omega,by simp only;omega,?_⟩;simp only[ByteArray.size_extract];omega
theorem TL.semi {s:ByteArray} {x:SS} (h:TL s x):∀t∈(Sc.semi x).l,TB s t:=by
 have h1:=h.1;unfold Sc.semi;split
 ·intro t ht;simp only[List.mem_append,List.mem_singleton]at ht;rcases ht with q | rfl
  ·exact h.2 t q
  ·refine⟨by simp only;omega,by simp only;omega,?_⟩;show(⟨#[59]⟩:ByteArray).size≤_;have:(⟨#[59]⟩:ByteArray).size=1:=rfl;omega
 ·exact h.2
theorem TL.op {s:ByteArray} {x y:SS} (h:TL s x):∀n,opR s x n=some y→∀t∈y.l,TB s t
 | 0,q=>by cases q
 | n + 1,q=>by
  simp only[opR]at q;split at q
  ·cases q;exact h.add
  ·exact TL.op h n q
theorem TL.step {s:ByteArray} {x y:SS} (hlt:x.at_ < s.size) (h:TL s x) (q:Sc.step s x=some y):TL s y:=by
 refine⟨(step_ok hlt q).2.1,?_⟩;unfold Sc.step at q;split at q
 ·cases q
 ·split at q
  ·cases q;exact h.semi
  split at q
  ·cases q;exact h.2
  split at q
  ·cases q;exact h.semi
  split at q
  ·unfold nameS at q;split at q
   ·cases q
   ·cases q;exact h.add
  split at q
  ·unfold numS at q;split at q
   ·cases q
   ·cases q;exact h.add
  split at q
  ·unfold textS at q;split at q
   ·cases q;exact h.add
   ·cases q
  split at q
  ·cases q;exact h.add
  ·exact h.op 2 q
theorem TL.loop {s:ByteArray}:∀(n:Nat) (x:SS),TL s x→TL s (loopS s n x).1
 | 0,x,h=>h
 | n + 1,x,h=>by
  unfold loopS;split
  ·rename_i hlt;cases q:Sc.step s x with
   | none=>exact h
   | some y=>exact TL.loop n y (TL.step hlt h q)
  ·exact h
theorem scan_tb {s:ByteArray}:∀t∈(scanP s).1,TB s t:=by
 have h0:TL s (⟨0,1,[],[]⟩:SS):=⟨Nat.zero_le _,fun t ht=>by cases ht⟩
 have h1:=TL.loop (s:=s) (s.size + 1) _ h0;have h2:=h1.1;intro t ht;unfold scanP at ht;dsimp only at ht;split at ht
 ·cases ht
 ·simp only[ended,List.mem_append,List.mem_singleton]at ht;rcases ht with q | rfl
  ·exact h1.semi t q
  ·refine⟨by simp only;omega,by simp only[semi_at];omega,?_⟩;show(⟨#[]⟩:ByteArray).size≤_;have:(⟨#[]⟩:ByteArray).size=0:=rfl;omega
end Gr
end Go.Proofs.Dm
set_option maxHeartbeats 4000000
namespace Go.Proofs.Dm
open Go Go.Proofs Go.Proofs.Tryz Go.Proofs.Dm.Sc
namespace Gr
variable {l:List Tok}
def answer (l:List Tok):Res Nd:=fileS l (l.length + 2) (sf l (l.length + 2) (3 * l.length + 4)) 0 0
theorem answer_fin (hg:Good l):Fin l.length 0 (answer l):=fileS_fin hg (by omega) (by omega)
def textP (s:ByteArray):Nd×List Tok×Int:=
 if decide (0≤(scanP s).2.2)then(.mk 0 0 [],[],(scanP s).2.2)else match answer (scanP s).1 with
  | .ok nd _=>(nd,(scanP s).1,-1)
  | .bad k=>(.mk 0 0 [],[],(tokAt (scanP s).1 k).at_)
  | .out=>(.mk 0 0 [],[],0)
theorem textP_small (s:ByteArray) (hs:s.size < 10000000):Small (2 *(s.size + 2)+ 10) (textP s).1:=by
 unfold textP;split
 ·exact sm0
 ·rename_i hf;have hf':(scanP s).2.2 < 0:=by
   have:¬0≤(scanP s).2.2:=by simpa using hf
   omega
  obtain⟨hg,hk,hl⟩:=scan_good hs hf';cases ha:answer (scanP s).1 with
  | ok nd a'=>exact fileS_po (B:=2 *(s.size + 2)+ 10) (by omega) (N:=(scanP s).1.length + 2) (by omega) (by omega) _ _ _ _ _ ha
  | bad k=>exact sm0
  | out=>exact sm0
theorem textP_len (s:ByteArray) (hs:s.size < 10000000):(textP s).2.1.length≤s.size + 2:=by
 unfold textP;split
 ·simp
 ·rename_i hf;have hf':(scanP s).2.2 < 0:=by
   have:¬0≤(scanP s).2.2:=by simpa using hf
   omega
  obtain⟨hg,hk,hl⟩:=scan_good hs hf';cases ha:answer (scanP s).1 with
  | ok nd a'=>exact hl
  | bad k=>simp
  | out=>simp
theorem scan_len (s:ByteArray) (hs:s.size < 10000000):(scanP s).1.length < 100000000:=by
 by_cases h:0≤(scanP s).2.2
 ·have:(scanP s).1= []:=by
   unfold scanP at h⊢;dsimp only at h⊢;split at h
   ·rename_i q;rw[if_pos q]
   ·exact absurd h (by simp only;omega)
  rw[this];simp
 ·obtain⟨hg,hk,hl⟩:=scan_good hs (by omega);omega
theorem text_of1 (s:ByteArray) (hs:s.size < 10000000) (hf:(scanP s).2.2 < 0) {r:Option (Nd×Int)} (h:tokensA (answer (scanP s).1)=r):Pp.textOf (scanP s).1 (scanP s).2.2 r=some (textP s):=by
 obtain⟨hg,hk,hl⟩:=scan_good hs hf;have hfin:=answer_fin hg;have hd:decide (0≤(scanP s).2.2)=false:=by simp;omega
 subst h;unfold Pp.textOf textP;simp only[hd,Bool.false_eq_true,if_false];cases ha:answer (scanP s).1 with
 | ok nd a'=>
  simp only[tokensA,Option.bind_some]
  first | rfl | trivial
 | bad k=>
  rw[ha]at hfin;have hk':k <(scanP s).1.length:=hfin;have h0:decide ((0:Int)≤(k:Int))=true:=by simp
  have e1:Pp.less (k:Int) (((scanP s).1.length:Int)- 1)=k:=by unfold Pp.less;split <;> omega
  simp only[tokensA,Option.bind_some,h0,if_true,e1,Int.toNat_natCast,tok_lt k hk']
  first | rfl |(rw[if_pos (by omega)])| simp
 | out=>rw[ha]at hfin;exact absurd hfin (fun h=>h)
theorem tokens_fin {l:List Tok} (hg:Good l):∃r,tokensA (answer l)=some r:=by
 have hfin:=answer_fin hg;cases ha:answer l with
 | ok nd a'=>exact⟨_,rfl⟩
 | bad k=>exact⟨_,rfl⟩
 | out=>rw[ha]at hfin;exact absurd hfin (fun h=>h)
theorem pText_ok {W0 nb} {s:ByteArray} (h2:2≤nb) (hT:Lib.Utf8Tabs 0 1 W0) (hs:s.size < 10000000):
  DCalls ⟨Tryz.prog,W0,nb⟩ 46 [.p (.str s)] [] (.tup [.agg ((encN (textP s).1).map .p),.p (.sl 5 ((textP s).2.1.map encT)),i64 (textP s).2.2]) []:=by
 rcases Int.lt_or_le (scanP s).2.2 0 with hf | hf
 ·obtain⟨hg,hk,hl⟩:=scan_good hs hf;obtain⟨r,hr⟩:=tokens_fin hg;refine Pp.text_ok h2 hT hs (Pp.fileF_ok (N:=(scanP s).1.length + 2 + 1) (n:=3 *(scanP s).1.length + 4 + 3)) (scan_len s hs) ?_;rw[tokens_of hg (N:=(scanP s).1.length + 2) (by omega) (3 *(scanP s).1.length + 4) hr,←hr];exact text_of1 s hs hf rfl
 ·have hd:decide (0≤(scanP s).2.2)=true:=by simpa using hf
  refine Pp.text_ok (F:=fun _=>none) h2 hT hs (fun{_ _ _} h=>by cases h) (scan_len s hs) ?_;simp only[Pp.textOf,textP,hd,if_true]
end Gr
end Go.Proofs.Dm
