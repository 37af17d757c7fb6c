/- Part of the proof: what the walked functions compute. No condition. -/
import Derived.Test.YtmlhdhpjcipcdaaGreatDoorBb
import Derived.Lib.DecodeN
import Derived.Test.YtmlhdhpjcipcdaaGreatDoorHb
set_option linter.unusedSimpArgs false
set_option linter.unusedVariables false
set_option maxHeartbeats 4000000
namespace Go.Proofs.Dm
open Go Go.Proofs Go.Proofs.Dm.Sc
open Fo (isO zeroT LS nlB spB pad trimR)
namespace Rf
theorem tw_all {α:Type} {p:α→Bool}:∀{r:List α} {x:α},x∈r.takeWhile p→p x=true
 | [],x,h=>by cases h
 | c::r,x,h=>by
  rw[List.takeWhile_cons]at h;split at h
  ·rename_i hc;rcases List.mem_cons.1 h with rfl | h
   ·exact hc
   ·exact tw_all h
  ·cases h
def nines (s:ByteArray):Nat:=stop s (fun b=>b==9) 0
def goesL (l:List Tok):Bool:=match l.getLast? with
 | none=>false
 | some t=>onR t
def rightR (l:List Tok) (L:List ByteArray) (i:Nat) (ln:ByteArray) (at_:Int):Bool:=
 if !((trimR ln).toList==ln.toList)then false
 else if ln.toList.isEmpty then decide (0 < i)&& !((L[i - 1]?).getD ⟨#[]⟩).toList.isEmpty&&decide (i + 1 < L.length)
 else
  let o:=La.opens (l.take (La.skipD at_ l 0))
  let b:=(ln[nines ln]?).getD 0
  let n:Int:=nines ln
  if b==125 then n==o - 1 else !(b==32)&&(n==o ||(goesL (l.take (La.skipD at_ l 0))&&n==o + 1))
def goR (l:List Tok) (L:List ByteArray):List ByteArray→Nat→Int→Int
 | [],_,_=> -1
 | ln::r,i,at_=>if rightR l L i ln at_ then goR l L r (i + 1) (at_ +((ln.size:Int)+ 1))else(i:Int)+ 1
def endsNl (s:ByteArray):Bool:=match s[s.size - 1]? with
 | some b=>b==10
 | none=>false
end Rf
namespace Gr
theorem loop_end {s:ByteArray}:∀(n:Nat) (x:SS),x.at_≤s.size→s.size < x.at_ + n→(loopS s n x).2 < 0→(loopS s n x).1.at_=s.size
 | 0,x,h,g,f=>by omega
 | n + 1,x,h,g,f=>by
  unfold loopS at f⊢;split
  ·rename_i hlt;rw[if_pos hlt]at f;cases q:Sc.step s x with
   | none=>
    rw[q]at f;simp only at f;omega
   | some y=>
    rw[q]at f;have:=step_ok hlt q;exact loop_end n y this.2.1 (by omega) f
  ·show x.at_=s.size;omega
theorem last_at {s:ByteArray} (hf:(scanP s).2.2 < 0):(lastS s).at_=s.size:=loop_end _ _ (Nat.zero_le _) (by simp[ss0]) (scan_last hf).2.2
theorem scan_ops {s:ByteArray} (hf:(scanP s).2.2 < 0) (i:Nat) (h4:(tokAt (scanP s).1 i).kind=4):isIn ops (tokAt (scanP s).1 i).text=true:=by
 obtain⟨e1,_,_⟩:=scan_last hf;have hk:=(last_ki s).semi;rw[e1]at h4⊢;unfold tokAt at h4⊢;cases hg:(ended (lastS s))[i]? with
 | none=>
  rw[hg]at h4;simp only[Option.getD_none]at h4;exact absurd h4 (by decide)
 | some t=>
  rw[hg]at h4;simp only[Option.getD_some]at h4⊢;have hm:=List.mem_of_getElem? hg;simp only[ended,List.mem_append,List.mem_singleton]at hm;rcases hm with q | rfl
  ·exact(hk t q).2.2 h4
  ·simp at h4
theorem nl_mono (s:ByteArray) {i j:Nat} (h:i≤j):nl s i≤nl s j:=by
 unfold nl;exact(List.Sublist.count_le 10 (by
  have e:(s.data.toList.take j).take i=s.data.toList.take i:=by rw[List.take_take,Nat.min_eq_left h]
  rw[←e];exact List.take_sublist _ _))
end Gr
end Go.Proofs.Dm
set_option maxHeartbeats 4000000
namespace Go.Proofs.Dm
open Go Go.Proofs Go.Proofs.Dm.Sc
inductive Pc where
 | sp (b:UInt8)
 | nl
 | com (w:List UInt8)
 | tok (k:Int) (w:List UInt8)
namespace Pc
def bytes:Pc→List UInt8
 | .sp b=> [b]
 | .nl=> [10]
 | .com w=>w
 | .tok _ w=>w
def ap (x:SS):Pc→SS
 | .sp _=>{x with at_:=x.at_ + 1}
 | .nl=>{semi x with at_:=x.at_ + 1,line:=x.line + 1}
 | .com w=>{semi x with c:=x.c ++ [⟨⟨w.toArray⟩,x.at_,x.line,(semi x).l.length⟩],at_:=x.at_ + w.length}
 | .tok k w=>{x with l:=x.l ++ [⟨k,⟨w.toArray⟩,x.at_,x.line,false⟩],at_:=x.at_ + w.length}
def numF (w:List UInt8) (d:Option UInt8):Bool:=decide (12 < w.length)||(decide (1 < w.length)&&w.head?.any (fun b=>(b.toNat:Int)==48))|| d.any letter
def opQ (c:UInt8) (r:List UInt8):Option (Pc×List UInt8):=
 if r.head?.any (fun d=>isIn ops ⟨#[c,d]⟩)then some (.tok 4 (c::r.take 1),r.drop 1)
 else if isIn ops ⟨#[c]⟩then some (.tok 4 [c],r)else none
def textQ (c:UInt8) (r:List UInt8):Option (Pc×List UInt8):=
 let w:=r.takeWhile (fun b=>b !=34&&b !=10)
 if(r.drop w.length).head? =some 34 then some (.tok 3 (c::(w ++ [34])),r.drop (w.length + 1))else none
def stepQ:List UInt8→Option (Pc×List UInt8)
 | []=>none
 | c::r=>
  if(c.toNat:Int)==10 then some (.nl,r)
  else if(c.toNat:Int)==32 ||(c.toNat:Int)==9 then some (.sp c,r)
  else if c==47&&r.head? ==some 47 then some (.com ((c::r).takeWhile (fun b=>b !=10)),(c::r).dropWhile (fun b=>b !=10))
  else if letter c then(if 24 <((c::r).takeWhile wordB).length then none else some (.tok (if isIn keys ⟨((c::r).takeWhile wordB).toArray⟩then 5 else 1) ((c::r).takeWhile wordB),(c::r).dropWhile wordB))
  else if digit c then(if numF ((c::r).takeWhile digit) ((c::r).dropWhile digit).head? then none else some (.tok 2 ((c::r).takeWhile digit),(c::r).dropWhile digit))
  else if(c.toNat:Int)==34 then textQ c r
  else if(c.toNat:Int)==59 then some (.tok 6 [c],r)
  else opQ c r
theorem tw_split {α:Type} (p:α→Bool) (r:List α):r=r.takeWhile p ++ r.dropWhile p:=List.takeWhile_append_dropWhile.symm
theorem get_L (s:ByteArray) (i:Nat):s[i]? =(s.data.toList.drop i).head? :=by
 rw[List.head?_drop,ba_get]
theorem size_L {s:ByteArray} {i:Nat} {c r} (h:s.data.toList.drop i=c::r):i < s.size∧s.data.toList.drop (i + 1)=r∧i +(r.length + 1)=s.size:=by
 have h1:=congrArg List.length h;simp only[List.length_drop,List.length_cons]at h1;have h2:=ba_size s;refine⟨by omega,?_,by omega⟩;rw[←List.tail_drop,h,List.tail_cons]
theorem ext_L (s:ByteArray) (i k:Nat):s.extract i (i + k)=⟨((s.data.toList.drop i).take k).toArray⟩:=by
 apply ba_ext;rw[ext_list,Nat.add_sub_cancel_left]
theorem take_while {α:Type} (p:α→Bool):∀r:List α,r.take (r.takeWhile p).length=r.takeWhile p
 | []=>rfl
 | c::r=>by
  simp only[List.takeWhile_cons];split
  ·simp only[List.length_cons,List.take_succ_cons,take_while p r]
  ·rfl
theorem drop_while {α:Type} (p:α→Bool):∀r:List α,r.drop (r.takeWhile p).length=r.dropWhile p
 | []=>rfl
 | c::r=>by
  simp only[List.takeWhile_cons,List.dropWhile_cons];split
  ·simp only[List.length_cons,List.drop_succ_cons,drop_while p r]
  ·rfl
theorem add_Q {s:ByteArray} {x:SS} {r:List UInt8} (hr:s.data.toList.drop x.at_=r) (k:Int) (n:Nat) (hn:n≤r.length):add s k (x.at_ + n) x=ap x (.tok k (r.take n)):=by
 subst hr;simp only[add,ap,ext_L,List.length_take,Nat.min_eq_left hn]
theorem slashes_Q {s:ByteArray} {i:Nat} {c r} (h:s.data.toList.drop i=c::r):slashes s i=(c==47&&r.head? ==some 47):=by
 obtain⟨h1,h2,h3⟩:=size_L h;unfold slashes;rw[Lib.toList_data,ext_L,h];cases r with
 | nil=>
  have:¬i + 2≤s.size:=by simp at h3;omega
  rw[decide_eq_false this];simp
 | cons d r=>
  have:i + 2≤s.size:=by simp at h3;omega
  rw[decide_eq_true this];simp only[Bool.true_and,List.take_succ_cons,List.take_zero,List.head?_cons];rw[Bool.eq_iff_iff];simp
theorem op_Q {s:ByteArray} {x:SS} {c r} (hr:s.data.toList.drop x.at_=c::r):opR s x 2=(opQ c r).map (fun q=>ap x q.1):=by
 obtain⟨h1,h2,h3⟩:=size_L hr;have o1:opR s x 1=if isIn ops ⟨#[c]⟩then some (ap x (.tok 4 [c]))else none:=by
  have e1:decide (x.at_ + 1≤s.size)=true:=by simp;omega
  have e2:s.extract x.at_ (x.at_ + 1)=⟨#[c]⟩:=by rw[ext_L,hr];rfl
  simp only[opR,Nat.zero_add,e1,e2,Bool.true_and];rw[add_Q hr 4 1 (by simp)];rfl
 have o2:opR s x 2=if decide (x.at_ + 2≤s.size)&&isIn ops (s.extract x.at_ (x.at_ + 2))then some (add s 4 (x.at_ + 2) x)else opR s x 1:=rfl;rw[o2,o1];cases r with
 | nil=>
  have e1:decide (x.at_ + 2≤s.size)=false:=by simp at h3⊢;omega
  rw[e1];show(if(false&&_)=true then _ else _)=Option.map _ (if isIn ops ⟨#[c]⟩=true then some (Pc.tok 4 [c],([]:List UInt8))else none);rw[Bool.false_and,if_neg (by decide)];split <;> rfl
 | cons d r=>
  have e1:decide (x.at_ + 2≤s.size)=true:=by simp at h3⊢;omega
  have e2:s.extract x.at_ (x.at_ + 2)=⟨#[c,d]⟩:=by rw[ext_L,hr];rfl
  rw[e1,e2];show _=Option.map _ (if isIn ops ⟨#[c,d]⟩=true then some (Pc.tok 4 [c,d],r)else if isIn ops ⟨#[c]⟩=true then some (Pc.tok 4 [c],d::r)else none);rw[Bool.true_and]
  by_cases hq:isIn ops ⟨#[c,d]⟩=true
  ·rw[if_pos hq,if_pos hq,add_Q hr 4 2 (by simp)];rfl
  ·rw[if_neg hq,if_neg hq];split <;> rfl
theorem step_Q {s:ByteArray} {x:SS} {r:List UInt8} (hr:s.data.toList.drop x.at_=r):Sc.step s x=(stepQ r).map (fun q=>ap x q.1):=by
 cases r with
 | nil=>
  have hg:s[x.at_]? =none:=by rw[get_L,hr];rfl
  unfold Sc.step;rw[hg];rfl
 | cons c r=>
 obtain⟨h1,h2,h3⟩:=size_L hr;have hg:s[x.at_]? =some c:=by rw[get_L,hr];rfl
 unfold Sc.step;rw[hg];simp only[stepQ];split
 ·rfl
 split
 ·rfl
 rw[slashes_Q hr];split
 ·unfold Sc.note eol;rw[stop_tw,hr,ext_L,hr,take_while];rfl
 split
 ·rename_i hl;unfold nameS;rw[stop_tw,hr,Nat.add_sub_cancel_left];have hle:((c::r).takeWhile wordB).length≤(c::r).length:=(List.takeWhile_prefix _).length_le;split
  ·rfl
  ·rw[add_Q hr _ _ hle,take_while,ext_L,hr,take_while];rfl
 split
 ·rename_i hd;unfold numS;rw[stop_tw,hr,Nat.add_sub_cancel_left,hg];have hle:((c::r).takeWhile digit).length≤(c::r).length:=(List.takeWhile_prefix _).length_le;have e1:s[x.at_ +((c::r).takeWhile digit).length]? =((c::r).dropWhile digit).head? :=by
   rw[get_L,←List.drop_drop,hr,drop_while]
  have e2:((c::r).takeWhile digit).head? =some c:=by rw[List.takeWhile_cons,if_pos hd];rfl
  rw[e1];have e3:(decide (12 <((c::r).takeWhile digit).length)||(decide (1 <((c::r).takeWhile digit).length)&&(some c).any (fun b=>(b.toNat:Int)==48))||((c::r).dropWhile digit).head?.any letter)=numF ((c::r).takeWhile digit) ((c::r).dropWhile digit).head? :=by
   unfold numF;rw[e2]
  rw[e3];split
  ·rfl
  ·rw[add_Q hr _ _ hle,take_while];rfl
 split
 ·unfold textS textQ textE;rw[stop_tw,h2];simp only;have e1:s[x.at_ + 1 +(r.takeWhile (fun b=>b !=34&&b !=10)).length]? =(r.drop (r.takeWhile (fun b=>b !=34&&b !=10)).length).head? :=by
   rw[get_L,←List.drop_drop,h2]
  rw[e1];split
  ·rename_i hq;have e2:x.at_ + 1 +(r.takeWhile (fun b=>b !=34&&b !=10)).length + 1=x.at_ +((r.takeWhile (fun b=>b !=34&&b !=10)).length + 2):=by omega
   have hlen:(r.takeWhile (fun b=>b !=34&&b !=10)).length < r.length:=by
    rcases Nat.lt_or_ge (r.takeWhile (fun b=>b !=34&&b !=10)).length r.length with q | q
    ·exact q
    ·rw[List.drop_eq_nil_of_le q]at hq;cases hq
   rw[e2,add_Q hr _ _ (by simp only[List.length_cons];omega)];have e3:(c::r).take ((r.takeWhile (fun b=>b !=34&&b !=10)).length + 2)=c::(r.takeWhile (fun b=>b !=34&&b !=10)++ [34]):=by
    rw[List.take_succ_cons,List.take_add_one,take_while];rw[List.head?_drop]at hq;rw[hq];rfl
   rw[e3];rfl
  ·rfl
 split
 ·rw[add_Q hr 6 1 (by simp)];rfl
 ·exact op_Q hr
theorem stepQ_bytes {r:List UInt8} {p:Pc} {r':List UInt8} (h:stepQ r=some (p,r')):r=bytes p ++ r'∧bytes p≠ []:=by
 cases r with
 | nil=>cases h
 | cons c r=>
 simp only[stepQ]at h;have tws:∀(q:UInt8→Bool),q c=true→(c::r)=(c::r).takeWhile q ++(c::r).dropWhile q∧(c::r).takeWhile q≠ []:=fun q hq=>⟨tw_split q _,by rw[List.takeWhile_cons,if_pos hq];simp⟩
 split at h
 ·rename_i hc;cases h;refine⟨?_,by simp[bytes]⟩;have:c=10:=by
   rw[beq_iff_eq]at hc;apply UInt8.toNat_inj.1;show c.toNat=10;omega
  subst this;rfl
 split at h
 ·cases h;exact⟨rfl,by simp[bytes]⟩
 split at h
 ·rename_i hn _ _;cases h;exact tws (fun b:UInt8=>b !=10) (by
   have:c≠10:=by rintro rfl;exact hn rfl
   simpa using this)
 split at h
 ·rename_i hl;split at h
  ·cases h
  ·cases h;exact tws _ (by simp[wordB,hl])
 split at h
 ·rename_i hd;split at h
  ·cases h
  ·cases h;exact tws _ hd
 split at h
 ·unfold textQ at h;simp only at h;split at h
  ·rename_i hq;cases h;refine⟨?_,by simp[bytes]⟩;simp only[bytes,List.cons_append,List.append_assoc,List.cons.injEq,true_and];generalize hw:r.takeWhile (fun b=>b !=34&&b !=10)=w at *;have h1:r=w ++ r.drop w.length:=by
    rw[←hw,drop_while];exact tw_split _ _
   rw[List.head?_drop]at hq;have h2:r.drop w.length=34::r.drop (w.length + 1):=by
    have hlt:w.length < r.length:=by
     rcases Nat.lt_or_ge w.length r.length with q | q
     ·exact q
     ·rw[List.getElem?_eq_none q]at hq;cases hq
    rw[List.drop_eq_getElem_cons hlt];rw[List.getElem?_eq_getElem hlt]at hq;injection hq with hq
    rw[hq]
   conv=>lhs;rw[h1,h2]
   simp
  ·cases h
 split at h
 ·cases h;exact⟨rfl,by simp[bytes]⟩
 ·unfold opQ at h;split at h
  ·cases h;refine⟨?_,by simp[bytes]⟩;simp only[bytes,List.cons_append,List.take_append_drop]
  ·split at h
   ·cases h;exact⟨rfl,by simp[bytes]⟩
   ·cases h
inductive Reads:List UInt8→List Pc→Prop where
 | nil:Reads [] []
 | cons {r p r' ps} (h:stepQ r=some (p,r')) (hr:Reads r' ps):Reads r (p::ps)
theorem Reads.bytes {r ps} (h:Reads r ps):r=(ps.map Pc.bytes).flatten:=by
 induction h with
 | nil=>rfl
 | cons h _ ih=>
  have:=(stepQ_bytes h).1;rw[this,List.map_cons,List.flatten_cons,←ih]
theorem ap_at (x:SS) (p:Pc):(ap x p).at_=x.at_ +(Pc.bytes p).length:=by
 cases p <;> rfl
theorem Reads.loop {s:ByteArray} {r ps} (h:Reads r ps):∀(n:Nat) (x:SS),s.data.toList.drop x.at_=r→x.at_≤s.size→s.size < x.at_ + n→loopS s n x=(ps.foldl ap x,-1):=by
 induction h with
 | nil=>
  intro n x hr hx hn;have h1:=congrArg List.length hr;simp only[List.length_drop,List.length_nil]at h1;have h2:=ba_size s;cases n with
  | zero=>rfl
  | succ n=>unfold loopS;rw[if_neg (by omega)];rfl
 | @cons r p r' ps h _ ih=>
  intro n x hr hx hn;have hb:=stepQ_bytes h;have hst:=step_Q hr;rw[h]at hst;simp only[Option.map_some]at hst;have hlt:x.at_ < s.size:=by
   cases hq:r with
   | nil=>rw[hq]at h;cases h
   | cons c r0=>rw[hq]at hr;exact(size_L hr).1
  cases n with
  | zero=>omega
  | succ n=>
   unfold loopS;rw[if_pos hlt,hst];simp only;have hat:=ap_at x p;have hpos:0 <(Pc.bytes p).length:=List.length_pos_iff.2 hb.2;have h5:=(step_ok hlt hst).2.1;rw[List.foldl_cons];refine ih n (ap x p) ?_ h5 (by omega);rw[hat,←List.drop_drop,hr,hb.1,List.drop_left]
theorem loop_reads {s:ByteArray}:∀(n:Nat) (x:SS) (r:List UInt8),s.data.toList.drop x.at_=r→x.at_≤s.size→s.size < x.at_ + n→(loopS s n x).2 < 0→∃ps,Reads r ps
 | 0,x,r,hr,hx,hn,hf=>by omega
 | n + 1,x,r,hr,hx,hn,hf=>by
  unfold loopS at hf;split at hf
  ·rename_i hlt;have hst:=step_Q hr;cases hq:stepQ r with
   | none=>
    rw[hq]at hst;simp only[Option.map_none]at hst;rw[hst]at hf;simp only at hf;omega
   | some q=>
    obtain⟨p,r'⟩:=q;rw[hq]at hst;simp only[Option.map_some]at hst;rw[hst]at hf;simp only at hf;have hb:=stepQ_bytes hq;have hat:=ap_at x p;have hpos:0 <(Pc.bytes p).length:=List.length_pos_iff.2 hb.2;have h5:=(step_ok hlt hst).2.1;obtain⟨ps,hps⟩:=loop_reads n (ap x p) r' (by rw[hat,←List.drop_drop,hr,hb.1,List.drop_left]) h5 (by omega) hf;exact⟨p::ps,.cons hq hps⟩
  ·have:r= []:=by
    rw[←hr];exact List.drop_eq_nil_of_le (by rw[←ba_size];omega)
   subst this;exact⟨[],.nil⟩
def Good (p:Pc):Prop:=stepQ (bytes p)=some (p,[])
def Sep:Pc→Option UInt8→Prop
 | .sp _,_=>True
 | .nl,_=>True
 | .com _,c=>∀b,c=some b→b=10
 | .tok k w,c=>∀b,c=some b→(k=1∨k=5→wordB b=false)∧(k=2→digit b=false∧letter b=false)∧(k=4→∀a,w= [a]→isIn ops ⟨#[a,b]⟩=false)
theorem takeWhile_stop {α:Type} (p:α→Bool):∀(w r:List α),w.all p=true→(∀b,r.head? =some b→p b=false)→(w ++ r).takeWhile p=w∧(w ++ r).dropWhile p=r
 | [],r,h,g=>by
  cases r with
  | nil=>exact⟨rfl,rfl⟩
  | cons c r=>
   have:=g c rfl;simp[List.takeWhile_cons,List.dropWhile_cons,this]
 | c::w,r,h,g=>by
  rw[List.all_cons,Bool.and_eq_true]at h;obtain⟨h1,h2⟩:=takeWhile_stop p w r h.2 g;simp only[List.cons_append,List.takeWhile_cons,List.dropWhile_cons,h.1,if_true,h1,h2,and_self]
theorem all_takeWhile {α:Type} (p:α→Bool) (r:List α):(r.takeWhile p).all p=true:=by
 rw[List.all_eq_true];intro x hx;exact Rf.tw_all hx
theorem head_dropWhile {α:Type} (p:α→Bool):∀(r:List α) b,(r.dropWhile p).head? =some b→p b=false
 | [],b,h=>by cases h
 | c::r,b,h=>by
  rw[List.dropWhile_cons]at h;split at h
  ·exact head_dropWhile p r b h
  ·rename_i hc;simp only[List.head?_cons,Option.some.injEq]at h;subst h;simpa using hc
theorem unglue {r:List UInt8} {p:Pc} {r':List UInt8} (h:stepQ r=some (p,r')):Good p∧Sep p r'.head? :=by
 cases r with
 | nil=>cases h
 | cons c r=>
 have hb:=stepQ_bytes h;unfold Good;simp only[stepQ]at h;split at h
 ·cases h;exact⟨rfl,True.intro⟩
 rename_i n1;split at h
 ·rename_i n2;cases h;refine⟨?_,True.intro⟩;simp only[bytes,stepQ,n1,n2,if_true,Bool.false_eq_true,if_false]
 rename_i n2;split at h
 ·rename_i n3;cases h;have hc10:(fun b:UInt8=>b !=10) c=true:=by
   have:c≠10:=by rintro rfl;exact n1 rfl
   simpa using this
  refine⟨?_,fun b hb=>by
   have:=head_dropWhile (fun b:UInt8=>b !=10) _ b hb;simpa using this⟩
  have e:(c::r).takeWhile (fun b=>b !=10)=c::r.takeWhile (fun b=>b !=10):=by rw[List.takeWhile_cons,if_pos hc10]
  have hh:(r.takeWhile (fun b=>b !=10)).head? =r.head? :=by
   rw[Bool.and_eq_true,beq_iff_eq,beq_iff_eq]at n3;cases r with
   | nil=>rfl
   | cons d r=>
    have:d=47:=by simpa using n3.2
    subst this;rfl
  have hall:=all_takeWhile (fun b:UInt8=>b !=10) (c::r);have ht:=takeWhile_stop (fun b:UInt8=>b !=10) _ [] hall (fun b h=>by cases h);rw[List.append_nil]at ht;simp only[bytes];rw[e]at ht⊢;simp only[stepQ];rw[if_neg n1,if_neg n2,hh,if_pos n3,ht.1,ht.2]
 rename_i n3;have n3':∀r2:List UInt8,r2.head? =none∨r2.head? =r.head? →¬(c==47&&r2.head? ==some 47)=true:=by
  intro r2 h2;rcases h2 with h2 | h2
  ·rw[h2];simp
  ·rw[h2];exact n3
 split at h
 ·rename_i hl;split at h
  ·cases h
  ·rename_i hlen;cases h;refine⟨?_,fun b hb=>⟨fun _=>head_dropWhile wordB _ b hb,?_,?_⟩⟩
   ·have hw:wordB c=true:=by simp[wordB,hl]
    have e:(c::r).takeWhile wordB=c::r.takeWhile wordB:=by rw[List.takeWhile_cons,if_pos hw]
    have hall:=all_takeWhile wordB (c::r);have ht:=takeWhile_stop wordB _ [] hall (fun b h=>by cases h);rw[List.append_nil]at ht;simp only[bytes];rw[e]at ht hlen⊢;have hx:¬(c==47&&(r.takeWhile wordB).head? ==some 47)=true:=by
     cases hq:(r.takeWhile wordB).head? with
     | none=>simp
     | some d=>
      cases r with
      | nil=>cases hq
      | cons d' r=>
       rw[List.takeWhile_cons]at hq;split at hq
       ·simp only[List.head?_cons,Option.some.injEq]at hq;subst hq;exact n3
       ·cases hq
    simp only[stepQ];rw[if_neg n1,if_neg n2,if_neg hx,if_pos hl,ht.1,ht.2,if_neg hlen]
   ·intro hk;split at hk <;> omega
   ·intro hk;split at hk <;> omega
 rename_i hl;split at h
 ·rename_i hd;split at h
  ·cases h
  ·rename_i hnum;cases h;refine⟨?_,fun b hb=>⟨fun hk=>by omega,fun _=>⟨head_dropWhile digit _ b hb,?_⟩,fun hk=>by omega⟩⟩
   ·have e:(c::r).takeWhile digit=c::r.takeWhile digit:=by rw[List.takeWhile_cons,if_pos hd]
    have hall:=all_takeWhile digit (c::r);have ht:=takeWhile_stop digit _ [] hall (fun b h=>by cases h);rw[List.append_nil]at ht;have hnum':¬numF ((c::r).takeWhile digit) none=true:=by
     intro q;apply hnum;unfold numF at q⊢;rw[Bool.or_eq_true]at q⊢;rcases q with q | q
     ·exact .inl q
     ·cases q
    simp only[bytes];rw[e]at ht hnum'⊢;have hx:¬(c==47&&(r.takeWhile digit).head? ==some 47)=true:=by
     cases hq:(r.takeWhile digit).head? with
     | none=>simp
     | some d=>
      cases r with
      | nil=>cases hq
      | cons d' r=>
       rw[List.takeWhile_cons]at hq;split at hq
       ·simp only[List.head?_cons,Option.some.injEq]at hq;subst hq;exact n3
       ·cases hq
    simp only[stepQ];rw[if_neg n1,if_neg n2,if_neg hx,if_neg hl,if_pos hd,ht.1,ht.2,List.head?_nil,if_neg hnum']
   ·unfold numF at hnum;rw[Bool.or_eq_true,not_or]at hnum;rw[hb]at hnum;simpa using hnum.2
 rename_i hd;split at h
 ·rename_i hq;unfold textQ at h;simp only at h;split at h
  ·rename_i hh;cases h;refine⟨?_,fun b hb=>⟨fun hk=>by omega,fun hk=>by omega,fun hk=>by omega⟩⟩;generalize hw:r.takeWhile (fun b=>b !=34&&b !=10)=w at *;have hall:w.all (fun b=>b !=34&&b !=10)=true:=by rw[←hw];exact all_takeWhile _ _
   have ht:=takeWhile_stop (fun b:UInt8=>b !=34&&b !=10) w [34] hall (fun b h=>by
    simp only[List.head?_cons,Option.some.injEq]at h;subst h;rfl)
   have hx:¬(c==47&&(w ++ [34]).head? ==some 47)=true:=by
    have:c≠47:=by
     rintro rfl;exact absurd hq (by decide)
    simp[this]
   simp only[bytes,stepQ];rw[if_neg n1,if_neg n2,if_neg hx,if_neg hl,if_neg hd,if_pos hq];unfold textQ;simp only;rw[ht.1];simp
  ·cases h
 rename_i hq;split at h
 ·rename_i hs;cases h;refine⟨?_,fun b hb=>⟨fun hk=>by omega,fun hk=>by omega,fun hk=>by omega⟩⟩;have hx:¬(c==47&&([]:List UInt8).head? ==some 47)=true:=by simp
  simp only[bytes,stepQ];rw[if_neg n1,if_neg n2,if_neg hx,if_neg hl,if_neg hd,if_neg hq,if_pos hs]
 ·rename_i hs;unfold opQ at h;split at h
  ·rename_i ho;cases h;cases r with
   | nil=>cases ho
   | cons d r=>
    refine⟨?_,fun b hb=>⟨fun hk=>by omega,fun hk=>by omega,fun _ a ha=>by simp at ha⟩⟩;simp only[List.head?_cons,Option.any_some]at ho;simp only[bytes,List.take_succ_cons,List.take_zero,stepQ];have hx:¬(c==47&&([d]:List UInt8).head? ==some 47)=true:=n3;rw[if_neg n1,if_neg n2,if_neg hx,if_neg hl,if_neg hd,if_neg hq,if_neg hs];unfold opQ;simp[ho]
  ·rename_i ho;split at h
   ·rename_i hi;cases h;refine⟨?_,fun b hb=>⟨fun hk=>by omega,fun hk=>by omega,fun _ a ha=> ?_⟩⟩
    ·have hx:¬(c==47&&([]:List UInt8).head? ==some 47)=true:=by simp
     simp only[bytes,stepQ];rw[if_neg n1,if_neg n2,if_neg hx,if_neg hl,if_neg hd,if_neg hq,if_neg hs];unfold opQ;simp[hi]
    ·simp only[List.cons.injEq,and_true]at ha;subst ha;rw[hb]at ho;simpa using ho
   ·cases h
theorem ops_no47 (w:List UInt8) (h:w.head? =some 47):isIn ops ⟨w.toArray⟩=false:=by
 rw[Bool.eq_false_iff];intro hi;simp only[isIn,List.any_eq_true,eqB,beq_iff_eq]at hi;obtain⟨o,ho,he⟩:=hi;have h3:ops.all (fun x=> !(x.toList.head? ==some 47))=true:=by kernel_rfl
 have h4:=List.all_eq_true.1 h3 o ho;rw[←he,Lib.toList_data]at h4;simp only at h4;rw[h]at h4;simp at h4
theorem slash_com {r:List UInt8} {p:Pc} {r':List UInt8} (n3:¬((47:UInt8)==47&&r.head? ==some 47)=true) (h:stepQ (47::r)=some (p,r')):False:=by
 simp only[stepQ]at h;rw[if_neg (by decide),if_neg (by decide),if_neg n3,if_neg (by decide),if_neg (by decide),if_neg (by decide),if_neg (by decide)]at h;unfold opQ at h;have h1:isIn ops ⟨#[47]⟩=false:=ops_no47 [47] rfl;cases r with
 | nil=>simp[h1]at h
 | cons d r=>
  have h2:isIn ops ⟨#[47,d]⟩=false:=ops_no47 [47,d] rfl;simp[h1,h2]at h
theorem nil_tw {α:Type} {q:α→Bool} {r:List α} (h:r.dropWhile q= []):r.all q=true:=by
 rw[List.all_eq_true];exact Rf.dropWhile_nil.1 h
theorem glue {p:Pc} {r:List UInt8} (g:Good p) (s:Sep p r.head?):stepQ (bytes p ++ r)=some (p,r):=by
 unfold Good at g;generalize hb:bytes p=b at g⊢;cases b with
 | nil=>cases g
 | cons c w=>
 have h:=g;show stepQ (c::(w ++ r))=_;simp only[stepQ]at h⊢;split at h
 ·rename_i n1;cases h;rw[if_pos n1];rfl
 rename_i n1;rw[if_neg n1];split at h
 ·rename_i n2;cases h;rw[if_pos n2];rfl
 rename_i n2;rw[if_neg n2];split at h
 ·rename_i n3;simp only[Option.some.injEq,Prod.mk.injEq]at h;obtain⟨rfl,h2⟩:=h;have ha:=nil_tw h2;have hh:¬w= []:=by rintro rfl;simp at n3
  have hw:(w ++ r).head? =w.head? :=by
   cases w with
   | nil=>exact absurd rfl hh
   | cons d w=>rfl
  rw[hw,if_pos n3];have ht:=takeWhile_stop (fun b:UInt8=>b !=10) (c::w) r ha (fun b q=>by
   have:=s b q;subst this;rfl)
  rw[List.cons_append]at ht;have h0:=takeWhile_stop (fun b:UInt8=>b !=10) (c::w) [] ha (fun b q=>by cases q);rw[List.append_nil]at h0;rw[ht.1,ht.2,h0.1]
 rename_i n3;have n3':¬(c==47&&(w ++ r).head? ==some 47)=true:=by
  intro q;rw[Bool.and_eq_true,beq_iff_eq]at q;obtain⟨rfl,_⟩:=q;exact slash_com n3 g
 rw[if_neg n3'];split at h
 ·rename_i hl;rw[if_pos hl];split at h
  ·cases h
  ·rename_i hlen;simp only[Option.some.injEq,Prod.mk.injEq]at h;obtain⟨rfl,h2⟩:=h;have ha:=nil_tw h2;have ht:=takeWhile_stop wordB (c::w) r ha (fun b q=>(s b q).1 (by split <;> simp));rw[List.cons_append]at ht;have h0:=takeWhile_stop wordB (c::w) [] ha (fun b q=>by cases q);rw[List.append_nil]at h0;rw[h0.1]at hlen;rw[ht.1,ht.2,h0.1,if_neg hlen]
 rename_i hl;rw[if_neg hl];split at h
 ·rename_i hd;rw[if_pos hd];split at h
  ·cases h
  ·rename_i hnum;simp only[Option.some.injEq,Prod.mk.injEq]at h;obtain⟨rfl,h2⟩:=h;have ha:=nil_tw h2;have ht:=takeWhile_stop digit (c::w) r ha (fun b q=>((s b q).2.1 rfl).1);rw[List.cons_append]at ht;have h0:=takeWhile_stop digit (c::w) [] ha (fun b q=>by cases q);rw[List.append_nil]at h0;rw[h0.1,h0.2]at hnum;have hnum':¬numF (c::w) r.head? =true:=by
    intro q;apply hnum;unfold numF at q⊢;rw[Bool.or_eq_true]at q⊢;rcases q with q | q
    ·exact .inl q
    ·exfalso
     cases hr:r.head? with
     | none=>rw[hr]at q;cases q
     | some b=>
      rw[hr]at q;have:=((s b hr).2.1 rfl).2;simp only[Option.any_some]at q;rw[this]at q;cases q
   rw[ht.1,ht.2,h0.1,if_neg hnum']
 rename_i hd;rw[if_neg hd];split at h
 ·rename_i hq;rw[if_pos hq];unfold textQ at h⊢;simp only at h⊢;split at h
  ·rename_i hh;simp only[Option.some.injEq,Prod.mk.injEq]at h;obtain⟨rfl,h2⟩:=h;generalize hw:w.takeWhile (fun b=>b !=34&&b !=10)=v at *;have hall:v.all (fun b=>b !=34&&b !=10)=true:=by rw[←hw];exact all_takeWhile _ _
   have hvw:w=v ++ [34]:=by
    have e1:w=v ++ w.drop v.length:=by
     rw[←hw,drop_while];exact tw_split _ _
    rw[List.head?_drop]at hh;have hlt:v.length < w.length:=by
     rcases Nat.lt_or_ge v.length w.length with q | q
     ·exact q
     ·rw[List.getElem?_eq_none q]at hh;cases hh
    have e2:w.drop v.length= [34]:=by
     rw[List.drop_eq_getElem_cons hlt,h2];rw[List.getElem?_eq_getElem hlt]at hh;injection hh with hh
     rw[hh]
    rw[e2]at e1;exact e1
   have ht:=takeWhile_stop (fun b:UInt8=>b !=34&&b !=10) v (34::r) hall (fun b h=>by
    simp only[List.head?_cons,Option.some.injEq]at h;subst h;rfl)
   have e:w ++ r=v ++ 34::r:=by rw[hvw];simp
   rw[e,ht.1];simp
  ·cases h
 rename_i hq;rw[if_neg hq];split at h
 ·rename_i hs;rw[if_pos hs];simp only[Option.some.injEq,Prod.mk.injEq]at h;obtain⟨rfl,rfl⟩:=h;rfl
 ·rename_i hs;rw[if_neg hs];unfold opQ at h⊢;split at h
  ·rename_i ho;simp only[Option.some.injEq,Prod.mk.injEq]at h;obtain⟨rfl,h2⟩:=h;cases w with
   | nil=>cases ho
   | cons d w=>
    simp only[List.drop_succ_cons,List.drop_zero]at h2;subst h2;have ho':(([d] ++ r).head?.any fun d=>isIn ops ⟨#[c,d]⟩)=true:=ho;rw[if_pos ho'];rfl
  ·split at h
   ·rename_i hi;simp only[Option.some.injEq,Prod.mk.injEq]at h;obtain⟨rfl,rfl⟩:=h;have:¬(([] ++ r).head?.any fun d=>isIn ops ⟨#[c,d]⟩)=true:=by
     intro q;rw[List.nil_append]at q;cases hr:r.head? with
     | none=>rw[hr]at q;cases q
     | some b=>
      rw[hr]at q;have:=(s b hr).2.2 rfl c rfl;simp only[Option.any_some]at q;rw[this]at q;cases q
    rw[if_neg this,if_pos hi];rfl
   ·cases h
end Pc
end Go.Proofs.Dm
set_option maxHeartbeats 8000000
namespace Go.Proofs.Dm
open Go Go.Proofs Go.Proofs.Dm.Sc
namespace Pc
def dec (r:List UInt8):Nat×Nat:=Lib.decodeN r.length (r.getD 0 0).toNat (r.getD 1 0).toNat (r.getD 2 0).toNat (r.getD 3 0).toNat
def badR (r:List UInt8):Bool:=badN (dec r).1 (dec r).2
theorem get_drop (s:ByteArray) (i k:Nat):s.get! (i + k)=(s.data.toList.drop i).getD k 0:=by
 rw[List.getD_eq_getElem?_getD,List.getElem?_drop];show s.data[i + k]! =_;rw[Array.getElem!_eq_getD,Array.getD_eq_getD_getElem?];simp;rfl
theorem decode_list (s:ByteArray) (i:Nat):Utf8.decode s i=dec (s.data.toList.drop i):=by
 rw[Lib.decode_at];unfold dec;have h:=get_drop s i;have h0:=h 0;rw[Nat.add_zero]at h0;rw[h0,h 1,h 2,h 3,List.length_drop,←ba_size]
theorem badAt_list (s:ByteArray) {i:Nat} (h:i < s.size):badAt s i=badR (s.data.toList.drop i):=by
 unfold badAt badR;have e:Lib.decodeGo (s.extract i s.size)=dec (s.data.toList.drop i):=by
  unfold Lib.decodeGo;have hz:¬(s.extract i s.size).size=0:=by simp;omega
  rw[if_neg hz,decode_list,List.drop_zero,ext_list]
  congr 1
  rw[List.take_of_length_le];rw[List.length_drop,←ba_size];omega
 rw[e,decode_list]
inductive V:List UInt8→Prop where
 | nil:V []
 | cons {r} (h:r≠ []) (hb:badR r=false) (hr:V (r.drop (dec r).2)):V r
theorem V.inv {r:List UInt8} (h:V r) (hne:r≠ []):badR r=false∧V (r.drop (dec r).2):=by
 cases h with
 | nil=>exact absurd rfl hne
 | cons _ a b=>exact⟨a,b⟩
theorem fault_V {s:ByteArray}:∀(n i:Nat),s.size≤i + n→i≤s.size→(faultF s n i= -1↔V (s.data.toList.drop i))
 | 0,i,h,hi=>by
  have:s.data.toList.drop i= []:=List.drop_eq_nil_of_le (by rw[←ba_size];omega);rw[this];exact⟨fun _=> .nil,fun _=>rfl⟩
 | n + 1,i,h,hi=>by
  unfold faultF
  by_cases hlt:i < s.size
  ·rw[if_pos hlt,badAt_list s hlt,decode_list];have hne:s.data.toList.drop i≠ []:=by
    intro q;have:=congrArg List.length q;rw[List.length_drop,←ba_size]at this;simp at this;omega
   cases hb:badR (s.data.toList.drop i)with
   | true=>
    simp only[if_true];refine⟨fun q=>by omega,fun q=> ?_⟩;have:=(q.inv hne).1;rw[hb]at this;cases this
   | false=>
    simp only[Bool.false_eq_true,if_false];have hw:1≤(dec (s.data.toList.drop i)).2:=by rw[←decode_list];exact decW s i
    rcases Nat.lt_or_ge s.size (i +(dec (s.data.toList.drop i)).2)with q | q
    ·have e:(s.data.toList.drop i).drop (dec (s.data.toList.drop i)).2= []:=by
      rw[List.drop_drop];exact List.drop_eq_nil_of_le (by rw[←ba_size];omega)
     have e2:faultF s n (i +(dec (s.data.toList.drop i)).2)= -1:=by
      cases n with
      | zero=>rfl
      | succ n=>unfold faultF;rw[if_neg (by omega)]
     rw[e2];exact⟨fun _=> .cons hne hb (by rw[e];exact .nil),fun _=>rfl⟩
    ·rw[fault_V n _ (by omega) q,←List.drop_drop];exact⟨fun q=> .cons hne hb q,fun q=>(q.inv hne).2⟩
  ·rw[if_neg hlt];have:s.data.toList.drop i= []:=List.drop_eq_nil_of_le (by rw[←ba_size];omega);rw[this];exact⟨fun _=> .nil,fun _=>rfl⟩
theorem ge128 {b:Nat} (h:b / 64=2):128≤b:=by omega
theorem dec_key {r:List UInt8} (hr:r≠ []) (hb:badR r=false):1≤(dec r).2∧(dec r).2≤r.length∧(∀k,1≤k→k <(dec r).2→128≤(r.getD k 0).toNat)∧
  ∀r':List UInt8,(dec r).2≤r'.length→(∀k,k <(dec r).2→r'.getD k 0=r.getD k 0)→dec r'=dec r:=by
 have hlen:0 < r.length:=List.length_pos_iff.2 hr;have hnb:¬((dec r).1=65533∧(dec r).2=1):=by
  rintro⟨q1,q2⟩;unfold badR badN at hb;rw[q1,q2]at hb;simp at hb
 obtain⟨b0,e0⟩:∃b0,b0=(r.getD 0 0).toNat:=⟨_,rfl⟩
 obtain⟨b1,e1⟩:∃b1,b1=(r.getD 1 0).toNat:=⟨_,rfl⟩
 obtain⟨b2,e2⟩:∃b2,b2=(r.getD 2 0).toNat:=⟨_,rfl⟩
 obtain⟨b3,e3⟩:∃b3,b3=(r.getD 3 0).toNat:=⟨_,rfl⟩
 have hd:dec r=Lib.decodeN r.length b0 b1 b2 b3:=by rw[e0,e1,e2,e3];rfl
 have key : ∀ (w v : Nat), Lib.decodeN r.length b0 b1 b2 b3 = (v, w) → ¬ (v = 65533 ∧ w = 1) → 1 ≤ w ∧ w ≤ r.length ∧ (1 < w → 128 ≤ b1) ∧ (2 < w → 128 ≤ b2) ∧ (3 < w → 128 ≤ b3) ∧ w ≤ 4 ∧
     ∀n' c1 c2 c3,w≤n'→(1 < w→c1=b1)→(2 < w→c2=b2)→(3 < w→c3=b3)→Lib.decodeN n' b0 c1 c2 c3=(v,w):=by
   intro w v h hn
   unfold Lib.decodeN at h
   split at h
   · rename_i q1
     simp only[Prod.mk.injEq]at h
     obtain⟨rfl,rfl⟩:=h
     refine⟨by omega,by omega,by omega,by omega,by omega,by omega,fun n' c1 c2 c3 g0 g1 g2 g3=> ?_⟩
     unfold Lib.decodeN
     rw[if_pos q1]
   rename_i n1
   split at h
   · rename_i q1
     split at h
     · rename_i q2
       simp only[Prod.mk.injEq]at h
       obtain⟨rfl,rfl⟩:=h
       refine⟨by omega,by omega,by omega,by omega,by omega,by omega,fun n' c1 c2 c3 g0 g1 g2 g3=> ?_⟩
       obtain rfl:=g1 (by omega)
       unfold Lib.decodeN
       rw[if_neg n1,if_pos ⟨q1.1,by omega,q1.2.2⟩,if_pos q2]
     · simp only[Prod.mk.injEq]at h
       exact absurd ⟨h.1.symm,h.2.symm⟩ hn
   rename_i n2
   split at h
   · rename_i q1
     split at h
     · rename_i q2
       simp only[Prod.mk.injEq]at h
       obtain⟨rfl,rfl⟩:=h
       refine⟨by omega,by omega,by omega,by omega,by omega,by omega,fun n' c1 c2 c3 g0 g1 g2 g3=> ?_⟩
       obtain rfl:=g1 (by omega)
       obtain rfl:=g2 (by omega)
       unfold Lib.decodeN
       rw[if_neg n1,if_neg (by omega),if_pos ⟨q1.1,⟨by omega,q1.2.1.2⟩,by omega,q1.2.2.2⟩,if_pos q2]
     · simp only[Prod.mk.injEq]at h
       exact absurd ⟨h.1.symm,h.2.symm⟩ hn
   rename_i n3
   split at h
   · rename_i q1
     split at h
     · rename_i q2
       simp only[Prod.mk.injEq]at h
       obtain⟨rfl,rfl⟩:=h
       refine⟨by omega,by omega,by omega,by omega,by omega,by omega,fun n' c1 c2 c3 g0 g1 g2 g3=> ?_⟩
       obtain rfl:=g1 (by omega)
       obtain rfl:=g2 (by omega)
       obtain rfl:=g3 (by omega)
       unfold Lib.decodeN
       rw[if_neg n1,if_neg (by omega),if_neg (by omega),if_pos ⟨q1.1,⟨by omega,q1.2.1.2⟩,⟨by omega,q1.2.2.1.2⟩,by omega,q1.2.2.2.2⟩,if_pos q2]
     · simp only[Prod.mk.injEq]at h
       exact absurd ⟨h.1.symm,h.2.symm⟩ hn
   · simp only[Prod.mk.injEq]at h
     exact absurd ⟨h.1.symm,h.2.symm⟩ hn
 obtain⟨g1,g2,g3,g4,g5,g6,g7⟩:=key (dec r).2 (dec r).1 hd.symm hnb;refine⟨g1,g2,fun k h1 h2=> ?_,fun r' h1 h2=> ?_⟩
 ·have:k=1∨k=2∨k=3:=by omega
  rcases this with rfl | rfl | rfl
  ·rw[←e1];exact g3 h2
  ·rw[←e2];exact g4 h2
  ·rw[←e3];exact g5 h2
 ·have e:dec r'=Lib.decodeN r'.length b0 (r'.getD 1 0).toNat (r'.getD 2 0).toNat (r'.getD 3 0).toNat:=by
   unfold dec;rw[h2 0 (by omega),←e0]
  rw[e,g7 r'.length _ _ _ h1 (fun q=>by rw[h2 1 q,e1]) (fun q=>by rw[h2 2 q,e2]) (fun q=>by rw[h2 3 q,e3])]
theorem V.app {a b:List UInt8} (ha:V a) (hb:V b):V (a ++ b):=by
 induction ha with
 | nil=>exact hb
 | @cons r h hbad hr ih=>
  obtain⟨k1,k2,k3,k4⟩:=dec_key h hbad;have e:=k4 (r ++ b) (by rw[List.length_append];omega) (fun k hk=>by
   rw[List.getD_eq_getElem?_getD,List.getD_eq_getElem?_getD,List.getElem?_append_left (by omega)])
  refine .cons (by simp[h]) (by unfold badR;rw[e];exact hbad) ?_;rw[e,List.drop_append_of_le_length k2];exact ih
theorem V.cut:∀(n:Nat) (a b:List UInt8),a.length≤n→(∀c,b.head? =some c→c.toNat < 128)→V (a ++ b)→V a∧V b
 | n,[],b,hn,hh,h=>⟨.nil,h⟩
 | 0,c::a,b,hn,hh,h=>by simp at hn
 | n + 1,c::a,b,hn,hh,h=>by
  cases h with
  | cons h hb hr=>
   obtain⟨k1,k2,k3,k4⟩:=dec_key h hb;generalize hw:dec (c::a ++ b)=d at *;have hwa:d.2≤(c::a).length:=by
    rcases Nat.lt_or_ge (c::a).length d.2 with q | q
    ·exfalso
     have h3:=k3 (c::a).length (by simp) q;rw[List.getD_eq_getElem?_getD,List.getElem?_append_right (Nat.le_refl _),Nat.sub_self]at h3;cases b with
     | nil=>
      simp only[List.append_nil]at k2;omega
     | cons e b=>
      have:=hh e rfl;simp only[List.getElem?_cons_zero,Option.getD_some]at h3;omega
    ·exact q
   have e:=k4 (c::a) hwa (fun k hk=>by
    rw[List.getD_eq_getElem?_getD,List.getD_eq_getElem?_getD,List.getElem?_append_left (by omega)])
   rw[List.drop_append_of_le_length hwa]at hr;obtain⟨g1,g2⟩:=V.cut n ((c::a).drop d.2) b (by rw[List.length_drop];simp only[List.length_cons]at hn⊢;omega) hh hr;refine⟨.cons (by simp) ?_ (by rw[e];exact g1),g2⟩;unfold badR at hb⊢;rw[e];rw[hw]at hb;exact hb
theorem V.one {b:UInt8} (h:b=32∨b=9∨b=10):V [b]:=by
 have e:dec [b]=(b.toNat,1)∧badR [b]=false:=by
  rcases h with rfl | rfl | rfl <;> exact⟨rfl,rfl⟩
 refine .cons (by simp) e.2 ?_;rw[e.1];exact .nil
end Pc
end Go.Proofs.Dm
set_option maxHeartbeats 4000000
namespace Go.Proofs.Dm
open Go Go.Proofs Go.Proofs.Dm.Sc
namespace Gr
variable {α β:Type} {l:List Tok} {P:Nat→Prop}
def isBang (t:Tok):Bool:=t.kind==4&&t.text.toList== [33]
def noEq (t:Tok):Bool:= !(t.kind==4&&t.text.toList.head? ==some 61)
def endW (l:List Tok) (j:Nat):Prop:=(tokAt l j).kind≠6∧(ends (tokAt l j)=true∨Fo.isO (tokAt l j) [123]=true)
def SemAt (l:List Tok) (a i:Nat):Prop:=(tokAt l i).kind=6→∃j,a≤j∧j < i∧(∀k,j < k→k < i→(tokAt l k).kind=6)∧endW l j
structure Rd (l:List Tok) (a a':Nat):Prop where
 le:a≤a'
 sem:∀i,a≤i→i < a'→SemAt l a i
 bang:∀i,a≤i→i < a'→isBang (tokAt l i)=true→i + 1 < a'∧noEq (tokAt l (i + 1))=true
def En (l:List Tok) (a a':Nat):Prop:=a < a'→(tokAt l (a' - 1)).kind≠6∧ends (tokAt l (a' - 1))=true
def Fs (l:List Tok) (a a':Nat):Prop:=a < a'∧noEq (tokAt l a)=true
theorem SemAt.mono {a b i:Nat} (h:SemAt l b i) (hab:a≤b):SemAt l a i:=fun q=>by
 obtain⟨j,h1,h2⟩:=h q;exact⟨j,by omega,h2⟩
theorem Rd.refl {a:Nat}:Rd l a a:=⟨Nat.le_refl _,fun i h g=>by omega,fun i h g=>by omega⟩
theorem Rd.trans {a b c:Nat} (h:Rd l a b) (g:Rd l b c):Rd l a c:=⟨Nat.le_trans h.le g.le,fun i q1 q2=>by
  rcases Nat.lt_or_ge i b with q | q
  ·exact h.sem i q1 q
  ·exact(g.sem i q q2).mono h.le,
 fun i q1 q2 q3=>by
  rcases Nat.lt_or_ge i b with q | q
  ·have:=h.bang i q1 q q3;exact⟨by have:=g.le;omega,this.2⟩
  ·exact g.bang i q q2 q3⟩
def ntk (l:List Tok) (i:Nat):Prop:=(tokAt l i).kind≠6∧isBang (tokAt l i)=false
theorem Rd.one {a:Nat} (h:ntk l a):Rd l a (a + 1):=⟨by omega,fun i q1 q2 q=>by
  have:i=a:=by omega
  subst this;exact absurd q h.1,fun i q1 q2 q=>by
  have:i=a:=by omega
  subst this;rw[h.2]at q;cases q⟩
def Rg (l:List Tok) (P:Nat→Prop) (en fs:Bool) (s:G α):Prop:=∀d a x a',P a→s d a= .ok x a'→Rd l a a'∧(en=true→En l a a')∧(fs=true→Fs l a a')
def Rn (l:List Tok) (P:Nat→Prop) (en:Bool) (s:G α):Prop:=∀d a x a',P a→s d a= .ok x a'→Rd l a a'∧a < a'∧(en=true→En l a a')
theorem Rn.g {en:Bool} {s:G α} (h:Rn l P en s):Rg l P en false s:=fun d a x a' hp q=>⟨(h d a x a' hp q).1,(h d a x a' hp q).2.2,(fun q=>by cases q)⟩
theorem Rg.n {en:Bool} {s:G α} (h:Rg l P en true s):Rn l P en s:=fun d a x a' hp q=>⟨(h d a x a' hp q).1,((h d a x a' hp q).2.2 rfl).1,(h d a x a' hp q).2.1⟩
theorem Rn.use {en:Bool} {s:G α} (h:Rn l Any en s):Rn l P en s:=fun d a x a' _ q=>h d a x a' True.intro q
theorem Rg.use {en fs:Bool} {s:G α} (h:Rg l Any en fs s):Rg l P en fs s:=fun d a x a' _ q=>h d a x a' True.intro q
theorem Rg.weak {en fs:Bool} {s:G α} (h:Rg l P en fs s):Rg l P false false s:=fun d a x a' hp q=>⟨(h d a x a' hp q).1,(fun q=>by cases q),(fun q=>by cases q)⟩
theorem Rn.weak {en:Bool} {s:G α} (h:Rn l P en s):Rn l P false s:=fun d a x a' hp q=>⟨(h d a x a' hp q).1,(h d a x a' hp q).2.1,(fun q=>by cases q)⟩
theorem En.left {a b c:Nat} (hab:a < b) (h:En l a b) (g:En l b c) (hbc:b≤c):En l a c:=by
 intro _;rcases Nat.eq_or_lt_of_le hbc with q | q
 ·subst q;exact h hab
 ·exact g q
theorem Rn.left {en:Bool} {s:G α} {t:α→G β} (h:Rn l P en s) (ht:∀x,Rg l Any en false (t x)):Rn l P en (Gr.bind s t):=by
 intro d a x a' hp q;obtain⟨y,b,h1,h2⟩:=bind_ok q;obtain⟨r1,r2,r3⟩:=h d a y b hp h1;obtain⟨g1,g2,_⟩:=ht y d b x a' True.intro h2;exact⟨r1.trans g1,by have:=g1.le;omega,fun e=>En.left r2 (r3 e) (g2 e) g1.le⟩
theorem Rn.right {en e1 f1:Bool} {s:G α} {t:α→G β} (h:Rg l P e1 f1 s) (ht:∀x,Rn l Any en (t x)):Rn l P en (Gr.bind s t):=by
 intro d a x a' hp q;obtain⟨y,b,h1,h2⟩:=bind_ok q;obtain⟨r1,_⟩:=h d a y b hp h1;obtain⟨g1,g2,g3⟩:=ht y d b x a' True.intro h2;refine⟨r1.trans g1,by have:=r1.le;omega,fun e _=>g3 e g2⟩
theorem Rg.both {en f1:Bool} {s:G α} {t:α→G β} (h:Rg l P en f1 s) (ht:∀x,Rg l Any en false (t x)):Rg l P en false (Gr.bind s t):=by
 intro d a x a' hp q;obtain⟨y,b,h1,h2⟩:=bind_ok q;obtain⟨r1,r2,_⟩:=h d a y b hp h1;obtain⟨g1,g2,_⟩:=ht y d b x a' True.intro h2;refine⟨r1.trans g1,fun e hlt=> ?_,(fun q=>by cases q)⟩;rcases Nat.eq_or_lt_of_le r1.le with k | k
 ·subst k;exact g2 e hlt
 ·exact En.left k (r2 e) (g2 e) g1.le hlt
theorem Rg.first {e1:Bool} {s:G α} {t:α→G β} (h:Rg l P e1 true s) (ht:∀x,Rg l Any false false (t x)):Rg l P false true (Gr.bind s t):=by
 intro d a x a' hp q;obtain⟨y,b,h1,h2⟩:=bind_ok q;obtain⟨r1,r2,r3⟩:=h d a y b hp h1;obtain⟨g1,g2,_⟩:=ht y d b x a' True.intro h2;have k:=r3 rfl;exact⟨r1.trans g1,(fun e=>by cases e),fun _=>⟨by have:=g1.le;have:=k.1;omega,k.2⟩⟩
theorem Rg.join {en fs e1 f1 e2 f2:Bool} {s:G α} (h:Rg l P en f1 s) (g:Rg l P e2 fs s):Rg l P en fs s:=fun d a x a' hp q=>⟨(h d a x a' hp q).1,(h d a x a' hp q).2.1,(g d a x a' hp q).2.2⟩
theorem Rg.mk {en:Bool} {s:G α} (h:Rn l P en s) (g:Rg l P false true s):Rg l P en true s:=fun d a x a' hp q=>⟨(h d a x a' hp q).1,(h d a x a' hp q).2.2,(g d a x a' hp q).2.2⟩
theorem Rg.adv {en fs:Bool} {s:Int→G β} (hp:∀a,P a→ntk l a) (ht:∀x,Rg l Any false fs (s x)):Rg l P false false (Gr.bind (Gr.adv l) s):=by
 intro d a x a' h q;obtain⟨y,b,h1,h2⟩:=bind_ok q;obtain⟨rfl,_⟩:=adv_ok h1;exact⟨(Rd.one (hp a h)).trans (ht _ d _ x a' True.intro h2).1,(fun e=>by cases e),(fun e=>by cases e)⟩
theorem Rn.adv {en:Bool} {s:Int→G β} (hp:∀a,P a→ntk l a) (ht:∀x,Rn l Any en (s x)):Rn l P en (Gr.bind (Gr.adv l) s):=by
 intro d a x a' h q;obtain⟨y,b,h1,h2⟩:=bind_ok q;obtain⟨rfl,_⟩:=adv_ok h1;obtain⟨g1,g2,g3⟩:=ht _ d _ x a' True.intro h2;exact⟨(Rd.one (hp a h)).trans g1,by omega,fun e _=>g3 e g2⟩
theorem Rn.advE {en:Bool} {s:Int→G β} (hp:∀a,P a→ntk l a∧(en=true→ends (tokAt l a)=true)) (ht:∀x,Rg l Any en false (s x)):Rn l P en (Gr.bind (Gr.adv l) s):=by
 intro d a x a' h q;obtain⟨y,b,h1,h2⟩:=bind_ok q;obtain⟨rfl,_⟩:=adv_ok h1;obtain⟨k1,k2⟩:=hp a h;obtain⟨g1,g2,_⟩:=ht _ d _ x a' True.intro h2;exact⟨(Rd.one k1).trans g1,by have:=g1.le;omega,fun e=>En.left (by omega) (fun _=>by rw[Nat.add_sub_cancel];exact⟨k1.1,k2 e⟩) (g2 e) g1.le⟩
theorem ntk_word {i:Nat} {s:ByteArray} (h:Pp.word (tokAt l i) s=true) (h1:s.data.toList≠ [33]):ntk l i:=by
 unfold Pp.word at h;rw[Bool.and_eq_true,Bool.or_eq_true,beq_iff_eq,beq_iff_eq,beq_iff_eq]at h;refine⟨by rcases h.1 with q | q <;> rw[q] <;> decide,?_⟩;unfold isBang;rw[h.2,Lib.toList_data,Bool.and_eq_false_iff];right;simpa using h1
theorem ntk_kind {i:Nat} {k:Int} (h:(tokAt l i).kind=k) (h4:k≠4) (h6:k≠6):ntk l i:=by
 refine⟨by rw[h];exact h6,?_⟩;unfold isBang;rw[h,Bool.and_eq_false_iff];left;simpa using h4
theorem ends_name {t:Tok} (h:t.kind=1):ends t=true:=by unfold ends;rw[h];rfl
theorem ends_op {t:Tok} {s:ByteArray} (h:Pp.word t s=true) (hk:t.kind=5→isIn keys t.text=true) (h1:s.data.toList= [41]∨s.data.toList= [125]):ends t=true:=by
 unfold Pp.word at h;rw[Bool.and_eq_true,Bool.or_eq_true,beq_iff_eq,beq_iff_eq,beq_iff_eq]at h;have e:t.text.toList= [41]∨t.text.toList= [125]:=by rw[h.2,Lib.toList_data];exact h1
 rcases h.1 with q | q
 ·unfold ends;have:isIn endO t.text=true:=by
   simp only[isIn,endO,eqB,List.any_cons,List.any_nil,Bool.or_false];rw[Lib.toList_data ⟨#[41]⟩,Lib.toList_data ⟨#[125]⟩];rcases e with e | e <;> rw[e] <;> decide
  rw[q,this];rfl
 ·exfalso
  have h1:=hk q;simp only[isIn,List.any_eq_true,eqB,beq_iff_eq]at h1;obtain⟨x,hx,he⟩:=h1;have h2:keys.all (fun x=> !(x.toList== [41])&& !(x.toList== [125]))=true:=by kernel_rfl
  have h3:=List.all_eq_true.1 h2 x hx;rw[←he]at h3;rcases e with e | e <;> rw[e]at h3 <;> simp at h3
theorem Rn.kind {k:Int} {en:Bool} {t:Int→G β} (h4:k≠4) (h6:k≠6) (ht:∀x,Rn l Any en (t x)):Rn l P en (Gr.bind (kindG l k) t):=by
 intro d a x a' h q;obtain⟨y,b,h1,h2⟩:=bind_ok q;obtain⟨rfl,hk⟩:=kind_ok h1;obtain⟨g1,g2,g3⟩:=ht _ d _ x a' True.intro h2;exact⟨(Rd.one (ntk_kind hk h4 h6)).trans g1,by omega,fun e _=>g3 e g2⟩
theorem Rn.name {t:Int→G β} (ht:∀x,Rg l Any true false (t x)):Rn l P true (Gr.bind (kindG l 1) t):=by
 intro d a x a' h q;obtain⟨y,b,h1,h2⟩:=bind_ok q;obtain⟨rfl,hk⟩:=kind_ok h1;obtain⟨g1,g2,_⟩:=ht _ d _ x a' True.intro h2;exact⟨(Rd.one (ntk_kind hk (by decide) (by decide))).trans g1,by have:=g1.le;omega,fun e=>En.left (by omega) (fun _=>by rw[Nat.add_sub_cancel,hk];exact⟨by decide,ends_name hk⟩) (g2 e) g1.le⟩
theorem Rn.want {s:ByteArray} {en:Bool} {t:Int→G β} (h1:s.data.toList≠ [33]) (ht:∀x,Rn l Any en (t x)):Rn l P en (Gr.bind (wantG l s) t):=by
 intro d a x a' h q;obtain⟨y,b,h3,h2⟩:=bind_ok q;obtain⟨rfl,hk⟩:=want_ok h3;obtain⟨g1,g2,g3⟩:=ht _ d _ x a' True.intro h2;exact⟨(Rd.one (ntk_word hk h1)).trans g1,by omega,fun e _=>g3 e g2⟩
theorem Rn.wantE {s:ByteArray} {t:Int→G β} (hK:KTs l) (h1:s.data.toList= [41]∨s.data.toList= [125]) (ht:∀x,Rg l Any true false (t x)):Rn l P true (Gr.bind (wantG l s) t):=by
 intro d a x a' h q;obtain⟨y,b,h3,h2⟩:=bind_ok q;obtain⟨rfl,hk⟩:=want_ok h3;obtain⟨g1,g2,_⟩:=ht _ d _ x a' True.intro h2;have n:=ntk_word hk (by rcases h1 with q | q <;> rw[q] <;> decide);exact⟨(Rd.one n).trans g1,by have:=g1.le;omega,fun e=>En.left (by omega) (fun _=>by rw[Nat.add_sub_cancel];exact⟨n.1,ends_op hk (hK a) h1⟩) (g2 e) g1.le⟩
theorem Rn.wantW {s:ByteArray} {t:Int→G β} (h1:s.data.toList≠ [33]) (ht:∀x,Rg l Any false false (t x)):Rn l P false (Gr.bind (wantG l s) t):=by
 intro d a x a' h q;obtain⟨y,b,h3,h2⟩:=bind_ok q;obtain⟨rfl,hk⟩:=want_ok h3;obtain⟨g1,g2,_⟩:=ht _ d _ x a' True.intro h2;exact⟨(Rd.one (ntk_word hk h1)).trans g1,by have:=g1.le;omega,(fun e=>by cases e)⟩
theorem Rg.isI {s:ByteArray} {en fs:Bool} {A B:G β} (h1:Rg l (PW l s) en fs A) (h2:Rg l P en fs B):Rg l P en fs (Gr.bind (isG l s) fun b=>Gr.ite b A B):=by
 intro d a x a' hp q;unfold Gr.bind isG at q;dsimp only[Res.andThen]at q;unfold Gr.ite at q;split at q
 ·rename_i hw;exact h1 d a x a' hw q
 ·exact h2 d a x a' hp q
theorem Rn.isI {s:ByteArray} {en:Bool} {A B:G β} (h1:Rn l (PW l s) en A) (h2:Rn l P en B):Rn l P en (Gr.bind (isG l s) fun b=>Gr.ite b A B):=by
 intro d a x a' hp q;unfold Gr.bind isG at q;dsimp only[Res.andThen]at q;unfold Gr.ite at q;split at q
 ·rename_i hw;exact h1 d a x a' hw q
 ·exact h2 d a x a' hp q
theorem Rg.look {k:Nat} {en fs:Bool} {t:Tok→G β} (ht:∀x,Rg l (PL l P k x) en fs (t x)):Rg l P en fs (Gr.bind (Gr.look l k) t):=fun d a x a' hp q=>ht _ d a x a' ⟨hp,rfl⟩ q
theorem Rn.look {k:Nat} {en:Bool} {t:Tok→G β} (ht:∀x,Rn l (PL l P k x) en (t x)):Rn l P en (Gr.bind (Gr.look l k) t):=fun d a x a' hp q=>ht _ d a x a' ⟨hp,rfl⟩ q
theorem Rn.here {en:Bool} {t:Int→G β} (ht:∀x,Rn l P en (t x)):Rn l P en (Gr.bind Gr.here t):=fun d a x a' hp q=>ht _ d a x a' hp q
theorem Rg.iteP {en fs c:Bool} {s t:G α} (h1:c=true→Rg l P en fs s) (h2:c=false→Rg l P en fs t):Rg l P en fs (Gr.ite c s t):=by
 cases c
 ·exact h2 rfl
 ·exact h1 rfl
theorem Rn.iteP {en c:Bool} {s t:G α} (h1:c=true→Rn l P en s) (h2:c=false→Rn l P en t):Rn l P en (Gr.ite c s t):=by
 cases c
 ·exact h2 rfl
 ·exact h1 rfl
theorem Rg.pure {en:Bool} {x:α}:Rg l P en false (Gr.pure x):=fun d a y a' hp q=>by
 unfold Gr.pure at q;cases q;exact⟨Rd.refl,fun e h=>by omega,(fun e=>by cases e)⟩
theorem Rg.fail {en fs:Bool}:Rg l P en fs (Gr.fail:G α):=fun d a y a' hp q=>by cases q
theorem Rg.stop {en fs:Bool}:Rg l P en fs (Gr.stop:G α):=fun d a y a' hp q=>by cases q
theorem Rn.fail {en:Bool}:Rn l P en (Gr.fail:G α):=fun d a y a' hp q=>by cases q
theorem Rn.stop {en:Bool}:Rn l P en (Gr.stop:G α):=fun d a y a' hp q=>by cases q
theorem Rn.nest {en:Bool} {s:G α} (h:Rn l P en s):Rn l P en (Gr.nest s):=fun d a y a' hp q=>by
 unfold Gr.nest at q;split at q
 ·cases q
 ·exact h (d + 1) a y a' hp q
theorem Rg.nest {en fs:Bool} {s:G α} (h:Rg l P en fs s):Rg l P en fs (Gr.nest s):=fun d a y a' hp q=>by
 unfold Gr.nest at q;split at q
 ·cases q
 ·exact h (d + 1) a y a' hp q
theorem semis_rd {w a0:Nat} (hw0:a0≤w) (he:endW l w):∀(n d a:Nat) (x:Unit) (a':Nat),semisG l n d a= .ok x a'→w < a→(∀k,w < k→k < a→(tokAt l k).kind=6)→Rd l a0 a→Rd l a0 a'
 | 0,d,a,x,a',h,_,_,_=>by cases h
 | n + 1,d,a,x,a',h,hw,hs,hr=>by
  unfold semisG at h;split at h
  ·rename_i hk;have hk':(tokAt l a).kind=6:=by simpa using hk
   have hs2:∀k,w < k→k < a + 1→(tokAt l k).kind=6:=fun k q1 q2=>by
    rcases Nat.lt_or_ge k a with q | q
    ·exact hs k q1 q
    ·have:k=a:=by omega
     subst this;exact hk'
   refine semis_rd hw0 he n d (a + 1) x a' h (by omega) hs2 ⟨by omega,fun i q1 q2=> ?_,fun i q1 q2 q3=> ?_⟩
   ·rcases Nat.lt_or_ge i a with q | q
    ·exact hr.sem i q1 q
    ·have:i=a:=by omega
     subst this;exact fun _=>⟨w,hw0,hw,hs,he⟩
   ·rcases Nat.lt_or_ge i a with q | q
    ·have:=hr.bang i q1 q q3;exact⟨by omega,this.2⟩
    ·have:i=a:=by omega
     subst this;unfold isBang at q3;rw[hk']at q3;simp at q3
  ·cases h;exact hr
theorem semi_rd {N:Nat} {a0 b d:Nat} {u:Int} {c:Nat} {z:Unit} {e:Nat} (hr:Rd l a0 b) (hlt:a0 < b) (he:(tokAt l (b - 1)).kind≠6∧ends (tokAt l (b - 1))=true) (h1:kindG l 6 d b= .ok u c) (h2:semisG l N d c= .ok z e):Rd l a0 e:=by
 obtain⟨rfl,hk⟩:=kind_ok h1;have hw:endW l (b - 1):=⟨he.1,.inl he.2⟩
 have hs:∀k,b - 1 < k→k < b + 1→(tokAt l k).kind=6:=fun k q1 q2=>by
  have:k=b:=by omega
  subst this;exact hk
 refine semis_rd (w:=b - 1) (by omega) hw N d (b + 1) z e h2 (by omega) hs ⟨by omega,fun i q1 q2=> ?_,fun i q1 q2 q3=> ?_⟩
 ·rcases Nat.lt_or_ge i b with q | q
  ·exact hr.sem i q1 q
  ·have:i=b:=by omega
   subst this;exact fun _=>⟨i - 1,by omega,by omega,fun k r1 r2=>by omega,hw⟩
 ·rcases Nat.lt_or_ge i b with q | q
  ·have:=hr.bang i q1 q q3;exact⟨by omega,this.2⟩
  ·have:i=b:=by omega
   subst this;unfold isBang at q3;rw[hk]at q3;simp at q3
end Gr
end Go.Proofs.Dm
set_option maxHeartbeats 4000000
namespace Go.Proofs.Dm
open Go Go.Proofs Go.Proofs.Dm.Sc
namespace Gr
variable {α β:Type} {l:List Tok} {P:Nat→Prop}
def KOs (l:List Tok):Prop:=∀i,(tokAt l i).kind=4→isIn ops (tokAt l i).text=true
theorem ends_key {t:Tok} {s:ByteArray} (h:Pp.word t s=true) (ho:t.kind=4→isIn ops t.text=true) (h1:s.data.toList= [114,101,116,117,114,110]∨s.data.toList= [98,114,101,97,107]∨s.data.toList= [99,111,110,116,105,110,117,101]):ends t=true:=by
 unfold Pp.word at h;rw[Bool.and_eq_true,Bool.or_eq_true,beq_iff_eq,beq_iff_eq,beq_iff_eq]at h;have e:t.text.toList= [114,101,116,117,114,110]∨t.text.toList= [98,114,101,97,107]∨t.text.toList= [99,111,110,116,105,110,117,101]:=by rw[h.2,Lib.toList_data];exact h1
 rcases h.1 with q | q
 ·exfalso
  have h1:=ho q;simp only[isIn,List.any_eq_true,eqB,beq_iff_eq]at h1;obtain⟨x,hx,he⟩:=h1;have h2:ops.all (fun x=>decide (x.toList.length≤2))=true:=by kernel_rfl
  have h3:=List.all_eq_true.1 h2 x hx;rw[←he]at h3;rcases e with e | e | e <;> rw[e]at h3 <;> simp at h3
 ·unfold ends;have:isIn endK t.text=true:=by
   simp only[isIn,endK,eqB,List.any_cons,List.any_nil,Bool.or_false];rw[Lib.toList_data ⟨#[114,101,116,117,114,110]⟩,Lib.toList_data ⟨#[98,114,101,97,107]⟩,Lib.toList_data ⟨#[99,111,110,116,105,110,117,101]⟩];rcases e with e | e | e <;> rw[e] <;> decide
  rw[q,this];rfl
theorem Rn.adv2 {en:Bool} {t:Int→Int→G β} (hp:∀a,P a→ntk l a∧ntk l (a + 1)) (ht:∀x y,Rn l Any en (t x y)):Rn l P en (Gr.bind (Gr.adv l) fun x=>Gr.bind (Gr.adv l) fun y=>t x y):=by
 intro d a x a' h q;obtain⟨y,b,h1,h2⟩:=bind_ok q;obtain⟨z,c,h3,h4⟩:=bind_ok h2;obtain⟨rfl,_⟩:=adv_ok h1;obtain⟨rfl,_⟩:=adv_ok h3;obtain⟨g1,g2,g3⟩:=ht _ _ d _ x a' True.intro h4;exact⟨((Rd.one (hp a h).1).trans (Rd.one (hp a h).2)).trans g1,by omega,fun e _=>g3 e g2⟩
theorem rg_typ:Rn l P true (typG l):=Rn.name fun _=>Rg.isI ((Rn.adv (fun a h=>ntk_word h (by decide)) fun _=>Rn.name fun _=>Rg.pure).g) Rg.pure
abbrev RX (l:List Tok) (s:G α):Prop:=Rg l Any true true s
theorem rg_variable {E:GN} (hE:RX l E):Rn l (PW l ⟨#[118,97,114]⟩) true (variableG l E):=Rn.adv (fun a h=>ntk_word h (by decide)) fun _=>Rn.kind (by decide) (by decide) fun _=>Rn.left rg_typ fun _=>Rg.isI ((Rn.adv (fun a h=>ntk_word h (by decide)) fun _=>Rn.left hE.n fun _=>Rg.pure).g) Rg.pure
theorem rg_constant {E:GN} (hE:RX l E):Rn l (PW l ⟨#[99,111,110,115,116]⟩) true (constantG l E):=Rn.adv (fun a h=>ntk_word h (by decide)) fun _=>Rn.kind (by decide) (by decide) fun _=>Rn.want (by decide) fun _=>Rn.left hE.n fun _=>Rg.pure
theorem curlyL_rd {S:GN} (hS:Rn l Any true S) {N:Nat}:∀(n:Nat) (ks:List Nd) (d a0 a:Nat) (x:List Nd) (a':Nat),curlyLG l S N n ks d a= .ok x a'→Rd l a0 a→Rd l a0 a'
 | 0,ks,d,a0,a,x,a',h,hr=>by cases h
 | n + 1,ks,d,a0,a,x,a',h,hr=>by
  unfold curlyLG at h;obtain⟨b0,c0,h0,h⟩:=bind_ok h;unfold isG at h0;cases h0;unfold Gr.ite at h;split at h
  ·unfold Gr.pure at h;cases h;exact hr
  ·obtain⟨y,b,h1,h⟩:=bind_ok h;obtain⟨r1,r2,r3⟩:=hS d a y b True.intro h1;have hb:=hr.trans r1;obtain⟨b0,c0,h0,h⟩:=bind_ok h;unfold isG at h0;cases h0;split at h
   ·exact curlyL_rd hS n _ d a0 b x a' h hb
   ·obtain⟨u,c,h2,h⟩:=bind_ok h;obtain⟨z,e,h3,h⟩:=bind_ok h;exact curlyL_rd hS n _ d a0 e x a' h (semi_rd hb (by have:=hr.le;omega) (r3 rfl r2) h2 h3)
theorem rg_curly (hK:KTs l) {S:GN} (hS:Rn l Any true S) {N:Nat}:Rn l Any true (curlyG l S N):=by
 intro d a x a' _ q;unfold curlyG at q;obtain⟨b0,c0,h0,q⟩:=bind_ok q;unfold isG at h0;cases h0;unfold Gr.ite at q;split at q
 rotate_left
 ·cases q
 rename_i hw;unfold Gr.nest at q;split at q
 ·cases q
 obtain⟨y,b,h1,h2⟩:=bind_ok q;obtain⟨rfl,_⟩:=adv_ok h1;obtain⟨z,c,h3,h4⟩:=bind_ok h2;obtain⟨ks,e,h5,h6⟩:=bind_ok h4;obtain⟨w,f,h7,h8⟩:=bind_ok h6;obtain⟨rfl,hw2⟩:=want_ok h7;unfold Gr.pure at h8;cases h8;have o1:=brace_word (hK a) (.inl rfl) hw;have n1:=ntk_word hw (by decide);have r1:=semis_rd (w:=a) (a0:=a) (Nat.le_refl _) ⟨n1.1,.inr o1⟩ N (d + 1) (a + 1) z c h3 (by omega) (fun k q1 q2=>by omega) (Rd.one n1);have r2:=curlyL_rd hS N [] (d + 1) a c ks e h5 r1;have n2:=ntk_word hw2 (by decide);exact⟨r2.trans (Rd.one n2),by have:=r2.le;omega,fun _ _=>by rw[Nat.add_sub_cancel];exact⟨n2.1,ends_op hw2 (hK e) (.inr rfl)⟩⟩
theorem rg_block (hK:KTs l) {S:GN} (hS:Rn l Any true S) {N:Nat}:Rn l Any true (blockG l S N):=Rn.left (rg_curly hK hS) fun _=>Rg.pure
theorem rg_field:Rn l Any true (fieldG l):=Rn.kind (by decide) (by decide) fun _=>Rn.left rg_typ fun _=>Rg.pure
theorem rg_structure (hK:KTs l) {N:Nat}:Rn l (PW l ⟨#[116,121,112,101]⟩) true (structureG l N):=Rn.adv (fun a h=>ntk_word h (by decide)) fun _=>Rn.kind (by decide) (by decide) fun _=>Rn.want (by decide) fun _=>Rn.left (rg_curly hK rg_field) fun _=>Rg.pure
theorem rg_funcL:∀(n:Nat) (ks:List Nd),Rg l Any false false (funcLG l n ks)
 | 0,ks=>Rg.stop
 | n + 1,ks=>Rg.isI Rg.pure ((Rn.kind (by decide) (by decide) fun _=>Rn.left rg_typ.weak fun _=>Rg.isI (Rg.use (rg_funcL n _)) ((Rn.wantW (by decide) fun _=>Rg.isI Rg.fail (rg_funcL n _)).g)).g)
theorem rg_function {C:GN} (hC:Rn l Any true C) {N:Nat}:Rn l (PW l ⟨#[102,117,110,99]⟩) true (functionG l C N):=Rn.adv (fun a h=>ntk_word h (by decide)) fun _=>Rn.kind (by decide) (by decide) fun _=>Rn.want (by decide) fun _=>Rn.right (rg_funcL N []) fun _=>Rn.want (by decide) fun _=>
 Rn.look fun _=>Rn.iteP (fun _=>Rn.right rg_typ.g fun _=>Rn.left hC fun _=>Rg.pure) (fun _=>Rn.left (Rn.use hC) fun _=>Rg.pure)
theorem PL.name {k:Int} {t:Tok} {a:Nat} (h4:k≠4) (h6:k≠6) (hc:(t.kind==k)=true) (h:PL l P 0 t a):ntk l a:=by
 have e:tokAt l a=t:=h.2;rw[beq_iff_eq]at hc;exact ntk_kind (by rw[e,hc]) h4 h6
theorem PL.ends {k:Int} {t:Tok} {a:Nat} (hk:k=1∨k=2∨k=3) (hc:(t.kind==k)=true) (h:PL l P 0 t a):Sc.ends (tokAt l a)=true:=by
 have e:tokAt l a=t:=h.2;rw[beq_iff_eq]at hc;unfold Sc.ends;rw[e,hc];rcases hk with rfl | rfl | rfl <;> rfl
theorem rg_leave (hO:KOs l) {w:ByteArray} (h1:w.data.toList= [98,114,101,97,107]∨w.data.toList= [99,111,110,116,105,110,117,101]) (k:Int):Rn l (PW l w) true (leaveG l k):=
 Rn.advE (fun a h=>⟨ntk_word h (by rcases h1 with q | q <;> rw[q] <;> decide),fun _=>ends_key h (hO a) (.inr h1)⟩) fun _=>Rg.look fun _=>Rg.iteP
  (fun hc=>(Rn.advE (fun a h=>⟨PL.name (by decide) (by decide) hc h,fun _=>PL.ends (.inl rfl) hc h⟩) fun _=>Rg.pure).g) (fun _=>Rg.pure)
theorem rg_branch {E C R:GN} (hE:RX l E) (hC:Rn l Any true C) (hR:Rn l (PW l ⟨#[105,102]⟩) true R):Rn l (PW l ⟨#[105,102]⟩) true (branchG l E C R):=Rn.adv (fun a h=>ntk_word h (by decide)) fun _=>Rn.right hE fun _=>Rn.left hC fun _=>
 Rg.isI ((Rn.adv (fun a h=>ntk_word h (by decide)) fun _=>Rn.isI (Rn.left (Rn.nest hR) fun _=>Rg.pure) (Rn.left hC fun _=>Rg.pure)).g) Rg.pure
theorem rg_loop {E C:GN} (hE:RX l E) (hC:Rn l Any true C):Rn l (PW l ⟨#[102,111,114]⟩) true (loopG l E C):=Rn.adv (fun a h=>ntk_word h (by decide)) fun _=>Rn.right hE fun _=>Rn.left hC fun _=>Rg.pure
theorem rg_back (hO:KOs l) {E:GN} (hE:RX l E):Rn l (PW l ⟨#[114,101,116,117,114,110]⟩) true (backG l E):=Rn.advE (fun a h=>⟨ntk_word h (by decide),fun _=>ends_key h (hO a) (.inl rfl)⟩) fun _=>Rg.look fun _=>Rg.iteP (fun _=>Rg.pure) (fun _=>Rg.isI Rg.pure ((Rn.left (Rn.use hE.n) fun _=>Rg.pure).g))
theorem rg_rest {E:GN} (hE:RX l E):Rn l P true (restG l E):=Rn.here fun _=>Rn.left (Rn.use hE.n) fun _=>Rg.isI ((Rn.adv (fun a h=>ntk_word h (by decide)) fun _=>Rn.left hE.n fun _=>Rg.pure).g) Rg.pure
theorem rg_simple {E L:GN} (hE:RX l E) (hL:Rn l (PW l ⟨#[102,111,114]⟩) true L):Rn l P true (simpleG l E L):=Rn.look fun t=>Rn.iteP (fun hc=>Rn.look fun n=>Rn.iteP
  (fun hw=>Rn.adv2 (fun a h=>⟨PL.name (by decide) (by decide) hc h.1,ntk_word (by rw[h.2];exact hw) (by decide)⟩) fun _ _=>Rn.left hE.n fun _=>Rg.pure)
  (fun _=>Rn.iteP (fun hw=>Rn.adv2 (fun a h=>⟨PL.name (by decide) (by decide) hc h.1,ntk_word (by rw[h.2];exact hw) (by decide)⟩) fun _ _=>Rn.isI (Rn.left hL fun _=>Rg.pure) Rn.fail) (fun _=>rg_rest hE)))
 (fun _=>rg_rest hE)
theorem rg_stmt (hO:KOs l) {V C K I L R M:GN} (hV:Rn l (PW l ⟨#[118,97,114]⟩) true V) (hC:Rn l (PW l ⟨#[99,111,110,115,116]⟩) true C) (hK:Rn l Any true K) (hI:Rn l (PW l ⟨#[105,102]⟩) true I) (hL:Rn l (PW l ⟨#[102,111,114]⟩) true L) (hR:Rn l (PW l ⟨#[114,101,116,117,114,110]⟩) true R) (hM:Rn l Any true M):Rn l Any true (stmtG l V C K I L R M):=
 Rn.isI hV (Rn.isI hC (Rn.isI (Rn.use hK) (Rn.isI hI (Rn.isI hL (Rn.isI hR (Rn.isI (rg_leave hO (.inl rfl) 17) (Rn.isI (rg_leave hO (.inr rfl) 18) hM)))))))
theorem rg_decl {V C S F:GN} (hV:Rn l (PW l ⟨#[118,97,114]⟩) true V) (hC:Rn l (PW l ⟨#[99,111,110,115,116]⟩) true C) (hS:Rn l (PW l ⟨#[116,121,112,101]⟩) true S) (hF:Rn l (PW l ⟨#[102,117,110,99]⟩) true F):Rn l Any true (declG l V C S F):=
 Rn.isI hV (Rn.isI hC (Rn.isI hS (Rn.isI hF Rn.fail)))
theorem rank_bang {s:ByteArray} (h:s.toList= [33]):Pp.rank s=0:=by
 unfold Pp.rank;rw[h];rfl
theorem rg_binaryL {Y:Int→GN} (hY:∀r,RX l (Y r)):∀(n:Nat) (rk:Int) (x:Nd),Rg l Any true false (binaryLG l Y n rk x)
 | 0,rk,x=>Rg.stop
 | n + 1,rk,x=>Rg.look fun t=>Rg.iteP (fun _=>Rg.pure) fun h4=>Rg.iteP (fun _=>Rg.pure) fun _=>Rg.iteP (fun _=>Rg.pure) fun hr=>(Rn.adv (fun a h=>by
   have e:tokAt l a=t:=h.2;have hr':Pp.rank t.text≠0:=by simpa using hr
   have h4':t.kind=4:=by simpa using h4
   refine⟨by rw[e,h4'];decide,?_⟩;unfold isBang;rw[e,Bool.and_eq_false_iff];right;rw[beq_eq_false_iff_ne];exact fun q=>hr' (rank_bang q))
  fun _=>Rn.left (hY _).n fun _=>rg_binaryL hY n rk _).g
theorem rg_binary {U:GN} {Y:Int→GN} (hU:RX l U) (hY:∀r,RX l (Y r)) {N:Nat} (rk:Int):RX l (binaryG l U Y N rk):=Rg.mk (Rn.left hU.n fun x=>rg_binaryL hY N rk x) (Rg.first hU fun x=>(rg_binaryL hY N rk x).weak)
theorem Rg.bang {U:G α} {t:Int→α→G β} (hp:∀a,P a→(tokAt l a).kind≠6∧noEq (tokAt l a)=true) (hU:RX l U) (ht:∀o x,Rg l Any true false (t o x)):Rg l P true true (Gr.bind (Gr.adv l) fun o=>Gr.bind U fun x=>t o x):=by
 intro d a x a' h q;obtain⟨y,b,h1,h2⟩:=bind_ok q;obtain⟨z,c,h3,h4⟩:=bind_ok h2;obtain⟨rfl,_⟩:=adv_ok h1;obtain⟨k1,k2⟩:=hp a h;obtain⟨r1,r2,r3⟩:=hU d _ z c True.intro h3;obtain⟨g1,g2,_⟩:=ht _ _ d c x a' True.intro h4;obtain⟨f1,f2⟩:=r3 rfl
 have hone : Rd l a c := ⟨by omega, fun i q1 q2 q => by
     rcases Nat.eq_or_lt_of_le q1 with e | e
     · subst e;exact absurd q k1
     · exact(r1.sem i e q2).mono (by omega) q,
   fun i q1 q2 q3=>by
     rcases Nat.eq_or_lt_of_le q1 with e | e
     · subst e;exact⟨by omega,f2⟩
     · exact r1.bang i e q2 q3⟩
 exact⟨hone.trans g1,fun e=>En.left (by omega) (fun _=>r2 rfl f1) (g2 e) g1.le,fun _=>⟨by have:=g1.le;omega,k2⟩⟩
theorem rg_unary {U F:GN} (hU:RX l U) (hF:RX l F):RX l (unaryG l U F):=Rg.look fun t=>Rg.iteP (fun _=>Rg.use hF) fun h4=>Rg.iteP (fun hu=>Rg.nest (Rg.bang (fun a h=>by
  have e:tokAt l a=t:=h.2;have h4':t.kind=4:=by simpa using h4
  unfold Pp.unaryS at hu;rw[Bool.or_eq_true,beq_iff_eq,beq_iff_eq]at hu;refine⟨by rw[e,h4'];decide,?_⟩;unfold noEq;rw[e];rcases hu with q | q <;> rw[q] <;> simp) hU fun _ _=>Rg.pure)) fun _=>Rg.use hF
theorem noEq_kind {t:Tok} {k:Int} (h:(t.kind==k)=true) (h4:k≠4):noEq t=true:=by
 rw[beq_iff_eq]at h;unfold noEq;have:(t.kind==4)=false:=by rw[h];simpa using h4
 rw[this];rfl
theorem rg_tok {k:Int} {t:Tok} {s:Int→G β} (hk:k=1∨k=2∨k=3) (hc:(t.kind==k)=true) (ht:∀x,Rg l Any true false (s x)):Rg l (PL l P 0 t) true true (Gr.bind (Gr.adv l) s):=by
 have h4:k≠4:=by omega
 have h6:k≠6:=by omega
 have h:=Rn.advE (l:=l) (P:=PL l P 0 t) (en:=true) (fun a h=>⟨PL.name h4 h6 hc h,fun _=>PL.ends hk hc h⟩) ht;intro d a x a' hp q;obtain⟨g1,g2,g3⟩:=h d a x a' hp q;exact⟨g1,g3,fun _=>⟨g2,by have e:tokAt l a=t:=hp.2;rw[e];exact noEq_kind hc h4⟩⟩
theorem noEq_word {t:Tok} {s:ByteArray} (h:Pp.word t s=true) (h1:s.data.toList.head? ≠some 61):noEq t=true:=by
 unfold Pp.word at h;rw[Bool.and_eq_true,beq_iff_eq]at h;unfold noEq;rw[h.2,Lib.toList_data];have:(s.data.toList.head? ==some 61)=false:=by simpa using h1
 rw[this,Bool.and_false];rfl
theorem rg_first (hK:KTs l) {E:GN} (hE:RX l E):RX l (firstG l E):=Rg.look fun t=>Rg.iteP (fun hc=>rg_tok (.inl rfl) hc fun _=>Rg.pure) fun _=>Rg.iteP (fun hc=>rg_tok (.inr (.inl rfl)) hc fun _=>Rg.pure) fun _=>
 Rg.iteP (fun hc=>rg_tok (.inr (.inr rfl)) hc fun _=>Rg.pure) fun _=>Rg.isI (Rg.nest (by
  have h:Rn l (PW l ⟨#[40]⟩) true (Gr.bind (Gr.adv l) fun o=>Gr.bind E fun x=>Gr.bind (wantG l ⟨#[41]⟩) fun _=>Gr.pure (.mk 25 o [x]:Nd)):=Rn.adv (fun a h=>ntk_word h (by decide)) fun _=>Rn.right hE fun _=>Rn.wantE hK (.inl rfl) fun _=>Rg.pure
  intro d a x a' hp q;obtain⟨g1,g2,g3⟩:=h d a x a' hp q;exact⟨g1,g3,fun _=>⟨g2,noEq_word hp (by decide)⟩⟩)) Rg.fail
theorem rg_primL {K:Nd→GN} (hK:∀x,Rn l (PW l ⟨#[40]⟩) true (K x)):∀(n:Nat) (x:Nd),Rg l Any true false (primLG l K n x)
 | 0,x=>Rg.stop
 | n + 1,x=>Rg.isI ((Rn.left (hK x) fun y=>rg_primL hK n y).g) (Rg.isI ((Rn.adv (fun a h=>ntk_word h (by decide)) fun _=>Rn.name fun _=>rg_primL hK n _).g) Rg.pure)
theorem rg_callL {E:GN} (hE:RX l E):∀(n:Nat) (ks:List Nd),Rg l Any false false (callLG l E n ks)
 | 0,ks=>Rg.stop
 | n + 1,ks=>Rg.isI Rg.pure ((Rn.left hE.n.weak fun _=>Rg.isI (Rg.use (rg_callL hE n _)) ((Rn.wantW (by decide) fun _=>Rg.isI Rg.fail (rg_callL hE n _)).g)).g)
theorem rg_call (hK:KTs l) {E:GN} (hE:RX l E) {N:Nat} (x:Nd):Rn l (PW l ⟨#[40]⟩) true (callG l E N x):=Rn.nest (Rn.adv (fun a h=>ntk_word h (by decide)) fun _=>Rn.right (rg_callL hE N [x]) fun _=>Rn.wantE hK (.inl rfl) fun _=>Rg.pure)
theorem rg_prim (hK:KTs l) {E:GN} (hE:RX l E) {N:Nat}:RX l (primG l (firstG l E) (callG l E N) N):=Rg.mk (Rn.left (rg_first hK hE).n fun x=>rg_primL (fun y=>rg_call hK hE y) N x) (Rg.first (rg_first hK hE) fun x=>(rg_primL (fun y=>rg_call hK hE y) N x).weak)
theorem fileI_rd {N:Nat}:∀(n:Nat) (ks:List Nd) (d a0 a:Nat) (x:List Nd) (a':Nat),fileIG l N n ks d a= .ok x a'→Rd l a0 a→Rd l a0 a'
 | 0,ks,d,a0,a,x,a',h,hr=>by cases h
 | n + 1,ks,d,a0,a,x,a',h,hr=>by
  unfold fileIG at h;obtain⟨b0,c0,h0,h⟩:=bind_ok h;unfold isG at h0;cases h0;unfold Gr.ite at h;split at h
  ·rename_i hw;obtain⟨y,b,h1,h⟩:=bind_ok h;obtain⟨rfl,_⟩:=adv_ok h1;obtain⟨t,c,h2,h⟩:=bind_ok h;obtain⟨rfl,hk⟩:=kind_ok h2;obtain⟨u,e,h3,h⟩:=bind_ok h;obtain⟨z,f,h4,h⟩:=bind_ok h;have r1:=(hr.trans (Rd.one (ntk_word hw (by decide)))).trans (Rd.one (ntk_kind hk (by decide) (by decide)));refine fileI_rd n _ d a0 f x a' h (semi_rd r1 (by have:=hr.le;omega) ?_ h3 h4);rw[Nat.add_sub_cancel];exact⟨by rw[hk];decide,ends_name hk⟩
  ·unfold Gr.pure at h;cases h;exact hr
theorem fileD_rd {D:GN} (hD:Rn l Any true D) {N:Nat}:∀(n:Nat) (ks:List Nd) (d a0 a:Nat) (x:List Nd) (a':Nat),fileDG l D N n ks d a= .ok x a'→Rd l a0 a→Rd l a0 a'
 | 0,ks,d,a0,a,x,a',h,hr=>by cases h
 | n + 1,ks,d,a0,a,x,a',h,hr=>by
  unfold fileDG at h;obtain⟨t,b,h1,h⟩:=bind_ok h;unfold Gr.look at h1;cases h1;unfold Gr.ite at h;split at h
  ·obtain⟨y,b,h1,h⟩:=bind_ok h;obtain⟨r1,r2,r3⟩:=hD d a y b True.intro h1;obtain⟨u,c,h2,h⟩:=bind_ok h;obtain⟨z,e,h3,h⟩:=bind_ok h;exact fileD_rd hD n _ d a0 e x a' h (semi_rd (hr.trans r1) (by have:=hr.le;omega) (r3 rfl r2) h2 h3)
  ·unfold Gr.pure at h;cases h;exact hr
theorem file_rd {D:GN} (hD:Rn l Any true D) {N:Nat} {d:Nat} {x:Nd} {a':Nat} (h:fileG l D N d 0= .ok x a'):Rd l 0 a':=by
 unfold fileG at h;obtain⟨_,b,h1,h⟩:=bind_ok h;obtain⟨rfl,hw⟩:=want_ok h1;obtain⟨t,c,h2,h⟩:=bind_ok h;obtain⟨rfl,hk⟩:=kind_ok h2;obtain⟨u,e,h3,h⟩:=bind_ok h;obtain⟨z,f,h4,h⟩:=bind_ok h;have r1:=(Rd.one (ntk_word hw (by decide))).trans (Rd.one (ntk_kind hk (by decide) (by decide)));have r2:=semi_rd r1 (by omega) (by rw[Nat.add_sub_cancel];exact⟨by rw[hk];decide,ends_name hk⟩) h3 h4;obtain⟨ks,g,h5,h⟩:=bind_ok h;obtain⟨ks2,k,h6,h⟩:=bind_ok h;unfold Gr.pure at h;cases h;exact fileD_rd hD N _ d 0 g _ _ h6 (fileI_rd N _ d 0 f _ _ h5 r2)
structure RgF (l:List Tok) (F:SF):Prop where
 binary:∀r,RX l (F.binary r)
 unary:RX l F.unary
 block:Rn l Any true F.block
 branch:Rn l (PW l ⟨#[105,102]⟩) true F.branch
 stmt:Rn l Any true F.stmt
theorem sf_rg (hK:KTs l) (hO:KOs l) {N:Nat}:∀n,RgF l (sf l N n)
 | 0=>⟨fun _=>Rg.stop,Rg.stop,Rn.stop,Rn.stop,Rn.stop⟩
 | n + 1=>by
  have h:=sf_rg hK hO (N:=N) n;exact⟨fun r=>rg_binary h.unary h.binary r,rg_unary h.unary (rg_prim hK (h.binary 1)),rg_block hK h.stmt,rg_branch (h.binary 1) h.block h.branch,
   rg_stmt hO (rg_variable (h.binary 1)) (rg_constant (h.binary 1)) h.block h.branch (rg_loop (h.binary 1) h.block) (rg_back hO (h.binary 1)) (rg_simple (h.binary 1) (rg_loop (h.binary 1) h.block))⟩
theorem fileS_rd (hK:KTs l) (hO:KOs l) {N n:Nat} {d:Nat} {x:Nd} {a':Nat} (h:fileS l N (sf l N n) d 0= .ok x a'):Rd l 0 a':=by
 have q:=sf_rg hK hO (N:=N) n;exact file_rd (rg_decl (rg_variable (q.binary 1)) (rg_constant (q.binary 1)) (rg_structure hK) (rg_function q.block)) h
end Gr
end Go.Proofs.Dm
set_option maxHeartbeats 4000000
namespace Go.Proofs.Dm
open Go Go.Proofs Go.Proofs.Dm.Sc
namespace Gr
variable {α β:Type} {l:List Tok} {P:Nat→Prop}
theorem LeP.look {k:Nat} {t t':Tok→G β} (ht:∀x,LeP P (t x) (t' x)):LeP P (Gr.bind (Gr.look l k) t) (Gr.bind (Gr.look l k) t'):=fun d a h=>ht _ d a h
theorem LeP.ifI {w:ByteArray} {s s' t t':G α} (h1:LeP Al s s') (h2:LeP Al t t'):LeP P (Gr.bind (isG l w) fun c=>Gr.ite c s t) (Gr.bind (isG l w) fun c=>Gr.ite c s' t'):=LeP.is (LeP.all h1) (LeP.all h2)
theorem LeP.out {t:G α}:LeP P Gr.stop t:=fun _ _ _=> .inl rfl
theorem semis_le2 {N M:Nat} (h:N≤M):LeP P (semisG l N) (semisG l M):=by
 intro d a hp;clear hp
 induction N generalizing M a with
 | zero=>exact .inl rfl
 | succ n ih=>
  obtain⟨m,rfl⟩:∃m,M=m + 1:=⟨M - 1,by omega⟩
  unfold semisG;split
  ·exact ih (M:=m) (by omega) (a + 1)
  ·exact .inr rfl
theorem fu_typ:LeP P (typG l) (typG l):=LeP.rfl'
theorem fu_variable {E E':GN} (hE:LeP Al E E'):LeP P (variableG l E) (variableG l E'):=LeP.to fun _=>LeP.to fun _=>LeP.to fun _=>LeP.ifI (LeP.to fun _=>LeP.bind hE fun _=>LeP.rfl') LeP.rfl'
theorem fu_constant {E E':GN} (hE:LeP Al E E'):LeP P (constantG l E) (constantG l E'):=LeP.to fun _=>LeP.to fun _=>LeP.to fun _=>LeP.bind hE fun _=>LeP.rfl'
theorem fu_curlyL {S S':GN} (hS:LeP Al S S') {N M:Nat} (hN:N≤M):∀(n m:Nat) (ks:List Nd),n≤m→LeP Al (curlyLG l S N n ks) (curlyLG l S' M m ks)
 | 0,m,ks,h=>LeP.out
 | n + 1,m + 1,ks,h=>LeP.ifI LeP.rfl' (LeP.bind hS fun _=>LeP.ifI (fu_curlyL hS hN n m _ (by omega)) (LeP.to fun _=>LeP.bind (semis_le2 hN) fun _=>fu_curlyL hS hN n m _ (by omega)))
 | n + 1,0,ks,h=>by omega
theorem fu_curly {S S':GN} (hS:LeP Al S S') {N M:Nat} (hN:N≤M):LeP P (curlyG l S N) (curlyG l S' M):=LeP.ifI (LeP.nest (LeP.to fun _=>LeP.bind (semis_le2 hN) fun _=>LeP.bind (fu_curlyL hS hN N M [] hN) fun _=>LeP.rfl')) LeP.rfl'
theorem fu_block {S S':GN} (hS:LeP Al S S') {N M:Nat} (hN:N≤M):LeP P (blockG l S N) (blockG l S' M):=LeP.bind (fu_curly hS hN) fun _=>LeP.rfl'
theorem fu_structure {N M:Nat} (hN:N≤M):LeP P (structureG l N) (structureG l M):=LeP.to fun _=>LeP.to fun _=>LeP.to fun _=>LeP.bind (fu_curly LeP.rfl' hN) fun _=>LeP.rfl'
theorem fu_funcL:∀(n m:Nat) (ks:List Nd),n≤m→LeP Al (funcLG l n ks) (funcLG l m ks)
 | 0,m,ks,h=>LeP.out
 | n + 1,m + 1,ks,h=>LeP.ifI LeP.rfl' (LeP.to fun _=>LeP.to fun _=>LeP.ifI (fu_funcL n m _ (by omega)) (LeP.to fun _=>LeP.ifI LeP.rfl' (fu_funcL n m _ (by omega))))
 | n + 1,0,ks,h=>by omega
theorem fu_function {C C':GN} (hC:LeP Al C C') {N M:Nat} (hN:N≤M):LeP P (functionG l C N) (functionG l C' M):=LeP.to fun _=>LeP.to fun _=>LeP.to fun _=>LeP.bind (fu_funcL N M [] hN) fun _=>LeP.to fun _=>LeP.look fun _=>LeP.ite (LeP.to fun _=>LeP.bind hC fun _=>LeP.rfl') (LeP.bind hC fun _=>LeP.rfl')
theorem fu_branch {E E' C C' R R':GN} (hE:LeP Al E E') (hC:LeP Al C C') (hR:LeP Al R R'):LeP P (branchG l E C R) (branchG l E' C' R'):=LeP.to fun _=>LeP.bind hE fun _=>LeP.bind hC fun _=>LeP.ifI (LeP.to fun _=>LeP.ifI (LeP.bind (LeP.nest hR) fun _=>LeP.rfl') (LeP.bind hC fun _=>LeP.rfl')) LeP.rfl'
theorem fu_loop {E E' C C':GN} (hE:LeP Al E E') (hC:LeP Al C C'):LeP P (loopG l E C) (loopG l E' C'):=LeP.to fun _=>LeP.bind hE fun _=>LeP.bind hC fun _=>LeP.rfl'
theorem fu_back {E E':GN} (hE:LeP Al E E'):LeP P (backG l E) (backG l E'):=LeP.to fun _=>LeP.look fun _=>LeP.ite LeP.rfl' (LeP.ifI LeP.rfl' (LeP.bind hE fun _=>LeP.rfl'))
theorem fu_rest {E E':GN} (hE:LeP Al E E'):LeP P (restG l E) (restG l E'):=LeP.to fun _=>LeP.bind hE fun _=>LeP.ifI (LeP.to fun _=>LeP.bind hE fun _=>LeP.rfl') LeP.rfl'
theorem fu_simple {E E' L L':GN} (hE:LeP Al E E') (hL:LeP Al L L'):LeP P (simpleG l E L) (simpleG l E' L'):=LeP.look fun _=>LeP.ite (LeP.look fun _=>LeP.ite (LeP.to fun _=>LeP.to fun _=>LeP.bind hE fun _=>LeP.rfl')
 (LeP.ite (LeP.to fun _=>LeP.to fun _=>LeP.ifI (LeP.bind hL fun _=>LeP.rfl') LeP.rfl') (fu_rest hE))) (fu_rest hE)
theorem fu_stmt {V V' C C' K K' I I' L L' R R' M M':GN} (hV:LeP Al V V') (hC:LeP Al C C') (hK:LeP Al K K') (hI:LeP Al I I') (hL:LeP Al L L') (hR:LeP Al R R') (hM:LeP Al M M'):LeP P (stmtG l V C K I L R M) (stmtG l V' C' K' I' L' R' M'):=
 LeP.ifI hV (LeP.ifI hC (LeP.ifI hK (LeP.ifI hI (LeP.ifI hL (LeP.ifI hR (LeP.ifI LeP.rfl' (LeP.ifI LeP.rfl' hM)))))))
theorem fu_decl {V V' C C' S S' F F':GN} (hV:LeP Al V V') (hC:LeP Al C C') (hS:LeP Al S S') (hF:LeP Al F F'):LeP P (declG l V C S F) (declG l V' C' S' F'):=LeP.ifI hV (LeP.ifI hC (LeP.ifI hS (LeP.ifI hF LeP.rfl')))
theorem fu_binaryL {Y Y':Int→GN} (hY:∀r,LeP Al (Y r) (Y' r)):∀(n m:Nat) (rk:Int) (x:Nd),n≤m→LeP Al (binaryLG l Y n rk x) (binaryLG l Y' m rk x)
 | 0,m,rk,x,h=>LeP.out
 | n + 1,m + 1,rk,x,h=>LeP.look fun _=>LeP.ite LeP.rfl' (LeP.ite LeP.rfl' (LeP.ite LeP.rfl' (LeP.to fun _=>LeP.bind (hY _) fun _=>fu_binaryL hY n m rk _ (by omega))))
 | n + 1,0,rk,x,h=>by omega
theorem fu_binary {U U':GN} {Y Y':Int→GN} (hU:LeP Al U U') (hY:∀r,LeP Al (Y r) (Y' r)) {N M:Nat} (hN:N≤M) (rk:Int):LeP P (binaryG l U Y N rk) (binaryG l U' Y' M rk):=LeP.bind (LeP.all hU) fun _=>fu_binaryL hY N M rk _ hN
theorem fu_unary {U U' F F':GN} (hU:LeP Al U U') (hF:LeP Al F F'):LeP P (unaryG l U F) (unaryG l U' F'):=LeP.look fun _=>LeP.ite (LeP.all hF) (LeP.ite (LeP.nest (LeP.to fun _=>LeP.bind hU fun _=>LeP.rfl')) (LeP.all hF))
theorem fu_first {E E':GN} (hE:LeP Al E E'):LeP P (firstG l E) (firstG l E'):=LeP.look fun _=>LeP.ite LeP.rfl' (LeP.ite LeP.rfl' (LeP.ite LeP.rfl' (LeP.ifI (LeP.nest (LeP.to fun _=>LeP.bind hE fun _=>LeP.rfl')) LeP.rfl')))
theorem fu_primL {K K':Nd→GN} (hK:∀x,LeP Al (K x) (K' x)):∀(n m:Nat) (x:Nd),n≤m→LeP Al (primLG l K n x) (primLG l K' m x)
 | 0,m,x,h=>LeP.out
 | n + 1,m + 1,x,h=>LeP.ifI (LeP.bind (hK x) fun _=>fu_primL hK n m _ (by omega)) (LeP.ifI (LeP.to fun _=>LeP.to fun _=>fu_primL hK n m _ (by omega)) LeP.rfl')
 | n + 1,0,x,h=>by omega
theorem fu_callL {E E':GN} (hE:LeP Al E E'):∀(n m:Nat) (ks:List Nd),n≤m→LeP Al (callLG l E n ks) (callLG l E' m ks)
 | 0,m,ks,h=>LeP.out
 | n + 1,m + 1,ks,h=>LeP.ifI LeP.rfl' (LeP.bind hE fun _=>LeP.ifI (fu_callL hE n m _ (by omega)) (LeP.to fun _=>LeP.ifI LeP.rfl' (fu_callL hE n m _ (by omega))))
 | n + 1,0,ks,h=>by omega
theorem fu_call {E E':GN} (hE:LeP Al E E') {N M:Nat} (hN:N≤M) (x:Nd):LeP P (callG l E N x) (callG l E' M x):=LeP.nest (LeP.to fun _=>LeP.bind (fu_callL hE N M [x] hN) fun _=>LeP.rfl')
theorem fu_prim {E E':GN} (hE:LeP Al E E') {N M:Nat} (hN:N≤M):LeP P (primG l (firstG l E) (callG l E N) N) (primG l (firstG l E') (callG l E' M) M):=LeP.bind (fu_first hE) fun x=>fu_primL (fun y=>fu_call hE hN y) N M x hN
theorem fu_fileI {N M:Nat} (hN:N≤M):∀(n m:Nat) (ks:List Nd),n≤m→LeP Al (fileIG l N n ks) (fileIG l M m ks)
 | 0,m,ks,h=>LeP.out
 | n + 1,m + 1,ks,h=>LeP.ifI (LeP.to fun _=>LeP.to fun _=>LeP.to fun _=>LeP.bind (semis_le2 hN) fun _=>fu_fileI hN n m _ (by omega)) LeP.rfl'
 | n + 1,0,ks,h=>by omega
theorem fu_fileD {D D':GN} (hD:LeP Al D D') {N M:Nat} (hN:N≤M):∀(n m:Nat) (ks:List Nd),n≤m→LeP Al (fileDG l D N n ks) (fileDG l D' M m ks)
 | 0,m,ks,h=>LeP.out
 | n + 1,m + 1,ks,h=>LeP.look fun _=>LeP.ite (LeP.bind hD fun _=>LeP.to fun _=>LeP.bind (semis_le2 hN) fun _=>fu_fileD hD hN n m _ (by omega)) LeP.rfl'
 | n + 1,0,ks,h=>by omega
theorem fu_file {D D':GN} (hD:LeP Al D D') {N M:Nat} (hN:N≤M):LeP P (fileG l D N) (fileG l D' M):=LeP.to fun _=>LeP.to fun _=>LeP.to fun _=>LeP.bind (semis_le2 hN) fun _=>LeP.bind (fu_fileI hN N M _ hN) fun _=>LeP.bind (fu_fileD hD hN N M _ hN) fun _=>LeP.rfl'
structure FuF (F F':SF):Prop where
 binary:∀r,LeP Al (F.binary r) (F'.binary r)
 unary:LeP Al F.unary F'.unary
 block:LeP Al F.block F'.block
 branch:LeP Al F.branch F'.branch
 stmt:LeP Al F.stmt F'.stmt
theorem sf_fu {N M:Nat} (hN:N≤M):∀n m,n≤m→FuF (sf l N n) (sf l M m)
 | 0,m,h=>⟨fun _=>LeP.out,LeP.out,LeP.out,LeP.out,LeP.out⟩
 | n + 1,0,h=>by omega
 | n + 1,m + 1,h=>by
  have q:=sf_fu hN n m (by omega);exact⟨fun r=>fu_binary q.unary q.binary hN r,fu_unary q.unary (fu_prim (q.binary 1) hN),fu_block q.stmt hN,fu_branch (q.binary 1) q.block q.branch,
   fu_stmt (fu_variable (q.binary 1)) (fu_constant (q.binary 1)) q.block q.branch (fu_loop (q.binary 1) q.block) (fu_back (q.binary 1)) (fu_simple (q.binary 1) (fu_loop (q.binary 1) q.block))⟩
theorem fileS_fu {N M n m:Nat} (hN:N≤M) (hn:n≤m):LeP P (fileS l N (sf l N n)) (fileS l M (sf l M m)):=by
 have q:=sf_fu (l:=l) hN n m hn;exact fu_file (fu_decl (fu_variable (q.binary 1)) (fu_constant (q.binary 1)) (fu_structure hN) (fu_function q.block hN)) hN
end Gr
end Go.Proofs.Dm
