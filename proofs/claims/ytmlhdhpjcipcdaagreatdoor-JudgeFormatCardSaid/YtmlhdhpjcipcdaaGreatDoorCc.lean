/- Part of the proof: what the walked functions compute. No condition. -/
import Derived.Test.YtmlhdhpjcipcdaaGreatDoorCa
import Derived.Test.YtmlhdhpjcipcdaaGreatDoorCb
import Derived.Test.YtmlhdhpjcipcdaaGreatDoorBb
set_option linter.unusedSimpArgs false
set_option linter.unusedVariables false
set_option maxHeartbeats 4000000
namespace Go.Proofs.Dm
open Go Go.Proofs Go.Proofs.Dm.Sc
open Fo (trimR)
open Gr (ss0 lastS keyT)
namespace Pc
theorem fault_neg {s:ByteArray}:∀(n i:Nat),faultF s n i < 0→faultF s n i= -1
 | 0,i,h=>rfl
 | n + 1,i,h=>by
  unfold faultF at h⊢;split at h
  ·rename_i hlt;rw[if_pos hlt];split at h
   ·omega
   ·rename_i hb;rw[if_neg hb];exact fault_neg n _ h
  ·rename_i hlt;rw[if_neg hlt]
theorem scan_iff {s:ByteArray}:(scanP s).2.2 < 0↔(loopS s (s.size + 1) ss0).2 < 0∧V s.data.toList∧s.size≤2000:=by
 have hV:=fault_V (s:=s) s.size 0 (by omega) (by omega);rw[List.drop_zero]at hV;have hn:=fault_neg (s:=s) s.size 0;unfold ss0;unfold scanP;dsimp only;generalize hf:(loopS s (s.size + 1) ⟨0,1,[],[]⟩).2=f;have key:scanF s f < 0↔f < 0∧faultF s s.size 0 < 0∧s.size≤2000:=by
  unfold scanF least;generalize faultF s s.size 0=u;constructor
  ·intro h
   repeat' split at h
   all_goals omega
  ·rintro⟨h1,h2,h3⟩
   repeat' split
   all_goals omega
 by_cases q:0≤scanF s f
 ·rw[if_pos q];refine⟨fun h=>by simp only at h;omega,fun h=> ?_⟩;have:=key.2 ⟨h.1,by rw[hV.2 h.2.1];decide,h.2.2⟩;omega
 ·rw[if_neg q];refine⟨fun _=> ?_,fun _=>by simp⟩;obtain⟨h1,h2,h3⟩:=key.1 (by omega);exact⟨h1,hV.1 (hn h2),h3⟩
theorem reads_good {r ps} (h:Reads r ps):∀p∈ps,Good p:=by
 induction h with
 | nil=>intro p q;cases q
 | cons h _ ih=>
  intro p q;rcases List.mem_cons.1 q with rfl | q
  ·exact(unglue h).1
  ·exact ih p q
theorem nat_eq {c:UInt8} {n:Nat} (h:((c.toNat:Int)==(n:Int))=true):c.toNat=n:=by
 rw[beq_iff_eq]at h;omega
theorem ops_ascii:ops.all (fun x=>x.toList.head?.all (fun b=>decide (b.toNat < 128)))=true:=by kernel_rfl
theorem op_ascii {w:List UInt8} (h:isIn ops ⟨w.toArray⟩=true) (c:UInt8) (hc:w.head? =some c):c.toNat < 128:=by
 simp only[isIn,List.any_eq_true,eqB,beq_iff_eq]at h;obtain⟨o,ho,he⟩:=h;have h4:=List.all_eq_true.1 ops_ascii o ho;rw[←he,Lib.toList_data]at h4;simp only at h4;rw[hc]at h4;simpa using h4
theorem step_ascii {c:UInt8} {r:List UInt8} {q:Pc×List UInt8} (h:stepQ (c::r)=some q):c.toNat < 128:=by
 simp only[stepQ]at h;split at h
 ·rename_i n;have:=nat_eq (n:=10) n;omega
 split at h
 ·rename_i n;rw[Bool.or_eq_true]at n;rcases n with n | n
  ·have:=nat_eq (n:=32) n;omega
  ·have:=nat_eq (n:=9) n;omega
 split at h
 ·rename_i n;rw[Bool.and_eq_true,beq_iff_eq]at n;rw[n.1];decide
 split at h
 ·rename_i n;unfold letter at n;simp only[Bool.or_eq_true,Bool.and_eq_true,decide_eq_true_eq,beq_iff_eq]at n;omega
 split at h
 ·rename_i n;unfold digit at n;simp only[Bool.and_eq_true,decide_eq_true_eq]at n;omega
 split at h
 ·rename_i n;have:=nat_eq (n:=34) n;omega
 split at h
 ·rename_i n;have:=nat_eq (n:=59) n;omega
 ·unfold opQ at h;split at h
  ·rename_i n;cases r with
   | nil=>cases n
   | cons d r=>exact op_ascii (w:= [c,d]) n c rfl
  ·split at h
   ·rename_i n;exact op_ascii (w:= [c]) n c rfl
   ·cases h
theorem good_ascii {p:Pc} (g:Good p) (c:UInt8) (hc:(bytes p).head? =some c):c.toNat < 128:=by
 unfold Good at g;cases hb:bytes p with
 | nil=>rw[hb]at hc;cases hc
 | cons d w=>
  rw[hb]at g hc;cases hc;exact step_ascii g
theorem reads_ascii {r ps} (h:Reads r ps) (c:UInt8) (hc:r.head? =some c):c.toNat < 128:=by
 cases h with
 | nil=>cases hc
 | cons h _=>
  cases r with
  | nil=>cases h
  | cons d r=>
   cases hc;exact step_ascii h
def GV (p:Pc):Prop:=Good p∧V (bytes p)
theorem reads_gv {r ps} (h:Reads r ps) (hv:V r):∀p∈ps,GV p:=by
 induction h with
 | nil=>intro p q;cases q
 | @cons r p r' ps h hr ih=>
  have hb:=(stepQ_bytes h).1;rw[hb]at hv;obtain⟨v1,v2⟩:=V.cut _ (bytes p) r' (Nat.le_refl _) (reads_ascii hr) hv;intro q hq;rcases List.mem_cons.1 hq with rfl | hq
  ·exact⟨(unglue h).1,v1⟩
  ·exact ih v2 q hq
theorem semi_ends {x:SS} {t:Tok} (h:(Sc.semi x).l.getLast? =some t):ends t=false:=by
 unfold Sc.semi at h;split at h
 ·simp only[List.getLast?_append,List.getLast?_singleton,Option.some_or,Option.some.injEq]at h;subst h;rfl
 ·rename_i q;rw[h]at q;simpa using q
structure TI (x:SS):Prop where
 word:∀t∈x.l,t.kind=6∨GV (.tok t.kind t.text.data.toList)
 com:∀c∈x.c,GV (.com c.text.data.toList)
 next:∀c∈x.c,0≤c.next∧c.next≤x.l.length
 note:∀c∈x.c,∀(n:Nat) t,c.next=((n + 1:Nat):Int)→x.l[n]? =some t→ends t=false
theorem TI.push {x:SS} (h:TI x) {t:Tok} (ht:t.kind=6∨GV (.tok t.kind t.text.data.toList)) {a b:Int}:TI {x with l:=x.l ++ [t]} where
 word:=by
  intro u hu;simp only[List.mem_append,List.mem_singleton]at hu;rcases hu with q | rfl
  ·exact h.word u q
  ·exact ht
 com:=h.com
 next:=fun c hc=>by have:=h.next c hc;simp only[List.length_append,List.length_singleton];omega
 note:=fun c hc n u hn hu=>by
  have:=h.next c hc;rw[List.getElem?_append_left (by omega)]at hu;exact h.note c hc n u hn hu
theorem TI.semi {x:SS} (h:TI x):TI (Sc.semi x):=by
 unfold Sc.semi;split
 ·exact h.push (.inl rfl) (a:=0) (b:=0)
 ·exact h
theorem TI.at_ {x:SS} (h:TI x) (a b:Nat):TI {x with at_:=a,line:=b}:=⟨h.word,h.com,h.next,h.note⟩
theorem TI.ap {x:SS} (h:TI x) {p:Pc} (g:GV p):TI (ap x p):=by
 cases p with
 | sp b=>exact h.at_ _ _
 | nl=>exact h.semi.at_ _ _
 | tok k w=>exact(h.push (t:=⟨k,⟨w.toArray⟩,x.at_,x.line,false⟩) (.inr g) (a:=0) (b:=0)).at_ _ _
 | com w=>
  have g0:=h.semi;exact{
   word:=g0.word
   com:=by
    intro c hc;simp only[Pc.ap,List.mem_append,List.mem_singleton]at hc;rcases hc with q | rfl
    ·exact h.com c q
    ·exact g
   next:=by
    intro c hc;simp only[Pc.ap,List.mem_append,List.mem_singleton]at hc;rcases hc with q | rfl
    ·have ec:(Sc.semi x).c=x.c:=by unfold Sc.semi;split <;> rfl
     exact g0.next c (by rw[ec];exact q)
    ·simp only[Pc.ap];omega
   note:=by
    intro c hc n t hn ht;simp only[Pc.ap,List.mem_append,List.mem_singleton]at hc ht;rcases hc with q | rfl
    ·have ec:(Sc.semi x).c=x.c:=by unfold Sc.semi;split <;> rfl
     exact g0.note c (by rw[ec];exact q) n t hn ht
    ·simp only at hn;have e:(Sc.semi x).l.getLast? =some t:=by
      rw[List.getLast?_eq_getElem?,show(Sc.semi x).l.length - 1=n by omega];exact ht
     exact semi_ends e}
theorem ti_fold:∀(ps:List Pc) (x:SS),TI x→(∀p∈ps,GV p)→TI (ps.foldl ap x)
 | [],x,h,g=>h
 | p::ps,x,h,g=>ti_fold ps _ (h.ap (g p (by simp))) (fun q hq=>g q (by simp[hq]))
structure Facts (l:List Tok) (cs:List Com):Prop where
 word:∀t∈l,t.kind=6∨t.kind=7∨GV (.tok t.kind t.text.data.toList)
 com:∀c∈cs,GV (.com c.text.data.toList)
 note:∀c∈cs,∀(n:Nat) t,c.next=((n + 1:Nat):Int)→l[n]? =some t→ends t=false
 fin:∃ls e,l=ls ++ [e]∧keyT e=(7,⟨#[]⟩)∧∀t,ls.getLast? =some t→ends t=false
theorem reads_last {s:ByteArray} {ps:List Pc} (h:Reads s.data.toList ps):loopS s (s.size + 1) ss0=(ps.foldl ap ss0,-1):=h.loop (s.size + 1) ss0 rfl (Nat.zero_le _) (by show s.size < 0 +(s.size + 1);omega)
theorem scan_pieces {s:ByteArray} (hf:(scanP s).2.2 < 0):∃ps,Reads s.data.toList ps∧lastS s=ps.foldl ap ss0∧∀p∈ps,GV p:=by
 obtain⟨h1,h2,h3⟩:=scan_iff.1 hf;obtain⟨ps,hps⟩:=loop_reads (s:=s) (s.size + 1) ss0 s.data.toList rfl (Nat.zero_le _) (by show s.size < 0 +(s.size + 1);omega) h1;refine⟨ps,hps,?_,reads_gv hps h2⟩;unfold lastS;rw[reads_last hps]
theorem scan_facts {s:ByteArray} (hf:(scanP s).2.2 < 0):Facts (scanP s).1 (scanP s).2.1:=by
 obtain⟨e1,e2,_⟩:=Gr.scan_last hf;obtain⟨ps,_,h2,h3⟩:=scan_pieces hf;have h:=ti_fold ps ss0 ⟨(fun t q=>by cases q),(fun t q=>by cases q),(fun t q=>by cases q),(fun t q=>by cases q)⟩ h3;rw[←h2]at h;have g:=h.semi;have ec:(Sc.semi (lastS s)).c=(lastS s).c:=by unfold Sc.semi;split <;> rfl
 rw[e1,e2];refine⟨fun t ht=> ?_,h.com,fun c hc n t hn ht=> ?_,(Sc.semi (lastS s)).l,_,rfl,rfl,fun t ht=>semi_ends ht⟩
 ·simp only[ended,List.mem_append,List.mem_singleton]at ht;rcases ht with q | rfl
  ·rcases g.word t q with k | k
   ·exact .inl k
   ·exact .inr (.inr k)
  ·exact .inr (.inl rfl)
 ·rw[←ec]at hc;have:=g.next c hc;unfold ended at ht;rw[List.getElem?_append_left (by omega)]at ht;exact g.note c hc n t hn ht
theorem com_good {w:List UInt8}:Good (.com w)↔∃r,w=47::47::r∧(10:UInt8)∉r:=by
 constructor
 ·intro g;unfold Good at g;simp only[bytes]at g;cases w with
  | nil=>cases g
  | cons c w=>
   simp only[stepQ]at g;split at g
   ·cases g
   split at g
   ·cases g
   split at g
   ·rename_i n;simp only[Option.some.injEq,Prod.mk.injEq,Pc.com.injEq]at g;have ha:=nil_tw g.2;rw[Bool.and_eq_true,beq_iff_eq,beq_iff_eq]at n;cases w with
    | nil=>cases n.2
    | cons d w=>
     have hd:d=47:=by simpa using n.2
     refine⟨w,by rw[n.1,hd],?_⟩;rw[List.all_cons,List.all_cons,Bool.and_eq_true,Bool.and_eq_true,List.all_eq_true]at ha;intro h10;have:=ha.2.2 10 h10;simp at this
   split at g
   ·split at g <;> cases g
   split at g
   ·split at g <;> cases g
   split at g
   ·unfold textQ at g;simp only at g;split at g <;> cases g
   split at g
   ·cases g
   ·unfold opQ at g;split at g
    ·cases g
    ·split at g <;> cases g
 ·rintro⟨r,rfl,h⟩;unfold Good;simp only[bytes,stepQ];rw[if_neg (by decide),if_neg (by decide),if_pos (by rfl)];have ha:(47::47::r).all (fun b:UInt8=>b !=10)=true:=by
   rw[List.all_cons,List.all_cons,List.all_eq_true.2 (fun x hx=>by
    have:x≠10:=by rintro rfl;exact h hx
    simpa using this)]
   rfl
  have ht:=takeWhile_stop (fun b:UInt8=>b !=10) (47::47::r) [] ha (fun b q=>by cases q);rw[List.append_nil]at ht;rw[ht.1,ht.2]
def isBl (b:UInt8):Bool:= [32,9].contains b
theorem trim_split (w:List UInt8):∃q,w=Lib.trimRightS w [32,9] ++ q∧(∀b∈q,isBl b=true)∧∀b,(Lib.trimRightS w [32,9]).getLast? =some b→isBl b=false:=by
 unfold Lib.trimRightS;refine⟨(w.reverse.takeWhile ([32,9].contains ·)).reverse,?_,?_,?_⟩
 ·rw[←List.reverse_append,List.takeWhile_append_dropWhile,List.reverse_reverse]
 ·intro b hb;exact Rf.tw_all (List.mem_reverse.1 hb)
 ·intro b hb;rw[List.getLast?_reverse]at hb;exact head_dropWhile _ _ b hb
theorem bl_ascii {b:UInt8} (h:isBl b=true):b.toNat < 128:=by
 unfold isBl at h;simp at h;rcases h with rfl | rfl <;> decide
theorem trim_gv {c:ByteArray} (h:GV (.com c.data.toList)):GV (.com (trimR c).data.toList):=by
 obtain⟨q,h1,h2,h3⟩:=trim_split c.data.toList;have e:(trimR c).data.toList=Lib.trimRightS c.data.toList [32,9]:=rfl;rw[e];generalize Lib.trimRightS c.data.toList [32,9]=t at *;obtain⟨g,v⟩:=h;obtain⟨r,hr,h10⟩:=com_good.1 g;simp only[bytes]at v;refine⟨com_good.2 ?_,?_⟩
 ·rw[hr]at h1;have n47:isBl 47=false:=by decide
  cases t with
  | nil=>
   simp only[List.nil_append]at h1;have:=h2 47 (by rw[←h1];simp);rw[n47]at this;cases this
  | cons a t=>
   simp only[List.cons_append,List.cons.injEq]at h1;obtain⟨rfl,h1⟩:=h1;cases t with
   | nil=>
    simp only[List.nil_append]at h1;have:=h2 47 (by rw[←h1];simp);rw[n47]at this;cases this
   | cons b t=>
    simp only[List.cons_append,List.cons.injEq]at h1;obtain⟨rfl,h1⟩:=h1;refine⟨t,rfl,fun k=>h10 ?_⟩;rw[h1];simp[k]
 ·simp only[bytes];rw[h1]at v;refine(V.cut _ t q (Nat.le_refl _) (fun c hc=> ?_) v).1;exact bl_ascii (h2 c (List.mem_of_head? hc))
end Pc
end Go.Proofs.Dm
set_option maxHeartbeats 4000000
namespace Go.Proofs.Dm
open Go Go.Proofs Go.Proofs.Dm.Sc
open Fo (isO zeroT LS nlB spB pad trimR)
open Pc (Sep GV V Facts Reads)
namespace Rf
def flat (ps:List Pc):List UInt8:=(ps.map Pc.bytes).flatten
theorem flat_app (a b:List Pc):flat (a ++ b)=flat a ++ flat b:=by unfold flat;rw[List.map_append,List.flatten_append]
theorem flat_cons (p:Pc) (b:List Pc):flat (p::b)=Pc.bytes p ++ flat b:=rfl
def tabsP (n:Nat):List Pc:=List.replicate n (.sp 9)
theorem flat_tabs:∀n:Nat,flat (tabsP n)=List.replicate n 9
 | 0=>rfl
 | n + 1=>by
  unfold tabsP;rw[List.replicate_succ,List.replicate_succ,flat_cons];show 9::flat (tabsP n)=_;rw[flat_tabs n]
def sepQ (l:List Tok) (src:List ByteArray):Option It→It→List Pc
 | none,x=>tabsP (tabsR l x).toNat
 | some b,x=>if breaksR l b x then(if gapR l src b x then [.nl,.nl]else [.nl])++ tabsP (tabsR l x).toNat
  else if x.com then [.sp 32]else if spaceR l x.tok.toNat then [.sp 32]else []
theorem sepQ_none (l:List Tok) (src:List ByteArray) (x:It):sepQ l src none x=tabsP (tabsR l x).toNat:=rfl
theorem sepQ_some (l:List Tok) (src:List ByteArray) (b x:It):sepQ l src (some b) x=if breaksR l b x then(if gapR l src b x then [.nl,.nl]else [.nl])++ tabsP (tabsR l x).toNat
  else if x.com then [.sp 32]else if spaceR l x.tok.toNat then [.sp 32]else []:=rfl
def itQ (l:List Tok) (x:It):Pc:=if x.com then .com x.note.data.toList else .tok (tk l x.tok.toNat).kind (tk l x.tok.toNat).text.data.toList
def outQ (l:List Tok) (src:List ByteArray):Option It→List It→List Pc
 | _,[]=> []
 | p,x::xs=>sepQ l src p x ++ itQ l x::outQ l src (some x) xs
theorem outQ_cons (l:List Tok) (src:List ByteArray) (p:Option It) (x:It) (xs:List It):outQ l src p (x::xs)=sepQ l src p x ++ itQ l x::outQ l src (some x) xs:=rfl
theorem pad_list (n:Nat):(pad n).data.toList=List.replicate n 9:=rfl
theorem app_list (a b:ByteArray):(a ++ b).data.toList=a.data.toList ++ b.data.toList:=by simp
theorem sep_bytes (l:List Tok) (src:List ByteArray) (p:Option It) (x:It):(sepR l src p x).data.toList=flat (sepQ l src p x):=by
 cases p with
 | none=>rw[sepR_none,sepQ_none,flat_tabs,pad_list]
 | some b=>
  rw[sepR_some,sepQ_some];split
  ·rw[app_list,flat_app,flat_tabs,pad_list];split <;> rfl
  ·split
   ·rfl
   ·split <;> rfl
theorem it_bytes (l:List Tok) (x:It):(textR l x).data.toList=Pc.bytes (itQ l x):=by
 unfold textR itQ;split <;> rfl
theorem out_bytes (l:List Tok) (src:List ByteArray):∀(xs:List It) (p:Option It) (o:ByteArray),(outR l src p xs o).data.toList=o.data.toList ++ flat (outQ l src p xs)
 | [],p,o=>by
  show o.data.toList=_;unfold outQ flat;simp
 | x::xs,p,o=>by
  show(outR l src (some x) xs (o ++ sepR l src p x ++ textR l x)).data.toList=_;rw[out_bytes l src xs (some x),app_list,app_list,sep_bytes,it_bytes];rw[outQ_cons,flat_app,flat_cons];simp only[List.append_assoc]
def layQ (l:List Tok) (cs:List Com) (src:List ByteArray):List Pc:=outQ l src none (itemsG l 0 cs)++ [.nl]
theorem lay_bytes (l:List Tok) (cs:List Com) (src:List ByteArray):(layR l cs src).data.toList=flat (layQ l cs src):=by
 unfold layR layQ;rw[app_list,out_bytes,flat_app];rfl
def Glue:List Pc→Prop
 | []=>True
 | p::ps=>Pc.Good p∧Sep p (flat ps).head? ∧Glue ps
theorem Glue.reads:∀{ps:List Pc},Glue ps→Reads (flat ps) ps
 | [],_=> .nil
 | p::ps,h=> .cons (Pc.glue h.1 h.2.1) (Glue.reads h.2.2)
def blankP:Pc→Bool
 | .sp b=>b==32 || b==9
 | .nl=>true
 | _=>false
theorem blank_good {p:Pc} (h:blankP p=true):GV p∧∀c,Sep p c:=by
 cases p with
 | sp b=>
  unfold blankP at h;rw[Bool.or_eq_true,beq_iff_eq,beq_iff_eq]at h;refine⟨⟨?_,?_⟩,fun c=>True.intro⟩
  ·rcases h with rfl | rfl <;> rfl
  ·exact Pc.V.one (by rcases h with h | h <;> simp[h])
 | nl=>exact⟨⟨rfl,Pc.V.one (by simp)⟩,fun c=>True.intro⟩
 | com w=>cases h
 | tok k w=>cases h
theorem Glue.blanks:∀{a ps:List Pc},(∀p∈a,blankP p=true)→Glue ps→Glue (a ++ ps)
 | [],ps,h,g=>g
 | p::a,ps,h,g=>by
  have q:=blank_good (h p (by simp));exact⟨q.1.1,q.2 _,Glue.blanks (fun x hx=>h x (by simp[hx])) g⟩
theorem tabs_blank (n:Nat):∀p∈tabsP n,blankP p=true:=fun p hp=>by
 rw[List.eq_of_mem_replicate hp];rfl
theorem sep_blank (l:List Tok) (src:List ByteArray) (q:Option It) (x:It):∀p∈sepQ l src q x,blankP p=true:=by
 intro p hp;cases q with
 | none=>exact tabs_blank _ p hp
 | some b=>
  rw[sepQ_some]at hp;split at hp
  ·rw[List.mem_append]at hp;rcases hp with hp | hp
   ·split at hp
    ·simp only[List.mem_cons,List.not_mem_nil,or_false,or_self]at hp;rw[hp];rfl
    ·simp only[List.mem_singleton]at hp;rw[hp];rfl
   ·exact tabs_blank _ p hp
  ·split at hp
   ·simp only[List.mem_singleton]at hp;rw[hp];rfl
   ·split at hp
    ·simp only[List.mem_singleton]at hp;rw[hp];rfl
    ·cases hp
def bp:Option It→Nat
 | none=>0
 | some b=>if b.com then b.tok.toNat else b.tok.toNat + 1
structure Lnk (l:List Tok) (cs:List Com) (p:Option It) (x:It):Prop where
 tok:x.com=false→∃i t,x=tokI i t∧l[i]? =some t∧t.kind≠6∧t.kind≠7
 com:x.com=true→∃c∈cs,∃i:Nat,x=comI c∧c.next=i∧i < l.length
 le:bp p≤x.tok.toNat
 semis:∀k,bp p≤k→k < x.tok.toNat→(tk l k).kind=6
def Lk (l:List Tok) (cs:List Com):Option It→List It→Prop
 | p,[]=>∃n,l.length=n + 1∧(tk l n).kind=7∧bp p≤n∧∀k,bp p≤k→k < n→(tk l k).kind=6
 | p,x::xs=>Lnk l cs p x∧Lk l cs (some x) xs
theorem lk_coms {l:List Tok} {cs0:List Com} {i:Nat} (hi:i < l.length):∀(cs:List Com) (rest:List It) (p:Option It),(∀c∈cs,c.next=(i:Int)∧c∈cs0)→bp p≤i→(∀k,bp p≤k→k < i→(tk l k).kind=6)→
  (∀q,bp q≤i→(∀k,bp q≤k→k < i→(tk l k).kind=6)→Lk l cs0 q rest)→Lk l cs0 p (cs.map comI ++ rest)
 | [],rest,p,hc,hb,hs,h=>h p hb hs
 | c::cs,rest,p,hc,hb,hs,h=>by
  have hn:=hc c (by simp);have e:(comI c).tok.toNat=i:=by show c.next.toNat=i;rw[hn.1];rfl
  have hl:Lnk l cs0 p (comI c):=⟨(fun q=>by cases q),fun _=>⟨c,hn.2,i,rfl,hn.1,hi⟩,by rw[e];exact hb,fun k q1 q2=>hs k q1 (by rw[e]at q2;exact q2)⟩
  refine⟨hl,?_⟩;have eb:bp (some (comI c))=i:=e;refine lk_coms hi cs rest (some (comI c)) (fun d hd=>hc d (by simp[hd])) (by rw[eb];omega) (fun k q1 q2=>by rw[eb]at q1;omega) h
theorem lk_items {l:List Tok} {cs0:List Com} (hk:∀i t,l[i]? =some t→t.kind=7→l.length=i + 1) (hlast:∃t,l.getLast? =some t∧t.kind=7):∀(ts:List Tok) (i:Nat) (p:Option It) (cs:List Com),l.drop i=ts→i≤l.length→(∀c∈cs,(i:Int)≤c.next∧c∈cs0)→
  cs.Pairwise (fun b c=>b.line < c.line∧b.next≤c.next)→bp p≤i→(∀k,bp p≤k→k < i→(tk l k).kind=6)→(ts= []→i=l.length→False)→Lk l cs0 p (itemsG ts i cs)
 | [],i,p,cs,hd,hi,hc,hp,hb,hs,hne=>by
  have:l.length≤i:=by
   have:=congrArg List.length hd;simp only[List.length_drop,List.length_nil]at this;omega
  exact absurd (hne rfl (by omega)) (fun h=>h)
 | t::ts,i,p,cs,hd,hi,hc,hp,hb,hs,hne=>by
  have hg:l[i]? =some t:=by
   have:=congrArg List.head? hd;rw[List.head?_drop]at this;exact this
  have hlt:i < l.length:=by
   rcases Nat.lt_or_ge i l.length with q | q
   ·exact q
   ·rw[List.getElem?_eq_none q]at hg;cases hg
  have hd2:l.drop (i + 1)=ts:=by rw[←List.tail_drop,hd,List.tail_cons]
  have hsp:=take_split i cs;unfold itemsG;refine lk_coms hlt (takeI i cs).1 _ p (fun c h=> ?_) hb hs fun q hbq hsq=> ?_
  ·have h1:=take_fst i cs c h;have h2:=hc c (by rw[hsp];simp[h]);exact⟨by omega,h2.2⟩
  ·have hrest:∀c∈(takeI i cs).2,((i + 1:Nat):Int)≤c.next∧c∈cs0:=fun c h=>by
    have:=take_snd i cs hp c h;exact⟨by omega,(hc c (by rw[hsp];simp[h])).2⟩
   have hpr:(takeI i cs).2.Pairwise (fun b c=>b.line < c.line∧b.next≤c.next):=by
    rw[hsp]at hp;exact(List.pairwise_append.1 hp).2.1
   by_cases h7:t.kind=7
   ·have e1:(t.kind !=6&&t.kind !=7)=false:=by rw[h7];rfl
    rw[e1];simp only[Bool.false_eq_true,if_false,List.nil_append];have hlen:=hk i t hg h7;have hts:ts= []:=by rw[←hd2];exact List.drop_eq_nil_of_le (by omega)
    subst hts;exact⟨i,hlen,by rw[tk_get hg];exact h7,hbq,hsq⟩
   ·have hne2:ts= []→i + 1=l.length→False:=fun _ q=>by
     obtain⟨u,hu,hu7⟩:=hlast;rw[List.getLast?_eq_getElem?,show l.length - 1=i by omega,hg]at hu;cases hu;exact h7 hu7
    by_cases h6:t.kind=6
    ·have e1:(t.kind !=6&&t.kind !=7)=false:=by rw[h6];rfl
     rw[e1];simp only[Bool.false_eq_true,if_false,List.nil_append];refine lk_items hk hlast ts (i + 1) q _ hd2 hlt hrest hpr (by omega) (fun k q1 q2=> ?_) hne2;rcases Nat.lt_or_ge k i with g | g
     ·exact hsq k q1 g
     ·have:k=i:=by omega
      subst this;rw[tk_get hg];exact h6
    ·have e1:(t.kind !=6&&t.kind !=7)=true:=by
      rw[Bool.and_eq_true,bne_iff_ne,bne_iff_ne];exact⟨h6,h7⟩
     rw[e1];simp only[if_true,List.cons_append,List.nil_append];have et:(tokI i t).tok.toNat=i:=rfl;refine⟨⟨fun _=>⟨i,t,rfl,hg,h6,h7⟩,(fun g=>by cases g),by rw[et];exact hbq,by rw[et];exact hsq⟩,?_⟩;have eb:bp (some (tokI i t))=i + 1:=rfl;exact lk_items hk hlast ts (i + 1) _ _ hd2 hlt hrest hpr (by rw[eb];exact Nat.le_refl _) (fun k q1 q2=>by rw[eb]at q1;omega) hne2
theorem lk_scan {s:ByteArray} {l:List Tok} {cs:List Com} (h:Gr.Scanned s l cs):Lk l cs none (itemsG l 0 cs):=by
 refine lk_items h.kinds h.last l 0 none cs rfl (Nat.zero_le _) (fun c hc=>⟨(h.next c hc).1,hc⟩) h.cpair (Nat.le_refl _) (fun k q1 q2=>by omega) fun h1 _=> ?_
 obtain⟨t,ht,_⟩:=h.last;rw[h1]at ht;cases ht
theorem last_of {l:List Tok} {j:Nat} (hj:(tk l j).kind≠6):∀n:Nat,j < n→(∀k,j < k→k < n→(tk l k).kind=6)→lastR l n=tk l j∧atR l n=j
 | 0,h,g=>by omega
 | n + 1,h,g=>by
  unfold lastR atR;rcases Nat.lt_or_ge j n with q | q
  ·rw[if_pos (by simpa using g n q (by omega)),if_pos (by simpa using g n q (by omega))];exact last_of hj n q fun k q1 q2=>g k q1 (by omega)
  ·have:n=j:=by omega
   subst this;rw[if_neg (by simpa using hj),if_neg (by simpa using hj)];exact⟨rfl,rfl⟩
theorem op2_key:ops.all (fun x=>x.toList.length !=2 ||((x.toList.getD 1 0==61&& [58,61,33].contains (x.toList.getD 0 0))||(x.toList.getD 1 0==38&&x.toList.getD 0 0==38)||(x.toList.getD 1 0==124&&x.toList.getD 0 0==124)))=true:=by kernel_rfl
theorem op2 {a b:UInt8} (h:isIn ops ⟨#[a,b]⟩=true):(b=61∧(a=58∨a=61∨a=33))∨(b=38∧a=38)∨(b=124∧a=124):=by
 simp only[isIn,List.any_eq_true,eqB,beq_iff_eq]at h;obtain⟨o,ho,he⟩:=h;have h4:=List.all_eq_true.1 op2_key o ho;rw[←he,Lib.toList_data]at h4;simp at h4;rcases h4 with (h | h)| h
 ·exact .inl ⟨h.1,h.2⟩
 ·exact .inr (.inl h)
 ·exact .inr (.inr h)
def plainB (b:UInt8):Bool:= !(wordB b)&& !(digit b)&& !(letter b)&&b !=61&&b !=38&&b !=124
theorem sep_plain {k:Int} {w:List UInt8} {b:UInt8} (h:plainB b=true):Sep (.tok k w) (some b):=by
 unfold plainB at h;simp only[Bool.and_eq_true,Bool.not_eq_true',bne_iff_ne]at h;obtain⟨⟨⟨⟨⟨h1,h2⟩,h3⟩,h4⟩,h5⟩,h6⟩:=h;intro c hc;cases hc;refine⟨fun _=>h1,fun _=>⟨h2,h3⟩,fun _ a _=> ?_⟩;rw[Bool.eq_false_iff];intro q;rcases op2 q with q | q | q
 ·exact h4 q.1
 ·exact h5 q.1
 ·exact h6 q.1
theorem kind_in {t:Tok} {xs:List ByteArray} (h:isKind t xs=true):t.kind=4∧∃x∈xs,t.text.data.toList=x.data.toList:=by
 unfold isKind at h;rw[Bool.and_eq_true,beq_iff_eq]at h;obtain⟨h1,h2⟩:=h;simp only[isIn,List.any_eq_true,eqB,beq_iff_eq]at h2;obtain⟨x,hx,he⟩:=h2;exact⟨h1,x,hx,by rw[←Lib.toList_data,he,Lib.toList_data]⟩
theorem good_eq {k:Int} {w:List UInt8} (g:Pc.Good (.tok k w)) (h:w.head? =some 61):k=4:=by
 unfold Pc.Good at g;simp only[Pc.bytes]at g;cases w with
 | nil=>cases h
 | cons c w=>
  cases h;simp only[Pc.stepQ]at g;rw[if_neg (by decide),if_neg (by decide),if_neg (by simp),if_neg (by decide),if_neg (by decide),if_neg (by decide),if_neg (by decide)]at g;unfold Pc.opQ at g;split at g
  ·simp only[Option.some.injEq,Prod.mk.injEq,Pc.tok.injEq]at g;exact g.1.1.symm
  ·split at g
   ·simp only[Option.some.injEq,Prod.mk.injEq,Pc.tok.injEq]at g;exact g.1.1.symm
   ·cases g
theorem sep_op {w:List UInt8} {a0:UInt8} (hw:w= [a0]) (c:Option UInt8) (h:∀b,c=some b→isIn ops ⟨#[a0,b]⟩=false):Sep (.tok 4 w) c:=by
 intro b hb;refine⟨fun q=>by omega,fun q=>by omega,fun _ a ha=> ?_⟩;rw[hw]at ha;simp only[List.cons.injEq,and_true]at ha;subst ha;exact h b hb
theorem sep_tok {p a b:Tok} (h:Fo.spaceT p a b=false) (hb:Gr.isBang a=true→Gr.noEq b=true) (gb:Pc.Good (.tok b.kind b.text.data.toList)):Sep (.tok a.kind a.text.data.toList) b.text.data.toList.head? :=by
 unfold Fo.spaceT at h;have one:∀a0:UInt8,a.kind=4→a.text.data.toList= [a0]→(a0≠58∧a0≠61∧a0≠38∧a0≠124)→(a0=33→b.text.data.toList.head? ≠some 61)→Sep (.tok a.kind a.text.data.toList) b.text.data.toList.head? :=by
  intro a0 h4 ht hn h33;rw[h4];refine sep_op ht _ fun c hc=> ?_
  rw[Bool.eq_false_iff];intro q;rcases op2 q with q | q | q
  ·rcases q.2 with r | r | r
   ·exact hn.1 r
   ·exact hn.2.1 r
   ·exact h33 r (by rw[hc,q.1])
  ·exact hn.2.2.1 q.2
  ·exact hn.2.2.2 q.2
 have plain:∀c:UInt8,b.text.data.toList= [c]→plainB c=true→Sep (.tok a.kind a.text.data.toList) b.text.data.toList.head? :=by
  intro c hc hp;rw[hc];exact sep_plain hp
 split at h
 ·rename_i q;obtain⟨h4,x,hx,he⟩:=kind_in q;simp only[List.mem_cons,List.not_mem_nil,or_false]at hx;rcases hx with rfl | rfl | rfl
  ·exact one 40 h4 he (by decide) (fun q=>absurd q (by decide))
  ·exact one 46 h4 he (by decide) (fun q=>absurd q (by decide))
  ·refine one 33 h4 he (by decide) fun _ k=> ?_
   have:=hb (by unfold Gr.isBang;rw[h4,Lib.toList_data,he];rfl);have k4:=good_eq gb k;unfold Gr.noEq at this;rw[k4,Lib.toList_data,k]at this;cases this
 split at h
 ·rename_i q;rw[Bool.and_eq_true]at q;obtain⟨h4,x,hx,he⟩:=kind_in q.1;simp only[List.mem_cons,List.not_mem_nil,or_false]at hx;subst hx;exact one 45 h4 he (by decide) (fun q=>absurd q (by decide))
 split at h
 ·rename_i q;obtain⟨h4,x,hx,he⟩:=kind_in q;simp only[List.mem_cons,List.not_mem_nil,or_false]at hx;rcases hx with rfl | rfl | rfl | rfl
  ·exact plain 41 he (by decide)
  ·exact plain 44 he (by decide)
  ·exact plain 46 he (by decide)
  ·exact plain 58 he (by decide)
 split at h
 ·rename_i q;rw[Bool.and_eq_true]at q;obtain⟨h4,x,hx,he⟩:=kind_in q.1;simp only[List.mem_cons,List.not_mem_nil,or_false]at hx;subst hx;exact plain 40 he (by decide)
 split at h
 ·rename_i q;rw[Bool.and_eq_true]at q;obtain⟨h4,x,hx,he⟩:=kind_in q.2;simp only[List.mem_cons,List.not_mem_nil,or_false]at hx;subst hx;exact plain 125 he (by decide)
 ·cases h
end Rf
end Go.Proofs.Dm
set_option maxHeartbeats 4000000
namespace Go.Proofs.Dm
open Go Go.Proofs Go.Proofs.Dm.Sc
open Fo (isO zeroT LS nlB spB pad trimR)
open Pc (Sep GV V Facts Reads)
open Gr (ss0 lastS tokAt isBang noEq)
namespace Rf
variable {l:List Tok} {cs:List Com} {src:List ByteArray}
theorem it_gv (hF:Facts l cs) {p:Option It} {x:It} (h:Lnk l cs p x):GV (itQ l x):=by
 cases hc:x.com with
 | false=>
  obtain⟨i,t,rfl,hg,h6,h7⟩:=h.tok hc;have e:itQ l (tokI i t)= .tok (tk l i).kind (tk l i).text.data.toList:=rfl;rw[e,tk_get hg];rcases hF.word t (List.mem_of_getElem? hg)with q | q | q
  ·exact absurd q h6
  ·exact absurd q h7
  ·exact q
 | true=>
  obtain⟨c,hm,i,rfl,_⟩:=h.com hc;exact Pc.trim_gv (hF.com c hm)
theorem good_ne {p:Pc} (g:Pc.Good p):∃b r,Pc.bytes p=b::r:=by
 unfold Pc.Good at g;cases h:Pc.bytes p with
 | nil=>rw[h]at g;cases g
 | cons b r=>exact⟨b,r,rfl⟩
theorem head_flat {p:Pc} (g:Pc.Good p) (ps:List Pc):(flat (p::ps)).head? =(Pc.bytes p).head? :=by
 obtain⟨b,r,h⟩:=good_ne g;rw[flat_cons,h];rfl
theorem breaks_com {b x:It} (h:b.com=true):breaksR l b x=true:=by
 unfold breaksR;rw[h];cases x.com <;> rfl
theorem tok_tk {i:Nat} {t:Tok} (h:l[i]? =some t):tokAt l i=t:=Gr.tok_some h
theorem sep_next (hF:Facts l cs) (hb:∀i,isBang (tokAt l i)=true→noEq (tokAt l (i + 1))=true) {p:Option It} {x y:It} {rest:List Pc} (h1:Lnk l cs p x) (h2:Lnk l cs (some x) y):Sep (itQ l x) (flat (sepQ l src (some x) y ++ itQ l y::rest)).head? :=by
 have gy:=(it_gv hF h2).1;have any:∀b:UInt8,plainB b=true→(x.com=true→b=10)→Sep (itQ l x) (some b):=by
  intro b hp hc;unfold itQ;split
  ·rename_i q;intro c e;cases e;exact hc q
  ·exact sep_plain hp
 rw[sepQ_some]
 by_cases hbr:breaksR l x y=true
 ·rw[if_pos hbr];have e:(flat (((if gapR l src x y=true then [Pc.nl,Pc.nl]else [Pc.nl])++ tabsP (tabsR l y).toNat)++ itQ l y::rest)).head? =some 10:=by split <;> rfl
  rw[e];exact any 10 (by decide) fun _=>rfl
 ·rw[if_neg hbr];have hx:x.com=false:=by
   cases q:x.com with
   | false=>rfl
   | true=>exact absurd (breaks_com q) hbr
  have h32:Sep (itQ l x) (some 32):=any 32 (by decide) fun q=>by rw[hx]at q;cases q
  by_cases hy:y.com=true
  ·rw[if_pos hy];exact h32
  ·rw[if_neg hy]
   by_cases hs:spaceR l y.tok.toNat=true
   ·rw[if_pos hs];exact h32
   ·rw[if_neg hs,List.nil_append,head_flat gy];obtain⟨j,a,rfl,ga,a6,a7⟩:=h1.tok hx;obtain⟨i,b,rfl,gb,b6,b7⟩:=h2.tok (by simpa using hy);have hle:j + 1≤i:=h2.le;have hsem:∀k,j < k→k < i→(tk l k).kind=6:=fun k q1 q2=>h2.semis k q1 q2
    obtain⟨e1,e2⟩:=last_of (l:=l) (j:=j) (by rw[tk_get ga];exact a6) i hle hsem;have hsp:Fo.spaceT (if 1≤j then tk l (j - 1)else zeroT) a b=false:=by
     have:¬spaceR l i=true:=hs;unfold spaceR at this;dsimp only at this;rw[e2,tk_get ga,tk_get gb]at this;simpa using this
    have e3:itQ l (tokI j a)= .tok a.kind a.text.data.toList:=by show Pc.tok (tk l j).kind (tk l j).text.data.toList=_;rw[tk_get ga]
    have e4:itQ l (tokI i b)= .tok b.kind b.text.data.toList:=by show Pc.tok (tk l i).kind (tk l i).text.data.toList=_;rw[tk_get gb]
    rw[e3,e4];rw[e4]at gy;refine sep_tok hsp (fun hbang=> ?_) gy;have hn:¬breaksR l (tokI j a) (tokI i b)=true:=hbr;have e5:(tokI i b).com=false:=rfl;have e6:(tokI j a).com=false:=rfl;have e7:(tokI i b).tok.toNat=i:=rfl;unfold breaksR at hn;rw[e5,e6,e7,e1,tk_get ga]at hn;simp only[Bool.false_eq_true,if_false]at hn;have ho:isO a [123]=false:=by
     unfold isBang at hbang;rw[Bool.and_eq_true,beq_iff_eq,beq_iff_eq]at hbang;unfold Fo.isO;rw[hbang.2,Bool.and_eq_false_iff];exact .inr rfl
    rw[ho]at hn;simp only[Bool.false_eq_true,if_false]at hn;have hij:i=j + 1:=by
     rcases Nat.eq_or_lt_of_le hle with q | q
     ·exact q.symm
     ·exfalso
      apply hn;rw[if_pos (by simpa using hsem (i - 1) (by omega) (by omega))]
    have:=hb j (by rw[tok_tk ga];exact hbang);rw[←hij,tok_tk gb]at this;exact this
theorem glue_out (hF:Facts l cs) (hb:∀i,isBang (tokAt l i)=true→noEq (tokAt l (i + 1))=true):∀(xs:List It) (p:Option It),Lk l cs p xs→Glue (outQ l src p xs ++ [.nl])
 | [],p,h=>⟨rfl,True.intro,True.intro⟩
 | x::xs,p,h=>by
  have e:outQ l src p (x::xs)++ [.nl]=sepQ l src p x ++(itQ l x::(outQ l src (some x) xs ++ [.nl])):=by
   show(sepQ l src p x ++ itQ l x::outQ l src (some x) xs)++ [Pc.nl]=_;rw[List.append_assoc];rfl
  rw[e];refine Glue.blanks (sep_blank l src p x) ⟨(it_gv hF h.1).1,?_,glue_out hF hb xs (some x) h.2⟩;cases xs with
  | nil=>
   show Sep (itQ l x) (some 10);unfold itQ;split
   ·intro b q;cases q;rfl
   ·exact sep_plain (by decide)
  | cons y ys=>
   have e2:outQ l src (some x) (y::ys)++ [.nl]=sepQ l src (some x) y ++(itQ l y::(outQ l src (some y) ys ++ [.nl])):=by
    show(sepQ l src (some x) y ++ itQ l y::outQ l src (some y) ys)++ [Pc.nl]=_;rw[List.append_assoc];rfl
   rw[e2];exact sep_next hF hb h.1 h.2.1
theorem out_gv (hF:Facts l cs):∀(xs:List It) (p:Option It),Lk l cs p xs→∀q∈outQ l src p xs ++ [.nl],GV q
 | [],p,h,q,hq=>by
  have e:outQ l src p [] ++ [Pc.nl]= [Pc.nl]:=rfl;rw[e,List.mem_singleton]at hq;subst hq;exact(blank_good (p:= .nl) rfl).1
 | x::xs,p,h,q,hq=>by
  have e:outQ l src p (x::xs)++ [.nl]=sepQ l src p x ++(itQ l x::(outQ l src (some x) xs ++ [.nl])):=by
   show(sepQ l src p x ++ itQ l x::outQ l src (some x) xs)++ [Pc.nl]=_;rw[List.append_assoc];rfl
  rw[e,List.mem_append,List.mem_cons]at hq;rcases hq with hq | rfl | hq
  ·exact(blank_good (sep_blank l src p x q hq)).1
  ·exact it_gv hF h.1
  ·exact out_gv hF xs (some x) h.2 q hq
theorem flat_v:∀(ps:List Pc),(∀p∈ps,GV p)→V (flat ps)
 | [],h=> .nil
 | p::ps,h=>by
  rw[flat_cons];exact Pc.V.app (h p (by simp)).2 (flat_v ps fun q hq=>h q (by simp[hq]))
def layT (s:ByteArray):ByteArray:=layR (scanP s).1 (scanP s).2.1 (Fo.linesP s)
def layP (s:ByteArray):List Pc:=layQ (scanP s).1 (scanP s).2.1 (Fo.linesP s)
theorem laid_reads {s:ByteArray} (h:Gr.Parsed s):Reads (layT s).data.toList (layP s)∧V (layT s).data.toList:=by
 have hF:=Pc.scan_facts h.scan;have hk:=lk_scan (Gr.scanned h.scan);unfold layT layP;rw[lay_bytes];exact⟨(glue_out hF h.bang _ none hk).reads,flat_v _ (out_gv hF _ none hk)⟩
theorem laid_scan {s:ByteArray} (h:Gr.Parsed s) (hs:(layT s).size≤2000):(scanP (layT s)).2.2 < 0∧lastS (layT s)=(layP s).foldl Pc.ap ss0:=by
 obtain⟨h1,h2⟩:=laid_reads h;have h3:=Pc.reads_last h1;refine⟨Pc.scan_iff.2 ⟨by rw[h3];show(-1:Int)< 0;decide,h2,hs⟩,?_⟩;unfold lastS;rw[h3]
end Rf
end Go.Proofs.Dm
set_option maxHeartbeats 4000000
namespace Go.Proofs.Dm
open Go Go.Proofs Go.Proofs.Dm.Sc
open Fo (isO zeroT LS nlB spB pad trimR valueT)
open Pc (Sep GV V Facts Reads)
open Gr (ss0 lastS tokAt isBang noEq keyT canR sameT SemAt LI)
namespace Rf
variable {l l':List Tok} {src:List ByteArray}
def lastE (y:SS):Bool:=y.l.getLast?.any ends
theorem semi_def (y:SS):(Sc.semi y).l=if lastE y then y.l ++ [⟨6,⟨#[59]⟩,y.at_,y.line,true⟩]else y.l:=by
 unfold Sc.semi lastE;split <;> rfl
theorem semi_last (y:SS):lastE (Sc.semi y)=false:=by
 unfold lastE;cases h:(Sc.semi y).l.getLast? with
 | none=>rfl
 | some t=>exact Pc.semi_ends h
theorem tk_lt {k:Nat} (h:(tk l k).kind=6):∃t,l[k]? =some t∧t.kind=6:=by
 unfold tk at h;cases hg:l[k]? with
 | none=>rw[hg]at h;exact absurd h (by decide)
 | some t=>rw[hg]at h;exact⟨t,rfl,h⟩
theorem drop_some {i:Nat} {t:Tok} (h:l[i]? =some t):l.drop i=t::l.drop (i + 1):=by
 have hlt:i < l.length:=by
  rcases Nat.lt_or_ge i l.length with q | q
  ·exact q
  ·rw[List.getElem?_eq_none q]at h;cases h
 rw[List.drop_eq_getElem_cons hlt];rw[List.getElem?_eq_getElem hlt]at h;injection h with h
 rw[h]
theorem can_drop:∀(n a b:Nat),b=a + n→(∀k,a≤k→k < b→(tk l k).kind=6)→canR false (l.drop a)=canR false (l.drop b)
 | 0,a,b,h,hs=>by rw[h];rfl
 | n + 1,a,b,h,hs=>by
  obtain⟨t,ht,h6⟩:=tk_lt (hs a (Nat.le_refl _) (by omega));rw[←can_drop n (a + 1) b (by omega) fun k q1 q2=>hs k (by omega) q2,drop_some ht]
  conv=>lhs;unfold canR
  rw[if_pos h6];rfl
theorem can_semi {a b:Nat} (h:a < b) (hs:∀k,a≤k→k < b→(tk l k).kind=6):canR true (l.drop a)=(6,⟨#[]⟩)::canR false (l.drop b):=by
 obtain⟨t,ht,h6⟩:=tk_lt (hs a (Nat.le_refl _) h);rw[drop_some ht]
 conv=>lhs;unfold canR
 rw[if_pos h6,if_pos rfl,can_drop (b -(a + 1)) (a + 1) b (by omega) fun k q1 q2=>hs k (by omega) q2]
theorem can_word {e:Bool} {i:Nat} {t:Tok} (hg:l[i]? =some t) (h6:t.kind≠6) (he:e=false∨isO t [125]=false):canR e (l.drop i)=keyT t::canR (ends t) (l.drop (i + 1)):=by
 rw[drop_some hg]
 conv=>lhs;unfold canR
 have:(isO t [125]&&e)=false:=by
  rw[Bool.and_eq_false_iff];rcases he with q | q
  ·exact .inr q
  ·exact .inl q
 rw[if_neg h6,this];rfl
theorem can_shut {i:Nat} {t:Tok} (hg:l[i]? =some t) (h6:t.kind≠6) (ho:isO t [125]=true):canR true (l.drop i)=(6,⟨#[]⟩)::canR false (l.drop i):=by
 rw[can_word (e:=false) hg h6 (.inl rfl),drop_some hg]
 conv=>lhs;unfold canR
 rw[if_neg h6,ho];rfl
theorem opT_semi {o:Int} {t:Tok} (h:t.kind=6):La.opT o t=o:=by
 unfold La.opT Fo.isO;rw[h];rfl
theorem opens_snoc (a:List Tok) (t:Tok):La.opens (a ++ [t])=La.opT (La.opens a) t:=by
 unfold La.opens;rw[List.foldl_append];rfl
theorem opT_same {o:Int} {t u:Tok} (h:sameT t u):La.opT o t=La.opT o u:=by
 by_cases q:t.kind=6
 ·rw[opT_semi q,opT_semi (by rw[←h.1];exact q)]
 ·unfold La.opT Fo.isO;rw[h.1,h.2 q]
theorem take_one {i:Nat} {t:Tok} (h:l[i]? =some t):l.take (i + 1)=l.take i ++ [t]:=by
 rw[List.take_add_one,h];rfl
def nw (a:List Tok):Nat:=(a.filter fun t=>t.kind !=6).length
theorem nw_snoc (a:List Tok) (t:Tok):nw (a ++ [t])=nw a + if t.kind=6 then 0 else 1:=by
 unfold nw;rw[List.filter_append,List.length_append]
 congr 1
 by_cases h:t.kind=6
 ·rw[if_pos h];simp[h]
 ·rw[if_neg h];have:(t.kind !=6)=true:=by simpa using h
  rw[List.filter_cons,if_pos this];rfl
theorem take_semis:∀(n a b:Nat),b=a + n→(∀k,a≤k→k < b→(tk l k).kind=6)→La.opens (l.take b)=La.opens (l.take a)∧lastR l b=lastR l a∧atR l b=atR l a∧nw (l.take b)=nw (l.take a)
 | 0,a,b,h,hs=>by rw[h];exact⟨rfl,rfl,rfl,rfl⟩
 | n + 1,a,b,h,hs=>by
  obtain⟨e1,e2,e3,e4⟩:=take_semis n a (a + n) rfl fun k q1 q2=>hs k q1 (by omega)
  have hk:=hs (a + n) (by omega) (by omega);obtain⟨t,ht,h6⟩:=tk_lt hk;rw[h,←Nat.add_assoc,take_one ht,opens_snoc,opT_semi h6,nw_snoc,if_pos h6];refine⟨e1,?_,?_,e4⟩
  ·rw[←e2]
   conv=>lhs;unfold lastR
   rw[if_pos (by simpa using hk)]
  ·rw[←e3]
   conv=>lhs;unfold atR
   rw[if_pos (by simpa using hk)]
theorem tk_app {a r:List Tok} {k:Nat} (h:k < a.length):tk (a ++ r) k=tk a k:=by
 unfold tk;rw[List.getElem?_append_left h]
theorem lastR_app {a r:List Tok}:∀n:Nat,n≤a.length→lastR (a ++ r) n=lastR a n∧atR (a ++ r) n=atR a n
 | 0,h=>⟨rfl,rfl⟩
 | n + 1,h=>by
  obtain⟨e1,e2⟩:=lastR_app (a:=a) (r:=r) n (by omega);unfold lastR atR;rw[tk_app (by omega),e1,e2];exact⟨rfl,rfl⟩
theorem atR_le (a:List Tok):∀n:Nat,atR a n≤n - 1
 | 0=>Nat.le_refl _
 | n + 1=>by
  unfold atR;split
  ·have:=atR_le a n;omega
  ·omega
def pvR (l:List Tok) (n:Nat):Tok:=if 1≤atR l n then tk l (atR l n - 1)else zeroT
theorem pvR_app {a r:List Tok} {n:Nat} (h:n≤a.length):pvR (a ++ r) n=pvR a n:=by
 unfold pvR;rw[(lastR_app n h).2]
 by_cases q:1≤atR a n
 ·have:=atR_le a n;rw[if_pos q,if_pos q,tk_app (by omega)]
 ·rw[if_neg q,if_neg q]
theorem tk_snoc (a:List Tok) (t:Tok):tk (a ++ [t]) a.length=t:=by
 unfold tk;rw[List.getElem?_concat_length];rfl
theorem snoc_semi {a:List Tok} {t:Tok} (h:t.kind=6):lastR (a ++ [t]) (a ++ [t]).length=lastR a a.length∧pvR (a ++ [t]) (a ++ [t]).length=pvR a a.length:=by
 have e:(a ++ [t]).length=a.length + 1:=by simp
 rw[e];have hk:(tk (a ++ [t]) a.length).kind==6:=by rw[tk_snoc,h];rfl
 have e1:lastR (a ++ [t]) (a.length + 1)=lastR (a ++ [t]) a.length:=by
  conv=>lhs;unfold lastR
  rw[if_pos hk]
 have e2:atR (a ++ [t]) (a.length + 1)=atR (a ++ [t]) a.length:=by
  conv=>lhs;unfold atR
  rw[if_pos hk]
 refine⟨by rw[e1,(lastR_app _ (Nat.le_refl _)).1],?_⟩;rw[←pvR_app (r:= [t]) (Nat.le_refl _)];unfold pvR;rw[e2]
theorem snoc_word {a:List Tok} {t:Tok} (h:t.kind≠6):lastR (a ++ [t]) (a ++ [t]).length=t∧pvR (a ++ [t]) (a ++ [t]).length=if 1≤a.length then tk a (a.length - 1)else zeroT:=by
 have e:(a ++ [t]).length=a.length + 1:=by simp
 rw[e];have hk:¬((tk (a ++ [t]) a.length).kind==6)=true:=by rw[tk_snoc];simpa using h
 have e1:lastR (a ++ [t]) (a.length + 1)=t:=by
  unfold lastR;rw[if_neg hk,tk_snoc]
 have e2:atR (a ++ [t]) (a.length + 1)=a.length:=by
  unfold atR;rw[if_neg hk]
 refine⟨e1,?_⟩;unfold pvR;rw[e2]
 by_cases q:1≤a.length
 ·rw[if_pos q,if_pos q,tk_app (by omega)]
 ·rw[if_neg q,if_neg q]
def Rel (a b:List Tok):Prop:=(a= []∧b= [])∨∃t u,a.getLast? =some t∧b.getLast? =some u∧(sameT t u∨(t.kind=6∧(u.kind=6∨isO u [123]=true)))
theorem isO_same {t u:Tok} {x:List UInt8} (h:sameT t u):isO t x=isO u x:=by
 unfold Fo.isO
 by_cases q:t.kind=6
 ·rw[←h.1,q];rfl
 ·rw[h.1,h.2 q]
theorem ends_same {t u:Tok} (h:sameT t u):ends t=ends u:=by
 unfold ends
 by_cases q:t.kind=6
 ·rw[←h.1,q];rfl
 ·rw[h.1,h.2 q]
theorem isKind_same {t u:Tok} {xs:List ByteArray} (h:sameT t u):isKind t xs=isKind u xs:=by
 unfold isKind
 by_cases q:t.kind=6
 ·rw[←h.1,q];rfl
 ·rw[h.1,h.2 q]
def dull (u:Tok):Prop:=u.kind=6∨isO u [123]=true
theorem on_dull {u:Tok} (h:dull u):onR u=false:=by
 unfold onR;rcases h with h | h
 ·rw[h];rfl
 ·rw[h];simp
theorem value_dull {u:Tok} (h:dull u):valueT u=false:=by
 unfold Fo.valueT isKind;rcases h with h | h
 ·rw[h];rfl
 ·unfold Fo.isO at h;rw[Bool.and_eq_true,beq_iff_eq,beq_iff_eq]at h;rw[h.1];unfold isIn eqB;simp only[List.any_cons,List.any_nil,h.2];rw[Lib.toList_data ⟨#[41]⟩];rfl
theorem on_same {t u:Tok} (h:sameT t u):onR t=onR u:=by
 unfold onR;rw[isO_same h,isO_same h,h.1]
theorem value_same {t u:Tok} (h:sameT t u):valueT t=valueT u:=by
 unfold Fo.valueT;rw[isKind_same h,h.1]
theorem take_last {i:Nat} (h0:0 < i) (hi:i≤l.length):(l.take i).getLast? =some (tk l (i - 1)):=by
 rw[List.getLast?_eq_getElem?,List.length_take,Nat.min_eq_left hi,List.getElem?_take,if_pos (by omega),List.getElem?_eq_getElem (by omega)];unfold tk;rw[List.getElem?_eq_getElem (by omega)];rfl
theorem last_tk {b:List Tok} {u:Tok} (h:b.getLast? =some u):1≤b.length∧tk b (b.length - 1)=u:=by
 rw[List.getLast?_eq_getElem?]at h;have:b.length - 1 < b.length:=by
  rcases Nat.lt_or_ge (b.length - 1) b.length with q | q
  ·exact q
  ·rw[List.getElem?_eq_none q]at h;cases h
 refine⟨by omega,?_⟩;unfold tk;rw[h];rfl
theorem Rel.ahead {i:Nat} {b:List Tok} (h:Rel (l.take i) b) (hi:i≤l.length) (f:Tok→Bool) (hf:∀t u,sameT t u→f t=f u) (hd:∀u,dull u→f u=false):
  f (if 1≤i then tk l (i - 1)else zeroT)=f (if 1≤b.length then tk b (b.length - 1)else zeroT)∧(decide (0 < i)&&f (tk l (i - 1)))=(decide (0 < b.length)&&f (tk b (b.length - 1))):=by
 rcases h with ⟨h1,h2⟩ | ⟨t,u,h1,h2,h3⟩
 ·have:i=0:=by
   have:=congrArg List.length h1;simp only[List.length_take,List.length_nil]at this;rcases Nat.eq_zero_or_pos i with q | q
   ·exact q
   ·have:l.length=0:=by omega
    omega
  subst this;subst h2;exact⟨rfl,rfl⟩
 ·have h0:0 < i:=by
   rcases Nat.eq_zero_or_pos i with q | q
   ·subst q;rw[List.take_zero]at h1;cases h1
   ·exact q
  rw[take_last h0 hi]at h1;cases h1;obtain⟨g1,g2⟩:=last_tk h2;rw[if_pos (by omega),if_pos g1,g2,decide_eq_true h0,decide_eq_true (by omega:0 < b.length),Bool.true_and,Bool.true_and];have e:f (tk l (i - 1))=f u:=by
   rcases h3 with h3 | ⟨h3,h4⟩
   ·exact hf _ _ h3
   ·rw[hd _ (.inl h3),hd _ h4]
  exact⟨e,e⟩
structure Iv (T:ByteArray) (l:List Tok) (p p':Option It) (y:SS):Prop where
 li:LI T y
 sync:y.l.map keyT ++ canR (lastE y) (l.drop (bp p))=canR false l
 opn:La.opens (l.take (bp p))=La.opens y.l
 lw:sameT (lastR l (bp p)) (lastR y.l y.l.length)
 pv:isO (lastR l (bp p)) [45]=true→valueT (pvR l (bp p))=valueT (pvR y.l y.l.length)
 rel:Rel (l.take (bp p)) y.l
 cnt:nw (l.take (bp p))=nw y.l
 com:∀b,p=some b→b.com=true→lastE y=false
 wrd:∀b,p=some b→b.com=false→(tk l b.tok.toNat).kind≠6
 none_:p=none→p'=none∧y.l= []
 some_:∀b,p=some b→∃b',p'=some b'∧b'.line=y.line∧b'.com=b.com
structure Cx (l:List Tok) (i:Nat) (b:List Tok) (sh:Bool):Prop where
 opn:La.opens (l.take i)=La.opens b
 lw:sameT (lastR l i) (lastR b b.length)
 pv:isO (lastR l i) [45]=true→valueT (pvR l i)=valueT (pvR b b.length)
 rel:sh=false→Rel (l.take i) b
 cnt:nw (l.take i)=nw b
theorem pv_semis {n a b:Nat} (h:b=a + n) (hs:∀k,a≤k→k < b→(tk l k).kind=6):pvR l b=pvR l a:=by
 unfold pvR;rw[(take_semis n a b h hs).2.2.1]
theorem zero_ends:ends zeroT=false:=rfl
theorem dull_last {T:ByteArray} {p p':Option It} {y:SS} {i:Nat} (h:Iv T l p p' y) (hsem:∀k,SemAt l 0 k) (hlt:bp p < i) (hs:∀k,bp p≤k→k < i→(tk l k).kind=6) (he:lastE y=false):∃u,y.l.getLast? =some u∧dull u:=by
 obtain⟨t,ht,h6⟩:=tk_lt (hs (bp p) (Nat.le_refl _) hlt);obtain⟨j,_,hj,hj2,hj3,hj4⟩:=hsem (bp p) (by rw[tok_tk ht];exact h6);have hjl:j < l.length:=by
  rcases Nat.lt_or_ge (bp p) l.length with q | q
  ·omega
  ·rw[List.getElem?_eq_none q]at ht;cases ht
 have ej:tokAt l j=tk l j:=by
  unfold Gr.tokAt tk;rw[List.getElem?_eq_getElem hjl];rfl
 have hsj:∀k,j < k→k < bp p→(tk l k).kind=6:=fun k q1 q2=>by
  have:=hj2 k q1 q2;have e:tokAt l k=tk l k:=by
   unfold Gr.tokAt tk;rw[List.getElem?_eq_getElem (by rcases Nat.lt_or_ge (bp p) l.length with q | q;omega;rw[List.getElem?_eq_none q]at ht;cases ht)];rfl
  rw[←e];exact this
 rw[ej]at hj3 hj4;obtain⟨e1,_⟩:=last_of hj3 (bp p) hj hsj;have hlw:=h.lw;rw[e1]at hlw;cases hg:y.l.getLast? with
 | none=>
  exfalso
  have:y.l= []:=List.getLast?_eq_none_iff.1 hg;rw[this]at hlw;have e2:lastR [] ([]:List Tok).length=zeroT:=rfl;rw[e2]at hlw;rcases hj4 with q | q
  ·rw[ends_same hlw,zero_ends]at q;cases q
  ·rw[isO_same hlw]at q;exact absurd q (by decide)
 | some u=>
  refine⟨u,rfl,?_⟩
  by_cases h6u:u.kind=6
  ·exact .inl h6u
  ·obtain⟨a,ha⟩:∃a,y.l=a ++ [u]:=by
    rw[List.getLast?_eq_some_iff]at hg;exact hg
   have e3:lastR y.l y.l.length=u:=by rw[ha];exact(snoc_word h6u).1
   rw[e3]at hlw;have e4:ends u=false:=by
    unfold lastE at he;rw[hg]at he;exact he
   rcases hj4 with q | q
   ·rw[ends_same hlw,e4]at q;cases q
   ·exact .inr (by rw[←isO_same hlw];exact q)
theorem cx_same {T:ByteArray} {p p':Option It} {y:SS} {i:Nat} (h:Iv T l p p' y) (hsem:∀k,SemAt l 0 k) (hi:i≤l.length) (hle:bp p≤i) (hs:∀k,bp p≤k→k < i→(tk l k).kind=6) (he:lastE y=false∨i=bp p) (sh:Bool):Cx l i y.l sh:=by
 obtain⟨e1,e2,e3,e4⟩:=take_semis (i - bp p) (bp p) i (by omega) hs;refine⟨by rw[e1];exact h.opn,by rw[e2];exact h.lw,fun q=> ?_,fun _=> ?_,by rw[e4];exact h.cnt⟩
 ·rw[e2]at q;rw[pv_semis (n:=i - bp p) (by omega) hs];exact h.pv q
 ·rcases Nat.eq_or_lt_of_le hle with q | q
  ·rw[←q];exact h.rel
  ·have he':lastE y=false:=by
    rcases he with k | k
    ·exact k
    ·omega
   obtain⟨u,h1,h2⟩:=dull_last h hsem q hs he';exact .inr ⟨tk l (i - 1),u,take_last (by omega) hi,h1,.inr ⟨hs (i - 1) (by omega) (by omega),h2⟩⟩
theorem cx_semi {T:ByteArray} {p p':Option It} {y:SS} {i:Nat} {t:Tok} (h:Iv T l p p' y) (hi:i≤l.length) (hle:bp p≤i) (hs:∀k,bp p≤k→k < i→(tk l k).kind=6) (h6:t.kind=6) (sh:Bool) (hsh:sh=false→bp p < i):Cx l i (y.l ++ [t]) sh:=by
 obtain⟨e1,e2,e3,e4⟩:=take_semis (i - bp p) (bp p) i (by omega) hs;obtain⟨s1,s2⟩:=snoc_semi (a:=y.l) h6;refine⟨by rw[e1,opens_snoc,opT_semi h6];exact h.opn,by rw[e2,s1];exact h.lw,fun q=> ?_,fun q=> ?_,by rw[e4,nw_snoc,if_pos h6];exact h.cnt⟩
 ·rw[e2]at q;rw[pv_semis (n:=i - bp p) (by omega) hs,s2];exact h.pv q
 ·have:=hsh q;exact .inr ⟨tk l (i - 1),t,take_last (by omega) hi,by rw[List.getLast?_append,List.getLast?_singleton];rfl,.inr ⟨hs (i - 1) (by omega) (by omega),.inl h6⟩⟩
theorem Iv.semi_cx {T:ByteArray} {p p':Option It} {y:SS} {i:Nat} (h:Iv T l p p' y) (hsem:∀k,SemAt l 0 k) (hi:i≤l.length) (hle:bp p≤i) (hs:∀k,bp p≤k→k < i→(tk l k).kind=6) (sh:Bool) (hsh:sh=false→lastE y=true→bp p < i):Cx l i (Sc.semi y).l sh:=by
 rw[semi_def];cases he:lastE y with
 | true=>exact cx_semi h hi hle hs rfl sh fun q=>hsh q he
 | false=>exact cx_same h hsem hi hle hs (.inl he) sh
end Rf
end Go.Proofs.Dm
set_option maxHeartbeats 4000000
namespace Go.Proofs.Dm
open Go Go.Proofs Go.Proofs.Dm.Sc
open Fo (isO zeroT LS nlB spB pad trimR valueT spaceT)
open Pc (Sep GV V Facts Reads)
open Gr (ss0 lastS tokAt isBang noEq keyT canR sameT SemAt LI)
namespace Rf
variable {l l':List Tok} {cs:List Com} {src src':List ByteArray}
theorem fold_tabs:∀(n:Nat) (y:SS),(tabsP n).foldl Pc.ap y={y with at_:=y.at_ + n}
 | 0,y=>rfl
 | n + 1,y=>by
  unfold tabsP;rw[List.replicate_succ,List.foldl_cons];show(tabsP n).foldl Pc.ap {y with at_:=y.at_ + 1}=_;rw[fold_tabs n];simp only[Nat.add_assoc,Nat.add_comm 1 n]
theorem semi_c (y:SS):(Sc.semi y).c=y.c:=by unfold Sc.semi;split <;> rfl
theorem lastE_l {y z:SS} (h:y.l=z.l):lastE y=lastE z:=by unfold lastE;rw[h]
theorem semi2 {y z:SS} (h:z.l=(Sc.semi y).l):(Sc.semi z).l=(Sc.semi y).l:=by
 rw[semi_def,lastE_l h,semi_last];exact h
theorem sep_none (x:It) (y:SS):((sepQ l src none x).foldl Pc.ap y).l=y.l∧((sepQ l src none x).foldl Pc.ap y).c=y.c∧((sepQ l src none x).foldl Pc.ap y).line=y.line:=by
 rw[sepQ_none,fold_tabs];exact⟨rfl,rfl,rfl⟩
theorem sep_breaks {b x:It} (h:breaksR l b x=true) (y:SS):((sepQ l src (some b) x).foldl Pc.ap y).l=(Sc.semi y).l∧((sepQ l src (some b) x).foldl Pc.ap y).c=y.c∧((sepQ l src (some b) x).foldl Pc.ap y).line=y.line + if gapR l src b x then 2 else 1:=by
 rw[sepQ_some,if_pos h,List.foldl_append,fold_tabs];split
 ·refine⟨?_,?_,?_⟩
  ·exact semi2 (y:=y) (z:=Pc.ap y .nl) rfl
  ·exact(semi_c (Pc.ap y .nl)).trans (semi_c y)
  ·show y.line + 1 + 1=_;omega
 ·exact⟨rfl,semi_c y,rfl⟩
theorem sep_keeps {b x:It} (h:breaksR l b x=false) (y:SS):((sepQ l src (some b) x).foldl Pc.ap y).l=y.l∧((sepQ l src (some b) x).foldl Pc.ap y).c=y.c∧((sepQ l src (some b) x).foldl Pc.ap y).line=y.line:=by
 rw[sepQ_some,if_neg (by rw[h];decide)];split
 ·exact⟨rfl,rfl,rfl⟩
 ·split <;> exact⟨rfl,rfl,rfl⟩
def one (y:SS):Pc→List It
 | .com w=> [comI ⟨⟨w.toArray⟩,y.at_,y.line,(Sc.semi y).l.length⟩]
 | .tok k w=>if k !=6&&k !=7 then [tokI y.l.length ⟨k,⟨w.toArray⟩,y.at_,y.line,false⟩]else []
 | _=> []
def pIt:SS→List Pc→List It
 | _,[]=> []
 | y,q::qs=>one y q ++ pIt (Pc.ap y q) qs
theorem pIt_blanks:∀(a ps:List Pc) (y:SS),(∀q∈a,blankP q=true)→pIt y (a ++ ps)=pIt (a.foldl Pc.ap y) ps
 | [],ps,y,h=>rfl
 | q::a,ps,y,h=>by
  have hq:=h q (by simp);rw[List.cons_append,List.foldl_cons,←pIt_blanks a ps _ fun z hz=>h z (by simp[hz])];show one y q ++ pIt (Pc.ap y q) (a ++ ps)=_;cases q with
  | sp b=>rfl
  | nl=>rfl
  | com w=>cases hq
  | tok k w=>cases hq
inductive SE (l l':List Tok) (src src':List ByteArray):Option It→Option It→List It→List It→Prop
 | nil {p p'}:SE l l' src src' p p' [] []
 | cons {p p' x x' xs xs'} (hs:sepR l src p x=sepR l' src' p' x') (ht:textR l x=textR l' x') (hc:x.com=x'.com) (hn:nw (l.take x.tok.toNat)=nw (l'.take x'.tok.toNat)) (h:SE l l' src src' (some x) (some x') xs xs'):SE l l' src src' p p' (x::xs) (x'::xs')
theorem SE.out {p p':Option It} {xs xs':List It} (h:SE l l' src src' p p' xs xs'):∀o,outR l src p xs o=outR l' src' p' xs' o:=by
 induction h with
 | nil=>intro o;rfl
 | @cons p p' x x' xs xs' hs ht hc hn h ih=>
  intro o;show outR l src (some x) xs (o ++ sepR l src p x ++ textR l x)=outR l' src' (some x') xs' (o ++ sepR l' src' p' x' ++ textR l' x');rw[hs,ht,ih]
theorem tabs_form {x:It} {i:Nat} (ex:x.tok=(i:Int)):tabsR l x=if shutR l x then La.opens (l.take i)- 1 else if(decide (0 < i)&&onR (tk l (i - 1)))then La.opens (l.take i)+ 1 else La.opens (l.take i):=by
 unfold tabsR;rw[ex,Int.toNat_natCast];have e:decide ((0:Int)<(i:Int))=decide (0 < i):=by simp
 rw[e];cases shutR l x <;> cases decide (0 < i)<;> cases onR (tk l (i - 1))<;> simp
theorem tabs_eq {x x':It} {i:Nat} {b r:List Tok} (hi:i≤l.length) (ex:x.tok=(i:Int)) (ex':x'.tok=(b.length:Int)) (hl:l'=b ++ r) (hsh:shutR l x=shutR l' x') (cx:Cx l i b (shutR l x)):tabsR l x=tabsR l' x':=by
 have e0:l'.take b.length=b:=by rw[hl,List.take_left]
 rw[tabs_form ex,tabs_form ex',←hsh,e0,←cx.opn];cases hs:shutR l x with
 | true=>rfl
 | false=>
  have h:=((cx.rel hs).ahead hi onR (fun t u q=>on_same q) (fun u q=>on_dull q)).2;have e2:(decide (0 < b.length)&&onR (tk l' (b.length - 1)))=(decide (0 < b.length)&&onR (tk b (b.length - 1))):=by
   rcases Nat.eq_zero_or_pos b.length with q | q
   ·rw[q];rfl
   ·rw[hl,tk_app (by omega)]
  rw[e2,←h]
theorem kind_one (t:Tok) (c:UInt8):isKind t [⟨#[c]⟩]=isO t [c]:=by
 unfold isKind Fo.isO isIn eqB;simp only[List.any_cons,List.any_nil,Bool.or_false];rw[Lib.toList_data ⟨#[c]⟩]
theorem space_same {p p' a a' b b':Tok} (ha:sameT a a') (hb:sameT b b') (hp:isO a [45]=true→valueT p=valueT p'):spaceT p a b=spaceT p' a' b':=by
 unfold Fo.spaceT;have ek:(a.kind==1)=(a'.kind==1):=by rw[ha.1]
 rw[←isKind_same (xs:= [⟨#[40]⟩,⟨#[46]⟩,⟨#[33]⟩]) ha,←isKind_same (xs:= [⟨#[45]⟩]) ha,←isKind_same (xs:= [⟨#[41]⟩,⟨#[44]⟩,⟨#[46]⟩,⟨#[58]⟩]) hb,←isKind_same (xs:= [⟨#[40]⟩]) hb,←isKind_same (xs:= [⟨#[41]⟩]) ha,←isKind_same (xs:= [⟨#[123]⟩]) ha,←isKind_same (xs:= [⟨#[125]⟩]) hb,ek];have e:(isKind a [⟨#[45]⟩]&& !valueT p)=(isKind a [⟨#[45]⟩]&& !valueT p'):=by
  cases h:isKind a [⟨#[45]⟩]with
  | false=>rfl
  | true=>rw[hp (by rw[←kind_one];exact h)]
 rw[e]
theorem spl_nl (v:List UInt8):Gr.spl (10::v)= []::Gr.spl v:=Gr.spl_app [] v (by simp)
theorem spl_other {c:UInt8} (h:c≠10) (v:List UInt8):Gr.spl (c::v)=match Gr.spl v with
  | g::t=>(c::g)::t
  | []=> [[c]]:=by
 conv=>lhs;unfold Gr.spl
 rw[if_neg h];cases Gr.spl v <;> rfl
theorem happ:∀u v:List UInt8,Gr.spl (u ++ 10::v)=Gr.spl u ++ Gr.spl v
 | [],v=>by rw[List.nil_append,spl_nl];rfl
 | c::u,v=>by
  rw[List.cons_append]
  by_cases h:c=10
  ·subst h;rw[spl_nl,spl_nl,happ u v];rfl
  ·rw[spl_other h,spl_other h,happ u v];cases hu:Gr.spl u with
   | nil=>exact absurd hu (Gr.spl_ne u)
   | cons g t=>rfl
theorem gap_line {T:ByteArray} {y:SS} (h:LI T y) {r:List UInt8} (hd:T.data.toList.drop y.at_=10::10::r):((Fo.linesP T)[y.line]?).getD ⟨#[]⟩=⟨#[]⟩:=by
 have e1:T.data.toList=T.data.toList.take y.at_ ++ 10::10::r:=by rw[←hd,List.take_append_drop]
 have e2:y.line=(Gr.spl (T.data.toList.take y.at_)).length:=by
  rw[Gr.spl_len];have:=h.line;unfold Gr.nl at this;omega
 have e3:((Fo.linesP T).map (·.data.toList))[y.line]? =some []:=by
  rw[Gr.lines_spl,e1,happ,e2,List.getElem?_append_right (Nat.le_refl _)];rw[Nat.sub_self,spl_nl];rfl
 rw[List.getElem?_map]at e3;cases hg:(Fo.linesP T)[y.line]? with
 | none=>rfl
 | some z=>
  rw[hg]at e3;simp only[Option.map_some,Option.some.injEq]at e3;show z=_;exact ba_ext e3
theorem gap_eq {T:ByteArray} {y:SS} {b b' x x':It} (hg:isO (lastR l x.tok.toNat) [123]=isO (lastR l' x'.tok.toNat) [123]) (hsh:shutR l x=shutR l' x') (hb:b'.line=(y.line:Int)) (hx:x'.line=((y.line + if gapR l src b x then 2 else 1:Nat):Int))
  (he:gapR l src b x=true→((Fo.linesP T)[y.line]?).getD ⟨#[]⟩=⟨#[]⟩):gapR l src b x=gapR l' (Fo.linesP T) b' x':=by
 generalize hq:gapR l src b x=g at *;unfold gapR at hq⊢;rw[←hg,←hsh]
 by_cases q:(isO (lastR l x.tok.toNat) [123] || shutR l x)=true
 ·rw[if_pos q]at hq⊢;exact hq.symm
 ·rw[if_neg q]at hq⊢;rw[hx,hb];cases g with
  | true=>
   have e:(((y.line + if true=true then 2 else 1:Nat):Int)- 1 -(y.line:Int)).toNat=1:=by simp only[if_true];omega
   rw[e,Int.toNat_natCast];unfold gapN;rw[he rfl,if_pos (by rw[Lib.toList_data];rfl)]
  | false=>
   have e:(((y.line + if false=true then 2 else 1:Nat):Int)- 1 -(y.line:Int)).toNat=0:=by simp only[Bool.false_eq_true,if_false];omega
   rw[e];rfl
theorem ends_last {T:ByteArray} {p':Option It} {y:SS} {b:It} (h:Iv T l (some b) p' y) (he:lastE y=true) (hl:bp (some b)≤l.length):∃j,bp (some b)=j + 1∧ends (tk l j)=true∧(tk l j).kind≠6∧isO (tk l j) [123]=false:=by
 have hc:b.com=false:=by
  cases q:b.com with
  | false=>rfl
  | true=>rw[h.com b rfl q]at he;cases he
 have hbp:bp (some b)=b.tok.toNat + 1:=by
  show(if b.com then _ else _)=_;rw[hc];rfl
 refine⟨b.tok.toNat,hbp,?_⟩;have hr:=h.rel;rw[hbp]at hr hl;rcases hr with ⟨_,h2⟩ | ⟨t,u,h1,h2,h3⟩
 ·unfold lastE at he;rw[h2]at he;cases he
 ·rw[take_last (by omega) hl]at h1;cases h1;rw[Nat.add_sub_cancel]at h3;have hu:ends u=true:=by
   unfold lastE at he;rw[h2]at he;exact he
  have nd:¬dull u:=by
   rintro(q | q)
   ·have:ends u=false:=by unfold ends;rw[q];rfl
    rw[hu]at this;cases this
   ·rw[Gr.ends_open q]at hu;cases hu
  rcases h3 with h3 | ⟨_,h4⟩
  ·have he2:ends (tk l b.tok.toNat)=true:=by rw[ends_same h3];exact hu
   refine⟨he2,?_,?_⟩
   ·intro q;have:ends (tk l b.tok.toNat)=false:=by unfold ends;rw[q];rfl
    rw[he2]at this;cases this
   ·rw[Bool.eq_false_iff];intro q;rw[Gr.ends_open q]at he2;cases he2
  ·exact absurd h4 nd
theorem word_ahead {T:ByteArray} {p p':Option It} {y:SS} {i:Nat} {t:Tok} (h:Iv T l p p' y) (hsem:∀k,SemAt l 0 k) (hk:Lnk l cs p (tokI i t)) (hg:l[i]? =some t) (h6:t.kind≠6):
  (((sepQ l src p (tokI i t)).foldl Pc.ap y).l.map keyT ++ canR (lastE ((sepQ l src p (tokI i t)).foldl Pc.ap y)) (l.drop i)=canR false l∧(lastE ((sepQ l src p (tokI i t)).foldl Pc.ap y)=false∨isO t [125]=false))∧Cx l i ((sepQ l src p (tokI i t)).foldl Pc.ap y).l (isO t [125]):=by
 have hlt:i < l.length:=by
  rcases Nat.lt_or_ge i l.length with q | q
  ·exact q
  ·rw[List.getElem?_eq_none q]at hg;cases hg
 have hle:bp p≤i:=hk.le;have hs:∀k,bp p≤k→k < i→(tk l k).kind=6:=hk.semis;have same:lastE y=false→∀y1:SS,y1.l=y.l→(y1.l.map keyT ++ canR (lastE y1) (l.drop i)=canR false l∧(lastE y1=false∨isO t [125]=false))∧Cx l i y1.l (isO t [125]):=by
  intro he y1 e1;rw[lastE_l e1,e1,he];refine⟨⟨?_,.inl rfl⟩,cx_same h hsem (by omega) hle hs (.inl he) _⟩;have hsy:=h.sync;rw[he,can_drop (i - bp p) (bp p) i (by omega) hs]at hsy;exact hsy
 cases p with
 | none=>
  have h0:=(h.none_ rfl).2;exact same (by unfold lastE;rw[h0];rfl) _ (sep_none _ y).1
 | some b=>
  cases he:lastE y with
  | false=>
   refine same he _ ?_;cases hb:breaksR l b (tokI i t)with
   | true=>rw[(sep_breaks hb y).1,semi_def,he];rfl
   | false=>exact(sep_keeps hb y).1
  | true=>
   obtain⟨j,hj,he1,hk6,ho⟩:=ends_last h he (by omega);have hsj:∀k,j < k→k < i→(tk l k).kind=6:=fun k q1 q2=>hs k (by omega) q2
   obtain⟨el,_⟩:=last_of hk6 i (by omega) hsj;have hbc:b.com=false:=by
    cases q:b.com with
    | false=>rfl
    | true=>rw[h.com b rfl q]at he;cases he
   have ebr:breaksR l b (tokI i t)=if(tk l (i - 1)).kind==6 then true else isO t [125]:=by
    unfold breaksR;have e1:(tokI i t).com=false:=rfl;have e2:(tokI i t).tok.toNat=i:=rfl;rw[e1,e2,hbc,el,ho,tk_get hg];simp only[Bool.false_eq_true,if_false]
   have hsync:=h.sync;rw[he]at hsync;rcases Nat.eq_or_lt_of_le hle with q | q
   ·have eij:i - 1=j:=by omega
    rw[eij,if_neg (by simpa using hk6)]at ebr;rw[q]at hsync;cases hs2:isO t [125]with
    | true=>
     rw[hs2]at ebr;rw[lastE_l (sep_breaks ebr y).1,(sep_breaks ebr y).1,semi_last,semi_def,he];refine⟨⟨?_,.inl rfl⟩,cx_semi h (by omega) hle hs rfl true (fun k=>by cases k)⟩;rw[if_pos rfl,List.map_append,List.append_assoc,←hsync,can_shut hg h6 hs2];rfl
    | false=>
     rw[hs2]at ebr;rw[lastE_l (sep_keeps ebr y).1,(sep_keeps ebr y).1,he];exact⟨⟨hsync,.inr rfl⟩,cx_same h hsem (by omega) hle hs (.inr q.symm) false⟩
   ·rw[if_pos (by simpa using hs (i - 1) (by omega) (by omega))]at ebr;rw[lastE_l (sep_breaks ebr y).1,(sep_breaks ebr y).1,semi_last,semi_def,he];refine⟨⟨?_,.inl rfl⟩,cx_semi h (by omega) hle hs rfl _ (fun _=>q)⟩;rw[if_pos rfl,List.map_append,List.append_assoc,←hsync,can_semi q hs];rfl
theorem breaks_eq {b b':It} {i:Nat} {t t':Tok} {c r:List Tok} (hi:i≤l.length) (hi0:0 < i) (hbc:b'.com=b.com) (hl:l'=c ++ t'::r) (ht:sameT t t') (hg:l[i]? =some t) (cx:Cx l i c (isO t [125])) (hc0:b.com=false→c≠ []):breaksR l b (tokI i t)=breaksR l' b' (tokI c.length t'):=by
 have e0:lastR l' c.length=lastR c c.length:=by rw[hl];exact(lastR_app _ (Nat.le_refl _)).1
 have e3:tk l' c.length=t':=by rw[hl];unfold tk;simp
 unfold breaksR;have e1:∀(i:Nat) (t:Tok),(tokI i t).com=false:=fun _ _=>rfl
 have e2:∀(i:Nat) (t:Tok),(tokI i t).tok.toNat=i:=fun _ _=>rfl
 rw[e1,e1,e2,e2,hbc,tk_get hg,e3,e0,←isO_same cx.lw,←isO_same ht];simp only[Bool.false_eq_true,if_false];cases hb:b.com with
 | true=>rfl
 | false=>
  simp only[Bool.false_eq_true,if_false];split
  ·rfl
  ·rename_i hno;cases hs:isO t [125]with
   | true=>cases ((tk l (i - 1)).kind==6)<;> cases ((tk l' (c.length - 1)).kind==6)<;> rfl
   | false=>
    have hc1:0 < c.length:=List.length_pos_iff.2 (hc0 hb);have e4:tk l' (c.length - 1)=tk c (c.length - 1):=by rw[hl,tk_app (by omega)]
    have e5:((tk l (i - 1)).kind==6)=((tk l' (c.length - 1)).kind==6):=by
     rcases cx.rel hs with ⟨_,q⟩ | ⟨t0,u,q1,q2,q3⟩
     ·exact absurd q (hc0 hb)
     ·rw[take_last hi0 hi]at q1;cases q1;rw[e4,(last_tk q2).2];rcases q3 with q3 | ⟨q3,q4 | q4⟩
      ·rw[q3.1]
      ·rw[q3,q4]
      ·exfalso
       apply hno;rw[isO_same cx.lw];have hu6:u.kind≠6:=by rw[Gr.shut_kind q4];decide
       obtain⟨a,ha⟩:∃a,c=a ++ [u]:=by
        rw[List.getLast?_eq_some_iff]at q2;exact q2
       rw[ha,(snoc_word hu6).1];exact q4
    rw[e5]
theorem trim_idem (w:List UInt8):Lib.trimRightS (Lib.trimRightS w [32,9]) [32,9]=Lib.trimRightS w [32,9]:=by
 obtain⟨q,h1,h2,h3⟩:=Pc.trim_split w;generalize Lib.trimRightS w [32,9]=t at *;unfold Lib.trimRightS;cases ht:t.reverse with
 | nil=>
  have:t= []:=by simpa using ht
  rw[this];rfl
 | cons b r=>
  have hb:=h3 b (by rw[←List.head?_reverse,ht];rfl);rw[List.dropWhile_cons,if_neg (by unfold Pc.isBl at hb;rw[hb];decide),←ht,List.reverse_reverse]
theorem trimR_idem (c:ByteArray):trimR (trimR c)=trimR c:=by
 apply ba_ext;exact trim_idem c.data.toList
theorem ba_toArray (w:ByteArray):(⟨w.data.toList.toArray⟩:ByteArray)=w:=by
 apply ba_ext;simp
end Rf
end Go.Proofs.Dm
set_option maxHeartbeats 4000000
namespace Go.Proofs.Dm
open Go Go.Proofs Go.Proofs.Dm.Sc
open Fo (isO zeroT LS nlB spB pad trimR valueT spaceT linesP)
open Pc (Sep GV V Facts Reads)
open Gr (ss0 lastS tokAt isBang noEq keyT canR sameT SemAt LI)
namespace Rf
variable {l l':List Tok} {cs:List Com} {src src':List ByteArray}
theorem space_eq {T:ByteArray} {p':Option It} {y:SS} {b:It} {i:Nat} {t t':Tok} {r:List Tok} (h:Iv T l (some b) p' y) (hk:Lnk l cs (some b) (tokI i t)) (hg:l[i]? =some t) (hb:b.com=false) (hl:l'=y.l ++ t'::r) (ht:sameT t t') (cx:Cx l i y.l (isO t [125])):spaceR l i=spaceR l' y.l.length:=by
 have hlt:i < l.length:=by
  rcases Nat.lt_or_ge i l.length with q | q
  ·exact q
  ·rw[List.getElem?_eq_none q]at hg;cases hg
 have hbp:bp (some b)=b.tok.toNat + 1:=by
  show(if b.com then _ else _)=_;rw[hb];rfl
 have hle:bp (some b)≤i:=hk.le;have h6:=h.wrd b rfl hb;obtain⟨e1,e2⟩:=last_of h6 i (by omega) fun k q1 q2=>hk.semis k (by omega) q2
 have hr:=h.rel;rw[hbp]at hr;rcases hr with ⟨q,_⟩ | ⟨t0,u,q1,q2,q3⟩
 ·have:=congrArg List.length q;simp only[List.length_take,List.length_nil]at this;omega
 ·rw[take_last (by omega) (by omega),Nat.add_sub_cancel]at q1;cases q1;have hs:sameT (tk l b.tok.toNat) u:=by
   rcases q3 with q3 | ⟨q3,_⟩
   ·exact q3
   ·exact absurd q3 h6
  obtain⟨a,ha⟩:∃a,y.l=a ++ [u]:=by
   rw[List.getLast?_eq_some_iff]at q2;exact q2
  have hu6:u.kind≠6:=by rw[←hs.1];exact h6
  have hlen:y.l.length=a.length + 1:=by rw[ha];simp
  have ea:atR l' y.l.length=a.length:=by
   rw[hl,(lastR_app _ (Nat.le_refl _)).2,hlen];unfold atR;have:tk y.l a.length=u:=by rw[ha,tk_snoc]
   rw[this,if_neg (by simpa using hu6)]
  have eu:tk l' a.length=u:=by
   rw[hl,tk_app (by omega),ha,tk_snoc]
  have et:tk l' y.l.length=t':=by rw[hl];unfold tk;simp
  have ep:pvR l' y.l.length=pvR y.l y.l.length:=by rw[hl];exact pvR_app (Nat.le_refl _)
  show spaceT (pvR l i) (tk l (atR l i)) (tk l i)=spaceT (pvR l' y.l.length) (tk l' (atR l' y.l.length)) (tk l' y.l.length);rw[e2,ea,eu,et,ep,tk_get hg];refine space_same hs ht fun q=> ?_
  exact cx.pv (by rw[e1];exact q)
theorem word_step {T:ByteArray} {p p':Option It} {y y1:SS} {i:Nat} {t t':Tok} {r:List Tok} (h:Iv T l p p' y) (hsem:∀k,SemAt l 0 k) (hk:Lnk l cs p (tokI i t)) (hg:l[i]? =some t) (h6:t.kind≠6)
  (e1:y1=(sepQ l src p (tokI i t)).foldl Pc.ap y) (et:t'=⟨t.kind,⟨t.text.data.toList.toArray⟩,y1.at_,y1.line,false⟩) (hli:LI T (Pc.ap y1 (.tok t.kind t.text.data.toList))) (hl:l'=y1.l ++ t'::r)
  (hgap:∀b,p=some b→breaksR l b (tokI i t)=true→gapR l src b (tokI i t)=true→((linesP T)[y.line]?).getD ⟨#[]⟩=⟨#[]⟩):
  (sepR l src p (tokI i t)=sepR l' (linesP T) p' (tokI y1.l.length t')∧textR l (tokI i t)=textR l' (tokI y1.l.length t'))∧nw (l.take i)=nw (l'.take y1.l.length)∧Iv T l (some (tokI i t)) (some (tokI y1.l.length t')) (Pc.ap y1 (.tok t.kind t.text.data.toList)):=by
 have hlt:i < l.length:=by
  rcases Nat.lt_or_ge i l.length with q | q
  ·exact q
  ·rw[List.getElem?_eq_none q]at hg;cases hg
 have ht:sameT t t':=by rw[et];exact⟨rfl,fun _=>by rw[ba_toArray]⟩
 obtain⟨⟨hsync,hor⟩,cx⟩:=word_ahead (src:=src) h hsem hk hg h6;rw[←e1]at hsync hor cx;have e3:tk l' y1.l.length=t':=by rw[hl];unfold tk;simp
 have etake:l'.take y1.l.length=y1.l:=by rw[hl,List.take_left]
 have hsh:shutR l (tokI i t)=shutR l' (tokI y1.l.length t'):=by
  have e5:shutR l (tokI i t)=isO (tk l i) [125]:=rfl;have e6:shutR l' (tokI y1.l.length t')=isO (tk l' y1.l.length) [125]:=rfl;rw[e5,e6,tk_get hg,e3];exact isO_same ht
 have hsh2:shutR l (tokI i t)=isO t [125]:=by
  show isO (tk l i) [125]=_;rw[tk_get hg]
 have htabs:tabsR l (tokI i t)=tabsR l' (tokI y1.l.length t'):=tabs_eq (i:=i) (b:=y1.l) (by omega) rfl rfl hl hsh (by rw[hsh2];exact cx);have hl0:0≤y.line:=by have:=h.li.line;omega
 refine⟨⟨?_,?_⟩,by rw[etake];exact cx.cnt,?_⟩
 ·cases p with
  | none=>
   rw[(h.none_ rfl).1,sepR_none,sepR_none,htabs]
  | some b=>
   obtain⟨b',hb',hline,hcom⟩:=h.some_ b rfl;subst hb';have hle:bp (some b)≤i:=hk.le;have hy0:b.com=false→y.l≠ []:=fun q k=>by
    have hbp:bp (some b)=b.tok.toNat + 1:=by
     show(if b.com then _ else _)=_;rw[q];rfl
    have hr:=h.rel;rw[hbp]at hr;rcases hr with ⟨g,_⟩ | ⟨t0,u,_,g,_⟩
    ·have:=congrArg List.length g;simp only[List.length_take,List.length_nil]at this;omega
    ·rw[k]at g;cases g
   have hi0:b.com=false→0 < i:=fun q=>by
    have hbp:bp (some b)=b.tok.toNat + 1:=by
     show(if b.com then _ else _)=_;rw[q];rfl
    omega
   have hy1:b.com=false→y1.l≠ []:=fun q=>by
    rw[e1];cases hbr:breaksR l b (tokI i t)with
    | true=>
     rw[(sep_breaks hbr y).1,semi_def];split
     ·simp
     ·exact hy0 q
    | false=>rw[(sep_keeps hbr y).1];exact hy0 q
   have hbr:breaksR l b (tokI i t)=breaksR l' b' (tokI y1.l.length t'):=by
    cases q:b.com with
    | true=>rw[breaks_com q,breaks_com (by rw[hcom];exact q)]
    | false=>exact breaks_eq (by omega) (hi0 q) hcom hl ht hg cx (fun _=>hy1 q)
   rw[sepR_some,sepR_some,←hbr,←htabs];cases hbk:breaksR l b (tokI i t)with
   | true=>
    have hg1:gapR l src b (tokI i t)=gapR l' (linesP T) b' (tokI y1.l.length t'):=by
     refine gap_eq (y:=y) ?_ hsh hline ?_ (hgap b rfl hbk)
     ·show isO (lastR l i) [123]=isO (lastR l' y1.l.length) [123];rw[hl,(lastR_app _ (Nat.le_refl _)).1];exact isO_same cx.lw
     ·show t'.line=_;rw[et];show((y1.line:Nat):Int)=_;rw[e1,(sep_breaks hbk y).2.2]
    rw[if_pos rfl,if_pos rfl,hg1]
   | false=>
    have hbc:b.com=false:=by
     cases q:b.com with
     | false=>rfl
     | true=>rw[breaks_com q]at hbk;cases hbk
    have ey:y1.l=y.l:=by rw[e1];exact(sep_keeps hbk y).1
    rw[ey]at cx hl⊢;have hsp:=space_eq h hk hg hbc hl ht cx;simp only[Bool.false_eq_true,if_false];show(if false=true then spB else if spaceR l i then spB else⟨#[]⟩)=(if false=true then spB else if spaceR l' y.l.length then spB else⟨#[]⟩)
    rw[hsp]
 ·show(tk l i).text=(tk l' y1.l.length).text;rw[tk_get hg,e3];exact ht.2 h6
 ·have ey2:(Pc.ap y1 (.tok t.kind t.text.data.toList)).l=y1.l ++ [t']:=by rw[et];rfl
  have hk6:t'.kind≠6:=by rw[←ht.1];exact h6
  obtain⟨s1,s2⟩:=snoc_word (a:=y1.l) hk6;have elr:lastR l (i + 1)=t:=by
   unfold lastR;rw[tk_get hg,if_neg (by simpa using h6)]
  have epv:pvR l (i + 1)=if 1≤i then tk l (i - 1)else zeroT:=by
   have:atR l (i + 1)=i:=by
    unfold atR;rw[tk_get hg,if_neg (by simpa using h6)]
   unfold pvR;rw[this]
  have ebp:bp (some (tokI i t))=i + 1:=rfl;have elast:lastE (Pc.ap y1 (.tok t.kind t.text.data.toList))=ends t:=by
   unfold lastE;rw[ey2,List.getLast?_append,List.getLast?_singleton];exact(ends_same ht).symm
  refine⟨hli,?_,?_,?_,?_,?_,?_,fun b q k=> ?_,fun b q k=> ?_,(fun q=>by cases q),fun b q=> ?_⟩
  ·rw[elast,ey2,ebp,List.map_append,List.append_assoc,←hsync,can_word hg h6 hor];have ek:keyT t'=keyT t:=by
    unfold Gr.keyT;rw[←ht.1,if_neg h6,if_neg h6,ht.2 h6]
   show _ ++([keyT t'] ++ _)=_;rw[ek];rfl
  ·rw[ebp,ey2,take_one hg,opens_snoc,opens_snoc,cx.opn];exact opT_same ht
  ·rw[ebp,ey2,elr,s1];exact ht
  ·rw[ebp,ey2,elr,epv,s2];intro q;have hno:isO t [125]=false:=by
    unfold Fo.isO at q⊢;rw[Bool.and_eq_true,beq_iff_eq,beq_iff_eq]at q;rw[q.2,Bool.and_eq_false_iff];exact .inr rfl
   exact((cx.rel hno).ahead (by omega) valueT (fun t u q=>value_same q) (fun u q=>value_dull q)).1
  ·rw[ebp,ey2,take_one hg];exact .inr ⟨t,t',by rw[List.getLast?_append,List.getLast?_singleton];rfl,by rw[List.getLast?_append,List.getLast?_singleton];rfl,.inl ht⟩
  ·rw[ebp,ey2,take_one hg,nw_snoc,nw_snoc,cx.cnt,ht.1]
  ·cases q;cases k
  ·cases q;show(tk l i).kind≠6;rw[tk_get hg];exact h6
  ·cases q;exact⟨_,rfl,by show t'.line=_;rw[et];rfl,rfl⟩
theorem com_step2 {T:ByteArray} {p p':Option It} {y y1:SS} {i:Nat} {c:Com} {x':It} {r:List Tok} (h:Iv T l p p' y) (hsem:∀k,SemAt l 0 k) (hk:Lnk l cs p (comI c)) (hc:c.next=(i:Int)) (hi:i < l.length) (hnote:∀(n:Nat) t,c.next=((n + 1:Nat):Int)→l[n]? =some t→ends t=false)
  (e1:y1=(sepQ l src p (comI c)).foldl Pc.ap y) (ex:x'=comI ⟨⟨(trimR c.text).data.toList.toArray⟩,y1.at_,y1.line,(Sc.semi y1).l.length⟩) (hli:LI T (Pc.ap y1 (.com (trimR c.text).data.toList))) (hl:l'=(Sc.semi y1).l ++ r)
  (hgap:∀b,p=some b→breaksR l b (comI c)=true→gapR l src b (comI c)=true→((linesP T)[y.line]?).getD ⟨#[]⟩=⟨#[]⟩):
  (sepR l src p (comI c)=sepR l' (linesP T) p' x'∧textR l (comI c)=textR l' x')∧nw (l.take i)=nw (l'.take (Sc.semi y1).l.length)∧Iv T l (some (comI c)) (some x') (Pc.ap y1 (.com (trimR c.text).data.toList)):=by
 have eti:(comI c).tok.toNat=i:=by show c.next.toNat=i;rw[hc];rfl
 have hle:bp p≤i:=by have:=hk.le;rw[eti]at this;exact this
 have hs:∀k,bp p≤k→k < i→(tk l k).kind=6:=by have:=hk.semis;rw[eti]at this;exact this
 have hl0:0≤y.line:=by have:=h.li.line;omega
 have key:((Sc.semi y1).l=y.l∧lastE y=false)∨(∃t6:Tok,t6.kind=6∧(Sc.semi y1).l=y.l ++ [t6]∧lastE y=true∧bp p < i):=by
  cases he:lastE y with
  | false=>
   refine .inl ⟨?_,rfl⟩;have e2:y1.l=y.l:=by
    rw[e1];cases p with
    | none=>exact(sep_none _ y).1
    | some b=>
     cases hb:breaksR l b (comI c)with
     | true=>rw[(sep_breaks hb y).1,semi_def,he];rfl
     | false=>exact(sep_keeps hb y).1
   rw[semi_def,lastE_l e2,he];exact e2
  | true=>
   right;cases p with
   | none=>
    have:=(h.none_ rfl).2;unfold lastE at he;rw[this]at he;cases he
   | some b=>
    have hlt:bp (some b)< i:=by
     rcases Nat.eq_or_lt_of_le hle with q | q
     ·exfalso
      obtain⟨j,hj,he1,_,_⟩:=ends_last h he (by omega);have hjl:j < l.length:=by omega
      have:=hnote j (tk l j) (by rw[hc];omega) (by unfold tk;rw[List.getElem?_eq_getElem hjl];rfl);rw[he1]at this;cases this
     ·exact q
    cases hb:breaksR l b (comI c)with
    | true=>
     refine⟨⟨6,⟨#[59]⟩,y.at_,y.line,true⟩,rfl,?_,rfl,hlt⟩;have e2:y1.l=(Sc.semi y).l:=by rw[e1];exact(sep_breaks hb y).1
     rw[semi_def,lastE_l e2,semi_last,e2,semi_def,he];rfl
    | false=>
     refine⟨⟨6,⟨#[59]⟩,y1.at_,y1.line,true⟩,rfl,?_,rfl,hlt⟩;have e2:y1.l=y.l:=by rw[e1];exact(sep_keeps hb y).1
     rw[semi_def,lastE_l e2,he,e2];rfl
 have cx:Cx l i (Sc.semi y1).l false:=by
  rcases key with ⟨k1,k2⟩ | ⟨t6,k1,k2,k3,k4⟩
  ·rw[k1];exact cx_same h hsem (by omega) hle hs (.inl k2) false
  ·rw[k2];exact cx_semi h (by omega) hle hs k1 false fun _=>k4
 have ex2:x'.com=true:=by rw[ex];rfl
 have ext:x'.tok=((Sc.semi y1).l.length:Int):=by rw[ex];rfl
 have exl:x'.line=y1.line:=by rw[ex];rfl
 have etake:l'.take (Sc.semi y1).l.length=(Sc.semi y1).l:=by rw[hl,List.take_left]
 have hsh0:shutR l (comI c)=false:=rfl;have hsh1:shutR l' x'=false:=by unfold shutR;rw[ex2];rfl
 have hsh:shutR l (comI c)=shutR l' x':=by rw[hsh0,hsh1]
 have htabs:tabsR l (comI c)=tabsR l' x':=tabs_eq (i:=i) (b:=(Sc.semi y1).l) (by omega) hc ext hl hsh (by rw[hsh0];exact cx);refine⟨⟨?_,?_⟩,by rw[etake];exact cx.cnt,?_⟩
 ·cases p with
  | none=>rw[(h.none_ rfl).1,sepR_none,sepR_none,htabs]
  | some b=>
   obtain⟨b',hb',hline,hcom⟩:=h.some_ b rfl;subst hb';have e5:breaksR l b (comI c)=(b.com || b.line !=c.line):=rfl;have e6:breaksR l' b' x'=(b'.com || b'.line !=y1.line):=by unfold breaksR;rw[ex2,exl];rfl
   have hbr:breaksR l b (comI c)=breaksR l' b' x':=by
    rw[e6,hcom,hline];cases hbk:breaksR l b (comI c)with
    | true=>
     have:((y.line:Int) !=(y1.line:Int))=true:=by
      rw[bne_iff_ne,e1,(sep_breaks hbk y).2.2];split <;> omega
     rw[this,Bool.or_true]
    | false=>
     have h1:b.com=false:=by
      rw[e5,Bool.or_eq_false_iff]at hbk;exact hbk.1
     have:((y.line:Int) !=(y1.line:Int))=false:=by
      rw[e1,(sep_keeps hbk y).2.2];simp
     rw[h1,this];rfl
   rw[sepR_some,sepR_some,←hbr,←htabs];cases hbk:breaksR l b (comI c)with
   | true=>
    have hg1:gapR l src b (comI c)=gapR l' (linesP T) b' x':=by
     refine gap_eq (y:=y) ?_ hsh hline ?_ (hgap b rfl hbk)
     ·rw[eti,ext,Int.toNat_natCast,hl,(lastR_app _ (Nat.le_refl _)).1];exact isO_same cx.lw
     ·rw[exl,e1,(sep_breaks hbk y).2.2]
    rw[if_pos rfl,if_pos rfl,hg1]
   | false=>
    simp only[Bool.false_eq_true,if_false];rw[if_pos (show(comI c).com=true from rfl),if_pos ex2]
 ·rw[ex];show trimR c.text=trimR ⟨(trimR c.text).data.toList.toArray⟩;rw[ba_toArray,trimR_idem]
 ·have ebp:bp (some (comI c))=i:=eti;have ey2:(Pc.ap y1 (.com (trimR c.text).data.toList)).l=(Sc.semi y1).l:=rfl;have el:lastE (Pc.ap y1 (.com (trimR c.text).data.toList))=false:=by rw[lastE_l ey2,semi_last]
  refine⟨hli,?_,?_,?_,?_,?_,?_,fun b q k=>el,fun b q k=> ?_,(fun q=>by cases q),fun b q=> ?_⟩
  ·rw[el,ey2,ebp];have hsync:=h.sync;rcases key with ⟨k1,k2⟩ | ⟨t6,k1,k2,k3,k4⟩
   ·rw[k2,can_drop (i - bp p) (bp p) i (by omega) hs]at hsync;rw[k1];exact hsync
   ·rw[k3,can_semi k4 hs]at hsync;rw[k2,List.map_append,List.append_assoc,←hsync];have ek:keyT t6=(6,⟨#[]⟩):=by unfold Gr.keyT;rw[k1];rfl
    show _ ++([keyT t6] ++ _)=_;rw[ek];rfl
  ·rw[ebp,ey2];exact cx.opn
  ·rw[ebp,ey2];exact cx.lw
  ·rw[ebp,ey2];exact cx.pv
  ·rw[ebp,ey2];exact cx.rel rfl
  ·rw[ebp,ey2];exact cx.cnt
  ·cases q;cases k
  ·cases q;refine⟨x',rfl,?_,ex2⟩;rw[exl];show((y1.line:Nat):Int)=((Sc.semi y1).line:Int)
   rw[semi_line]
end Rf
end Go.Proofs.Dm
set_option maxHeartbeats 4000000
namespace Go.Proofs.Dm
open Go Go.Proofs Go.Proofs.Dm.Sc
open Fo (isO zeroT LS nlB spB pad trimR valueT spaceT linesP)
open Pc (Sep GV V Facts Reads)
open Gr (ss0 lastS tokAt isBang noEq keyT canR sameT SemAt LI)
namespace Rf
variable {l l':List Tok} {cs:List Com} {src src':List ByteArray}
theorem li_fold {T:ByteArray}:∀(a rest:List Pc) (y:SS),Reads (T.data.toList.drop y.at_) (a ++ rest)→LI T y→LI T (a.foldl Pc.ap y)∧Reads (T.data.toList.drop (a.foldl Pc.ap y).at_) rest
 | [],rest,y,h,g=>⟨g,h⟩
 | p::a,rest,y,h,g=>by
  rw[List.cons_append]at h;generalize hr:T.data.toList.drop y.at_=r at h;cases h with
  | @cons _ _ r' _ hq hr'=>
   have hst:=Pc.step_Q hr;rw[hq]at hst;simp only[Option.map_some]at hst;have hlt:y.at_ < T.size:=by
    cases h0:r with
    | nil=>rw[h0]at hq;cases hq
    | cons c r0=>rw[h0]at hr;exact(Pc.size_L hr).1
   rw[List.foldl_cons];refine li_fold a rest _ ?_ (LI.step hlt g hst);rw[Pc.ap_at,←List.drop_drop,hr,(Pc.stepQ_bytes hq).1,List.drop_left];exact hr'
theorem ap_ext (y:SS) (q:Pc):∃r,(Pc.ap y q).l=y.l ++ r:=by
 have hs:∃r,(Sc.semi y).l=y.l ++ r:=by
  rw[semi_def];split
  ·exact⟨_,rfl⟩
  ·exact⟨[],by simp⟩
 cases q with
 | sp b=>exact⟨[],by simp[Pc.ap]⟩
 | nl=>exact hs
 | com w=>exact hs
 | tok k w=>exact⟨_,rfl⟩
theorem fold_ext:∀(ps:List Pc) (y:SS),∃r,(ps.foldl Pc.ap y).l=y.l ++ r
 | [],y=>⟨[],by simp⟩
 | q::ps,y=>by
  obtain⟨r1,h1⟩:=ap_ext y q;obtain⟨r2,h2⟩:=fold_ext ps (Pc.ap y q);exact⟨r1 ++ r2,by rw[List.foldl_cons,h2,h1,List.append_assoc]⟩
theorem ended_ext (y:SS):∃r,ended y=y.l ++ r:=by
 unfold ended;rw[semi_def];split
 ·exact⟨_,by rw[List.append_assoc]⟩
 ·exact⟨_,rfl⟩
theorem end_step {T:ByteArray} {p p':Option It} {y:SS} (hF:Facts l cs) (h:Iv T l p p' y) (hk:Lk l cs p []) (hl:l'=ended (Pc.ap y .nl)):l'.map keyT=canR false l:=by
 obtain⟨n,hn,h7,hle,hs⟩:=hk;obtain⟨ls,e,f1,f2,f3⟩:=hF.fin;have hln:ls.length=n:=by
  have:=congrArg List.length f1;simp only[List.length_append,List.length_singleton]at this;omega
 have hsy:(Pc.ap y .nl).l=(Sc.semi y).l:=rfl;have el:lastE (Pc.ap y .nl)=false:=by rw[lastE_l hsy,semi_last]
 have e1:l'.map keyT=(Sc.semi y).l.map keyT ++ [(7,⟨#[]⟩)]:=by
  rw[hl];unfold ended;rw[semi_def,el];simp only[Bool.false_eq_true,if_false];rw[hsy,List.map_append];rfl
 have eg:l[n]? =some e:=by
  rw[f1,←hln,List.getElem?_concat_length]
 have e7:e.kind=7:=by
  have:=tk_get eg;rw[←this];exact h7
 have edrop:canR false (l.drop n)= [(7,⟨#[]⟩)]:=by
  rw[can_word (e:=false) eg (by rw[e7];decide) (.inl rfl),List.drop_eq_nil_of_le (by omega)];unfold Gr.canR;rw[f2]
 have hsync:=h.sync;rw[e1];cases he:lastE y with
 | false=>
  rw[he,can_drop (n - bp p) (bp p) n (by omega) hs,edrop]at hsync;rw[semi_def,he];exact hsync
 | true=>
  have hlt:bp p < n:=by
   cases p with
   | none=>
    have:=(h.none_ rfl).2;unfold lastE at he;rw[this]at he;cases he
   | some b=>
    rcases Nat.eq_or_lt_of_le hle with q | q
    ·exfalso
     obtain⟨j,hj,he1,_,_⟩:=ends_last h he (by omega);have hjl:j < ls.length:=by omega
     have e2:ls.getLast? =some (tk l j):=by
      rw[List.getLast?_eq_getElem?,show ls.length - 1=j by omega];unfold tk;rw[f1,List.getElem?_append_left hjl,List.getElem?_eq_getElem hjl];rfl
     have:=f3 _ e2;rw[he1]at this;cases this
    ·exact q
  rw[he,can_semi hlt hs,edrop]at hsync;rw[semi_def,he,if_pos rfl,List.map_append,List.append_assoc,←hsync];rfl
theorem gap_fact {T:ByteArray} {p:Option It} {y:SS} {x:It} {rest:List Pc} (hli:LI T y) (hr:Reads (T.data.toList.drop y.at_) (sepQ l src p x ++ rest)):∀b,p=some b→breaksR l b x=true→gapR l src b x=true→((linesP T)[y.line]?).getD ⟨#[]⟩=⟨#[]⟩:=by
 intro b hb h1 h2;subst hb;have hd:=hr.bytes;have e:((sepQ l src (some b) x ++ rest).map Pc.bytes).flatten=10::10::((tabsP (tabsR l x).toNat ++ rest).map Pc.bytes).flatten:=by
  rw[sepQ_some,if_pos h1,if_pos h2];rfl
 rw[e]at hd;exact gap_line hli hd
theorem scan_ind {T:ByteArray} (hF:Facts l cs) (hsem:∀k,SemAt l 0 k):∀(xs:List It) (p p':Option It) (y:SS),Lk l cs p xs→Iv T l p p' y→Reads (T.data.toList.drop y.at_) (outQ l src p xs ++ [.nl])→l'=ended ((outQ l src p xs ++ [Pc.nl]).foldl Pc.ap y)→
  SE l l' src (linesP T) p p' xs (pIt y (outQ l src p xs ++ [.nl]))∧l'.map keyT=canR false l
 | [],p,p',y,hk,h,hr,hl=>⟨.nil,end_step hF h hk hl⟩
 | x::xs,p,p',y,hk,h,hr,hl=>by
  have e:outQ l src p (x::xs)++ [.nl]=sepQ l src p x ++(itQ l x::(outQ l src (some x) xs ++ [.nl])):=by
   show(sepQ l src p x ++ itQ l x::outQ l src (some x) xs)++ [Pc.nl]=_;rw[List.append_assoc];rfl
  rw[e]at hr hl⊢;obtain⟨hk1,hk2⟩:=hk;have hgap:=gap_fact h.li hr;obtain⟨_,r1⟩:=li_fold _ _ _ hr h.li;obtain⟨g2,r2⟩:=li_fold [itQ l x] (outQ l src (some x) xs ++ [.nl]) _ r1 (li_fold _ _ _ hr h.li).1;rw[pIt_blanks _ _ _ (sep_blank l src p x)];generalize ey:(sepQ l src p x).foldl Pc.ap y=y1 at *;have hl2:l'=ended ((outQ l src (some x) xs ++ [Pc.nl]).foldl Pc.ap (Pc.ap y1 (itQ l x))):=by
   rw[hl,List.foldl_append,ey];rfl
  obtain⟨ra,ha⟩:=fold_ext (outQ l src (some x) xs ++ [.nl]) (Pc.ap y1 (itQ l x));obtain⟨rb,hb⟩:=ended_ext ((outQ l src (some x) xs ++ [Pc.nl]).foldl Pc.ap (Pc.ap y1 (itQ l x)));have hext:l'=(Pc.ap y1 (itQ l x)).l ++(ra ++ rb):=by rw[hl2,hb,ha,List.append_assoc]
  cases hc:x.com with
  | false=>
   obtain⟨i,t,rfl,hg,h6,h7⟩:=hk1.tok hc;have eq:itQ l (tokI i t)= .tok t.kind t.text.data.toList:=by show Pc.tok (tk l i).kind (tk l i).text.data.toList=_;rw[tk_get hg]
   rw[eq]at r1 r2 g2 hl2 hext⊢;obtain⟨⟨s1,s2⟩,s3,s4⟩:=word_step (l':=l') (r:=ra ++ rb) h hsem hk1 hg h6 ey.symm rfl g2 (by rw[hext];show(y1.l ++ [_])++ _=_;rw[List.append_assoc];rfl) hgap;obtain⟨k1,k2⟩:=scan_ind hF hsem xs _ _ _ hk2 s4 r2 hl2;refine⟨?_,k2⟩;have eo:one y1 (.tok t.kind t.text.data.toList)= [tokI y1.l.length ⟨t.kind,⟨t.text.data.toList.toArray⟩,y1.at_,y1.line,false⟩]:=by
    show(if(t.kind !=6&&t.kind !=7)=true then _ else _)=_;rw[if_pos];rw[Bool.and_eq_true,bne_iff_ne,bne_iff_ne];exact⟨h6,h7⟩
   show SE l l' src (linesP T) p p' _ (one y1 (.tok t.kind t.text.data.toList)++ pIt _ _);rw[eo];exact .cons s1 s2 rfl s3 k1
  | true=>
   obtain⟨c,hm,i,rfl,hn,hi⟩:=hk1.com hc;have eq:itQ l (comI c)= .com (trimR c.text).data.toList:=rfl;rw[eq]at r1 r2 g2 hl2 hext⊢;obtain⟨⟨s1,s2⟩,s3,s4⟩:=com_step2 (l':=l') (r:=ra ++ rb) h hsem hk1 hn hi (hF.note c hm) ey.symm rfl g2 hext hgap;obtain⟨k1,k2⟩:=scan_ind hF hsem xs _ _ _ hk2 s4 r2 hl2;refine⟨?_,k2⟩;show SE l l' src (linesP T) p p' _ (one y1 (.com (trimR c.text).data.toList)++ pIt _ _);have et:(comI c).tok.toNat=i:=by show c.next.toNat=i;rw[hn];rfl
   exact .cons s1 s2 rfl (by rw[et];exact s3) k1
def itE:List Tok→Nat→List Com→List It
 | [],_,cs=>cs.map comI
 | t::ts,i,cs=>(takeI i cs).1.map comI ++((if t.kind !=6&&t.kind !=7 then [tokI i t]else [])++ itE ts (i + 1) (takeI i cs).2)
theorem take_all (i:Nat):∀cs:List Com,(∀c∈cs,c.next≤(i:Int))→takeI i cs=(cs,[])
 | [],h=>rfl
 | c::cs,h=>by
  unfold takeI;rw[if_pos (h c (by simp)),take_all i cs fun d hd=>h d (by simp[hd])]
theorem take_behind (i:Nat) (c:Com) (h:(i:Int)< c.next):∀cs:List Com,takeI i (cs ++ [c])=((takeI i cs).1,(takeI i cs).2 ++ [c])
 | []=>by
  show takeI i [c]=_;unfold takeI;rw[if_neg (by omega)];rfl
 | d::cs=>by
  rw[List.cons_append];unfold takeI;split
  ·rw[take_behind i c h cs]
  ·rfl
theorem itE_tok:∀(l:List Tok) (i:Nat) (cs:List Com) (t:Tok),(∀c∈cs,c.next≤((i + l.length:Nat):Int))→itE (l ++ [t]) i cs=itE l i cs ++ if t.kind !=6&&t.kind !=7 then [tokI (i + l.length) t]else []
 | [],i,cs,t,h=>by
  show itE [t] i cs=_;unfold itE;rw[take_all i cs fun c hc=>by have:=h c hc;simp only[List.length_nil]at this;omega];show cs.map comI ++(_ ++ itE [] (i + 1) [])=_;simp only[itE,List.map_nil,List.append_nil,List.length_nil,Nat.add_zero]
 | u::l,i,cs,t,h=>by
  rw[List.cons_append];unfold itE;rw[itE_tok l (i + 1) _ t fun c hc=>by
   have:=h c (by rw[take_split i cs];simp[hc]);simp only[List.length_cons]at this;omega]
  simp only[List.append_assoc,List.length_cons,Nat.add_assoc,Nat.add_comm 1 l.length]
theorem itE_com:∀(l:List Tok) (i:Nat) (cs:List Com) (c:Com),c.next=((i + l.length:Nat):Int)→itE l i (cs ++ [c])=itE l i cs ++ [comI c]
 | [],i,cs,c,h=>by simp[itE]
 | u::l,i,cs,c,h=>by
  unfold itE;simp only[List.length_cons]at h;rw[take_behind i c (by omega) cs,itE_com l (i + 1) _ c (by omega)];simp only[List.append_assoc]
theorem itE_items:∀(l:List Tok) (i:Nat) (cs:List Com),(∀c∈cs,(i:Int)≤c.next∧c.next <((i + l.length:Nat):Int))→cs.Pairwise (fun b c=>b.line < c.line∧b.next≤c.next)→itE l i cs=itemsG l i cs
 | [],i,cs,h,hp=>by
  cases cs with
  | nil=>rfl
  | cons c cs=>have:=h c (by simp);simp only[List.length_nil]at this;omega
 | t::l,i,cs,h,hp=>by
  unfold itE itemsG;rw[itE_items l (i + 1) (takeI i cs).2 (fun c hc=>by
   have h1:=take_snd i cs hp c hc;have h2:=h c (by rw[take_split i cs];simp[hc]);simp only[List.length_cons]at h2;omega) (by
   have hp2:=hp;rw[take_split i cs]at hp2;exact(List.pairwise_append.1 hp2).2.1)]
theorem itE_semi {y:SS} (h:∀c∈y.c,c.next≤(y.l.length:Int)):itE (Sc.semi y).l 0 y.c=itE y.l 0 y.c∧∀c∈y.c,c.next≤((Sc.semi y).l.length:Int):=by
 rw[semi_def];split
 ·rw[itE_tok _ _ _ _ (by simpa using h)];refine⟨by simp,fun c hc=> ?_⟩;have:=h c hc;simp only[List.length_append,List.length_singleton];omega
 ·exact⟨rfl,h⟩
theorem pIt_ok:∀(qs:List Pc) (y:SS),(∀c∈y.c,c.next≤(y.l.length:Int))→itE (qs.foldl Pc.ap y).l 0 (qs.foldl Pc.ap y).c=itE y.l 0 y.c ++ pIt y qs∧∀c∈(qs.foldl Pc.ap y).c,c.next≤((qs.foldl Pc.ap y).l.length:Int)
 | [],y,h=>⟨by simp[pIt],h⟩
 | q::qs,y,h=>by
  have key:itE (Pc.ap y q).l 0 (Pc.ap y q).c=itE y.l 0 y.c ++ one y q∧∀c∈(Pc.ap y q).c,c.next≤((Pc.ap y q).l.length:Int):=by
   obtain⟨s1,s2⟩:=itE_semi h;cases q with
   | sp b=>exact⟨by simp[Pc.ap,one],h⟩
   | nl=>
    have e1:(Pc.ap y .nl).l=(Sc.semi y).l:=rfl;have e2:(Pc.ap y .nl).c=y.c:=semi_c y;rw[e1,e2];exact⟨by rw[s1];simp[one],s2⟩
   | com w=>
    have e1:(Pc.ap y (.com w)).l=(Sc.semi y).l:=rfl;have e2:(Pc.ap y (.com w)).c=y.c ++ [⟨⟨w.toArray⟩,y.at_,y.line,(Sc.semi y).l.length⟩]:=rfl;rw[e1,e2];refine⟨by rw[itE_com _ _ _ _ (by simp),s1];rfl,fun c hc=> ?_⟩;simp only[List.mem_append,List.mem_singleton]at hc;rcases hc with hc | rfl
    ·exact s2 c hc
    ·exact Int.le_refl _
   | tok k w=>
    have e1:(Pc.ap y (.tok k w)).l=y.l ++ [⟨k,⟨w.toArray⟩,y.at_,y.line,false⟩]:=rfl;have e2:(Pc.ap y (.tok k w)).c=y.c:=rfl;rw[e1,e2,itE_tok _ _ _ _ (by simpa using h)];refine⟨by simp only[one,Nat.zero_add],fun c hc=> ?_⟩;have:=h c hc;simp only[List.length_append,List.length_singleton];omega
  obtain⟨k1,k2⟩:=key;obtain⟨g1,g2⟩:=pIt_ok qs (Pc.ap y q) k2;refine⟨?_,g2⟩;rw[List.foldl_cons,g1,k1,List.append_assoc];rfl
theorem scan_items {T:ByteArray} (hf:(scanP T).2.2 < 0) {qs:List Pc} (h:lastS T=qs.foldl Pc.ap ss0):itemsG (scanP T).1 0 (scanP T).2.1=pIt ss0 qs:=by
 obtain⟨e1,e2,_⟩:=Gr.scan_last hf;have hs:=Gr.scanned hf;rw[←itE_items _ _ _ (fun c hc=>by have:=hs.next c hc;simpa using this) hs.cpair,e1,e2];obtain⟨g1,g2⟩:=pIt_ok qs ss0 (fun c hc=>by cases hc);rw[←h]at g1 g2;obtain⟨s1,s2⟩:=itE_semi g2;unfold ended;rw[itE_tok _ _ _ _ (by simpa using s2),s1,g1];simp[itE];rfl
theorem iv0 (T:ByteArray) (l:List Tok):Iv T l none none ss0:=by
 refine⟨⟨Nat.zero_le _,rfl,(fun t ht=>by cases ht),List.Pairwise.nil,(fun t ht=>by cases ht),List.Pairwise.nil,(fun t ht=>by cases ht),(fun t ht=>by cases ht)⟩,rfl,rfl,Gr.sameT_rfl,fun q=>rfl,.inl ⟨rfl,rfl⟩,rfl,(fun b q=>by cases q),(fun b q=>by cases q),fun _=>⟨rfl,rfl⟩,(fun b q=>by cases q)⟩
theorem laid_ok {s:ByteArray} (h:Gr.Parsed s) (h2:(layT s).size≤2000):(scanP (layT s)).2.2 < 0∧(scanP (layT s)).1.map keyT=canR false (scanP s).1∧
  SE (scanP s).1 (scanP (layT s)).1 (linesP s) (linesP (layT s)) none none (itemsG (scanP s).1 0 (scanP s).2.1) (itemsG (scanP (layT s)).1 0 (scanP (layT s)).2.1)∧layT (layT s)=layT s:=by
 obtain⟨h3,h4⟩:=laid_scan h h2;obtain⟨e1,e2,_⟩:=Gr.scan_last h3;have hl:(scanP (layT s)).1=ended ((layP s).foldl Pc.ap ss0):=by rw[e1,h4]
 obtain⟨k1,k2⟩:=scan_ind (T:=layT s) (Pc.scan_facts h.scan) h.sem (src:=linesP s) (itemsG (scanP s).1 0 (scanP s).2.1) none none ss0 (lk_scan (Gr.scanned h.scan)) (iv0 _ _) (laid_reads h).1 hl;have k1':SE (scanP s).1 (scanP (layT s)).1 (linesP s) (linesP (layT s)) none none (itemsG (scanP s).1 0 (scanP s).2.1) (itemsG (scanP (layT s)).1 0 (scanP (layT s)).2.1):=by
  rw[scan_items h3 h4];exact k1
 refine⟨h3,k2,k1',?_⟩;show outR (scanP (layT s)).1 (linesP (layT s)) none (itemsG (scanP (layT s)).1 0 (scanP (layT s)).2.1) ⟨#[]⟩ ++ nlB=outR (scanP s).1 (linesP s) none (itemsG (scanP s).1 0 (scanP s).2.1) ⟨#[]⟩ ++ nlB;rw[k1'.out]
end Rf
end Go.Proofs.Dm
