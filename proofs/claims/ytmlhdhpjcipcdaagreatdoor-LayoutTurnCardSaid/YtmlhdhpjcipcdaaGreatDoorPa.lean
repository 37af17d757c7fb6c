/- Part of the proof: contracts of the functions, walked by the D-machine. No condition. -/
import Derived.Test.YtmlhdhpjcipcdaaGreatDoorLS1
set_option linter.unusedSimpArgs false
set_option linter.unusedVariables false
namespace Go.Proofs.Dm
open Go Go.Proofs Go.Proofs.Tryz Go.Proofs.Dm.Sc
def endT:Tok:=⟨7,⟨#[]⟩,0,0,false⟩
namespace Pp
structure PS where
 at_:Int
 deep:Int
 fault:Int
def pbox (l:List Tok) (ps:PS):List DV:= [.p (.sl 5 (l.map encT)),i64 ps.at_,i64 ps.deep,i64 ps.fault]
attribute [local simp] pbox
def peek (l:List Tok) (ps:PS) (k:Int):Option Tok:=
 if 0≤ps.fault then some endT else if(l.length:Int)≤w64 (ps.at_ + k)then some endT else if 0≤w64 (ps.at_ + k)then l[(w64 (ps.at_ + k)).toNat]? else none
theorem peek_ok {W0 nb l ps k t} (h:peek l ps k=some t):DCalls ⟨Tryz.prog,W0,nb⟩ 175 [.ref 0 0,i64 k] [pbox l ps] (.agg ((encT t).map .p)) [pbox l ps]:=by
 refine dcalls_end Tryz.func175 rfl (by kernel_rfl) 37 Tryz.ntmps175 #[.cell 4 42] rfl (Nat.le_of_ble_eq_true rfl) ?_;unfold peek at h;cases h1:decide (0≤ps.fault)with
 | true=>
  have h1':=of_decide_eq_true h1;rw[if_pos h1']at h;injection h with h;subst h
  simp;refine drawWp.intro [] [15] mixed (by kernel_rfl) (by kernel_rfl) (by kernel_rfl) ?_;simp[h1];refine⟨by simp[h1],by simp[h1],?_⟩;simp[h1];exact .keep (by simp[encT,endT]) (.refl _) (by simp) (by simp[encT,endT]) (by simp[encT,endT]) (by simp[encT,endT])
 | false=>
  have h1':=of_decide_eq_false h1;rw[if_neg h1']at h;simp;refine drawWp.intro [] [15] mixed (by kernel_rfl) (by kernel_rfl) (by kernel_rfl) ?_;simp[h1];refine⟨by simp[h1],by simp[h1],?_⟩;simp[h1];cases h2:decide ((l.length:Int)≤w64 (ps.at_ + k))with
  | true=>
   have h2':=of_decide_eq_true h2;rw[if_pos h2']at h;injection h with h;subst h
   simp[h2];exact .keep (by simp[encT,endT]) (.refl _) (by simp) (by simp[encT,endT]) (by simp[encT,endT]) (by simp[encT,endT])
  | false=>
   have h2':=of_decide_eq_false h2;rw[if_neg h2']at h;split at h
   ·rename_i h3;simp[h2];refine drawWp.intro [] [7] mixed (by kernel_rfl) (by kernel_rfl) (by kernel_rfl) ?_;simp[h3,h,encT];refine⟨by simp,by simp,?_⟩;simp;exact .keep (by simp[encT]) (.refl _) (by simp) (by simp[encT]) (by simp[encT]) (by simp[encT])
   ·cases h
def word (t:Tok) (s:ByteArray):Bool:=(t.kind==4 || t.kind==5)&&(t.text.toList==s.toList)
theorem word_ok {W0 nb t s}:DCalls ⟨Tryz.prog,W0,nb⟩ 197 [.agg ((encT t).map .p),.p (.str s)] [] (.p (.bool (word t s))) []:=by
 refine dcalls_end Tryz.func197 rfl (by kernel_rfl) 19 Tryz.ntmps197 #[.tmp 4] rfl (Nat.le_of_ble_eq_true rfl) ?_;simp[encT];cases h1:t.kind==4 <;> cases h2:t.kind==5 <;> simp[h1,h2,word]
 all_goals exact .kk
def bad (ps:PS):PS:=if ps.fault < 0 then{ps with fault:=ps.at_}else ps
theorem bad_ok {W0 nb l ps}:DCalls ⟨Tryz.prog,W0,nb⟩ 196 [.ref 0 0] [pbox l ps] (.tup []) [pbox l (bad ps)]:=by
 refine dcalls_end Tryz.func196 rfl (by kernel_rfl) 14 Tryz.ntmps196 #[] rfl (Nat.le_of_ble_eq_true rfl) ?_;simp;cases h1:decide (ps.fault < 0)with
 | true=>
  have h1':=of_decide_eq_true h1;simp[bad,h1'];exact .kk
 | false=>
  have h1':=of_decide_eq_false h1;simp[bad,h1'];exact .kk
def skip (ps:PS):PS:={ps with at_:=w64 (ps.at_ + 1)}
theorem skip_ok {W0 nb l ps}:DCalls ⟨Tryz.prog,W0,nb⟩ 174 [.ref 0 0] [pbox l ps] (i64 (w64 ((skip ps).at_ - 1))) [pbox l (skip ps)]:=by
 refine dcalls_end Tryz.func174 rfl (by kernel_rfl) 15 Tryz.ntmps174 #[.tmp 2] rfl (Nat.le_of_ble_eq_true rfl) ?_;simp[skip];exact .keep (by simp[skip]) (.refl _) (by simp) (by simp[skip]) (by simp[skip]) (by simp[skip])
def isW (l:List Tok) (ps:PS) (s:ByteArray):Option Bool:=(peek l ps 0).map (word · s)
theorem isW_ok {W0 nb l ps s b} (h:isW l ps s=some b):DCalls ⟨Tryz.prog,W0,nb⟩ 173 [.ref 0 0,.p (.str s)] [pbox l ps] (.p (.bool b)) [pbox l ps]:=by
 obtain⟨t,h1,rfl⟩:=Option.map_eq_some_iff.1 h;refine dcalls_end Tryz.func173 rfl (by kernel_rfl) 9 Tryz.ntmps173 #[.tmp 4] rfl (Nat.le_of_ble_eq_true rfl) ?_;simp;refine CallGoal.same (peek_ok h1) ?_;simp[encT];refine CallGoal.same word_ok ?_;simp;exact .kk
def want (l:List Tok) (ps:PS) (s:ByteArray):Option PS:=(isW l ps s).map fun b=>skip (if b then ps else bad ps)
theorem want_ok {W0 nb l ps s ps'} (h:want l ps s=some ps'):DCalls ⟨Tryz.prog,W0,nb⟩ 170 [.ref 0 0,.p (.str s)] [pbox l ps] (i64 (w64 (ps'.at_ - 1))) [pbox l ps']:=by
 obtain⟨b,h1,rfl⟩:=Option.map_eq_some_iff.1 h;refine dcalls_end Tryz.func170 rfl (by kernel_rfl) 13 Tryz.ntmps170 #[.tmp 4] rfl (Nat.le_of_ble_eq_true rfl) ?_;simp;refine CallGoal.same (isW_ok h1) ?_;cases b with
 | true=>
  simp;refine CallGoal.same skip_ok ?_;simp;exact .kk
 | false=>
  simp;refine CallGoal.same bad_ok ?_;simp;refine CallGoal.same skip_ok ?_;simp;exact .kk
def kindP (l:List Tok) (ps:PS) (k:Int):Option PS:=(peek l ps 0).map fun t=>skip (if(t.kind !=k || decide (0≤ps.fault))then bad ps else ps)
theorem kindP_ok {W0 nb l ps k ps'} (h:kindP l ps k=some ps'):DCalls ⟨Tryz.prog,W0,nb⟩ 171 [.ref 0 0,i64 k] [pbox l ps] (i64 (w64 (ps'.at_ - 1))) [pbox l ps']:=by
 obtain⟨t,h0,h⟩:=Option.map_eq_some_iff.1 h;refine dcalls_end Tryz.func171 rfl (by kernel_rfl) 21 Tryz.ntmps171 #[.tmp 4] rfl (Nat.le_of_ble_eq_true rfl) ?_;simp;refine CallGoal.same (peek_ok h0) ?_;simp[encT];cases h1:t.kind !=k <;> cases h2:decide (0≤ps.fault)<;> simp only[h1,h2,Bool.or_self,Bool.or_true,Bool.true_or,if_true,if_false,Bool.false_eq_true]at h <;> subst h <;> simp[h1,h2]
 ·refine CallGoal.same skip_ok ?_;simp;exact .kk
 all_goals refine CallGoal.same bad_ok ?_
 all_goals simp
 all_goals refine CallGoal.same skip_ok ?_
 all_goals simp
 all_goals exact .kk
def openP (ps:PS):PS:=if 40 < w64 (ps.deep + 1)then bad {ps with deep:=w64 (ps.deep + 1)}else{ps with deep:=w64 (ps.deep + 1)}
theorem openP_ok {W0 nb l ps}:DCalls ⟨Tryz.prog,W0,nb⟩ 228 [.ref 0 0] [pbox l ps] (.tup []) [pbox l (openP ps)]:=by
 refine dcalls_end Tryz.func228 rfl (by kernel_rfl) 16 Tryz.ntmps228 #[] rfl (Nat.le_of_ble_eq_true rfl) ?_;simp;cases h1:decide (40 < w64 (ps.deep + 1))with
 | true=>
  have h1':=of_decide_eq_true h1;simp;refine CallGoal.same (bad_ok (ps:={ps with deep:=w64 (ps.deep + 1)})) ?_;simp[openP,h1'];exact .kk
 | false=>
  have h1':=of_decide_eq_false h1;simp[openP,h1'];exact .kk
def closeP (ps:PS):PS:={ps with deep:=w64 (ps.deep - 1)}
theorem closeP_ok {W0 nb l ps}:DCalls ⟨Tryz.prog,W0,nb⟩ 229 [.ref 0 0] [pbox l ps] (.tup []) [pbox l (closeP ps)]:=by
 refine dcalls_end Tryz.func229 rfl (by kernel_rfl) 9 Tryz.ntmps229 #[] rfl (Nat.le_of_ble_eq_true rfl) ?_;simp[closeP];exact .kk
def semis (l:List Tok):Nat→PS→Option PS
 | 0,_=>none
 | n + 1,ps=>(peek l ps 0).bind fun t=>if t.kind==6 then semis l n {ps with at_:=w64 (ps.at_ + 1)}else some ps
theorem semis_ok {W0 nb l n ps ps'} (h:semis l n ps=some ps'):DCalls ⟨Tryz.prog,W0,nb⟩ 172 [.ref 0 0] [pbox l ps] (.tup []) [pbox l ps']:=by
 refine dcalls_end Tryz.func172 rfl (by kernel_rfl) 13 Tryz.ntmps172 #[] rfl (Nat.le_of_ble_eq_true rfl) ?_;simp;refine⟨fun m s=>∃ps,semis l m ps=some ps'∧s.hp= [pbox l ps]∧s.tm 0= .ref 0 0,n,.here ⟨ps,h,by simp,by simp⟩,?_⟩;rintro m ⟨tm,hp⟩ ⟨ps,h,h1,h2⟩;simp only at h1 h2;subst h1;cases m with
 | zero=>cases h
 | succ m=>
  simp only[semis]at h;obtain⟨t,h3,h⟩:=Option.bind_eq_some_iff.1 h;simp[h2];refine CallGoal.same (peek_ok h3) ?_;simp[encT];cases h4:t.kind==6 with
  | true=>
   simp only[h4,if_true]at h;simp[h2];exact .same m (by omega) ⟨_,h,by simp[h2]⟩
  | false=>
   simp only[h4,Bool.false_eq_true,if_false,Option.some.injEq]at h;subst h;simp;exact .kk
end Pp
end Go.Proofs.Dm
namespace Go.Proofs.Dm
open Go Go.Proofs Go.Proofs.Tryz Go.Proofs.Dm.Sc
inductive Nd where
 | mk (kind tok:Int) (kids:List Nd)
mutual
def encN:Nd→List PD
 | .mk k t ks=> [.int .i64 k,.int .i64 t,.sl 3 (encNs ks)]
def encNs:List Nd→List (List PD)
 | []=> []
 | n::ns=>encN n::encNs ns
end
namespace Pp
attribute [local simp] pbox
theorem node_nil {W0 nb k t}:DCalls ⟨Tryz.prog,W0,nb⟩ 169 [i64 k,i64 t,.nil] [] (.agg [i64 k,i64 t,.own 26 3 []]) []:=by
 refine dcalls_end Tryz.func169 rfl (by kernel_rfl) 11 Tryz.ntmps169 #[.cell 6 26] rfl (Nat.le_of_ble_eq_true rfl) ?_;simp;exact .kk
theorem node_own {W0 nb k t xs}:DCalls ⟨Tryz.prog,W0,nb⟩ 169 [i64 k,i64 t,.own 26 3 xs] [] (.agg [i64 k,i64 t,.own 26 3 xs]) []:=by
 refine dcalls_end Tryz.func169 rfl (by kernel_rfl) 11 Tryz.ntmps169 #[.cell 6 26] rfl (Nat.le_of_ble_eq_true rfl) ?_;simp[takes,handsOn,isTmp,Op.operands,Call.operands];exact .kk
theorem endN {P n0 rv bs' s k t xs ks} (h1:resD P n0 s rv=some (.agg [i64 k,i64 t,.own 26 3 xs])) (hx:encNs ks=xs) (h3:n0≤s.hp.length) (h4:bs'=s.hp.take n0)
  (h6:(bs'.all fun b=>(refsDs b).all (· < n0))=true):EndGoal P n0 rv (.agg ((encN (.mk k t ks)).map .p)) bs' s:=by
 subst hx;refine .keep h1 ?_ h3 h4 (by simp[encN]) h6;simp only[encN,List.map_cons,List.map_nil];exact .agg (.cons (.refl _) (.cons (.refl _) (.cons (.fr _ _ _) .nil)))
theorem endE {P n0 rv bs' s k t xs} (h1:resD P n0 s rv=some (.agg [i64 k,i64 t,.own 26 3 xs])) (h3:n0≤s.hp.length) (h4:bs'=s.hp.take n0)
  (h6:(bs'.all fun b=>(refsDs b).all (· < n0))=true):EndGoal P n0 rv (.agg [i64 k,i64 t,.p (.sl 3 xs)]) bs' s:=
 .keep h1 (.agg (.cons (.refl _) (.cons (.refl _) (.cons (.fr _ _ _) .nil)))) h3 h4 (by simp) h6
def typ (l:List Tok) (ps:PS):Option (Nd×PS):=
 (kindP l ps 1).bind fun p1=>(isW l p1 ⟨#[46]⟩).bind fun b=>
  if b then(kindP l (skip p1) 1).bind fun p3=>some (.mk 28 (w64 (p3.at_ - 1)) [.mk 20 (w64 (p1.at_ - 1)) []],p3)
  else some (.mk 28 (w64 (p1.at_ - 1)) [],p1)
theorem typ_ok {W0 nb l ps nd ps'} (h:typ l ps=some (nd,ps')):DCalls ⟨Tryz.prog,W0,nb⟩ 215 [.ref 0 0] [pbox l ps] (.agg ((encN nd).map .p)) [pbox l ps']:=by
 unfold typ at h;obtain⟨p1,h1,h⟩:=Option.bind_eq_some_iff.1 h;obtain⟨b,h2,h⟩:=Option.bind_eq_some_iff.1 h;refine dcalls_end Tryz.func215 rfl (by kernel_rfl) 19 Tryz.ntmps215 #[.cell 2 26] rfl (Nat.le_of_ble_eq_true rfl) ?_;simp;refine CallGoal.same (kindP_ok h1) ?_;simp;refine CallGoal.same (isW_ok h2) ?_;cases b with
 | false=>
  simp only[Bool.false_eq_true,if_false,Option.some.injEq,Prod.mk.injEq]at h;obtain⟨rfl,rfl⟩:=h;simp;refine CallGoal.same node_nil ?_;simp;exact Pp.endN (by simp;first | done | rfl) (by simp[encN,encNs]) (by simp) (by simp) (by simp)
 | true=>
  simp only[if_true]at h;obtain⟨p3,h3,h⟩:=Option.bind_eq_some_iff.1 h;simp only[Option.some.injEq,Prod.mk.injEq]at h;obtain⟨rfl,rfl⟩:=h;simp;refine CallGoal.same skip_ok ?_;simp;refine CallGoal.same (kindP_ok h3) ?_;simp;refine CallGoal.same node_nil ?_;simp;refine CallGoal.same node_own ?_;simp;exact Pp.endN (by simp;first | done | rfl) (by simp[encN,encNs]) (by simp) (by simp) (by simp)
end Pp
end Go.Proofs.Dm
set_option maxHeartbeats 4000000
namespace Go.Proofs.Dm
open Go Go.Proofs Go.Proofs.Tryz Go.Proofs.Dm.Sc
namespace Pp
attribute [local simp] pbox encT encN encNs takes handsOn isTmp Op.operands Call.operands
def HN (C:Ctx) (l:List Tok) (f:FuncId) (F:PS→Option (Nd×PS)):Prop:=∀{ps nd ps'},F ps=some (nd,ps')→DCalls C f [.ref 0 0] [pbox l ps] (.agg ((encN nd).map .p)) [pbox l ps']
abbrev tk (ps:PS):Int:=w64 (ps.at_ - 1)
def variableB (l:List Tok) (E:PS→Option (Nd×PS)) (ps:PS):Option (Nd×PS):=
 (kindP l (skip ps) 1).bind fun p1=>(typ l p1).bind fun r2=>(isW l r2.2 ⟨#[61]⟩).bind fun b=>
  if b then(E (skip r2.2)).bind fun r3=>some (.mk 4 (tk p1) [r2.1,r3.1],r3.2)else some (.mk 4 (tk p1) [r2.1],r2.2)
theorem variable_ok {W0 nb l E} (hE:HN ⟨Tryz.prog,W0,nb⟩ l 216 E):HN ⟨Tryz.prog,W0,nb⟩ l 198 (variableB l E):=by
 intro ps nd ps' h;unfold variableB at h;obtain⟨p1,h1,h⟩:=Option.bind_eq_some_iff.1 h
 try dsimp only at h1 h
 obtain⟨⟨⟨k2,t2,ks2⟩,p2⟩,h2,h⟩:=Option.bind_eq_some_iff.1 h
 try dsimp only at h2 h
 obtain⟨b,h3,h⟩:=Option.bind_eq_some_iff.1 h
 try dsimp only at h3 h
 refine dcalls_end Tryz.func198 rfl (by kernel_rfl) 28 Tryz.ntmps198 #[.cell 2 26] rfl (Nat.le_of_ble_eq_true rfl) ?_;simp;refine CallGoal.same (skip_ok) ?_
 try simp
 refine CallGoal.same (kindP_ok h1) ?_
 try simp
 refine CallGoal.same (node_nil) ?_
 try simp
 refine drawWp.intro [(1,3)] [3] mixed (by kernel_rfl) (by kernel_rfl) (by kernel_rfl) ?_
 try simp
 refine CallGoal.same (typ_ok h2) ?_
 try simp
 refine⟨by simp,by simp,?_⟩
 try simp
 refine CallGoal.same (isW_ok h3) ?_
 try simp
 cases b with
 | false=>
  simp only[Bool.false_eq_true,if_false]at h;simp only[Option.some.injEq,Prod.mk.injEq]at h;obtain⟨rfl,rfl⟩:=h;simp;exact Pp.endE (by simp) (by simp) (by simp) (by simp)
 | true=>
  simp only[if_true]at h;obtain⟨⟨⟨k3,t3,ks3⟩,p3⟩,h3,h⟩:=Option.bind_eq_some_iff.1 h
  try dsimp only at h3 h
  simp only[Option.some.injEq,Prod.mk.injEq]at h;obtain⟨rfl,rfl⟩:=h;simp;refine CallGoal.same (skip_ok) ?_
  try simp
  refine drawWp.intro [(1,3)] [3] mixed (by kernel_rfl) (by kernel_rfl) (by kernel_rfl) ?_
  try simp
  refine CallGoal.same (hE h3) ?_
  try simp
  refine⟨by simp,by simp,?_⟩
  try simp
  exact Pp.endE (by simp) (by simp) (by simp) (by simp)
def constantB (l:List Tok) (E:PS→Option (Nd×PS)) (ps:PS):Option (Nd×PS):=
 (kindP l (skip ps) 1).bind fun p1=>(want l p1 ⟨#[61]⟩).bind fun p2=>(E p2).bind fun r3=>some (.mk 5 (tk p1) [r3.1],r3.2)
theorem constant_ok {W0 nb l E} (hE:HN ⟨Tryz.prog,W0,nb⟩ l 216 E):HN ⟨Tryz.prog,W0,nb⟩ l 199 (constantB l E):=by
 intro ps nd ps' h;unfold constantB at h;obtain⟨p1,h1,h⟩:=Option.bind_eq_some_iff.1 h
 try dsimp only at h1 h
 obtain⟨p2,h2,h⟩:=Option.bind_eq_some_iff.1 h
 try dsimp only at h2 h
 obtain⟨⟨⟨k3,t3,ks3⟩,p3⟩,h3,h⟩:=Option.bind_eq_some_iff.1 h
 try dsimp only at h3 h
 simp only[Option.some.injEq,Prod.mk.injEq]at h;obtain⟨rfl,rfl⟩:=h;refine dcalls_end Tryz.func199 rfl (by kernel_rfl) 19 Tryz.ntmps199 #[.cell 2 26] rfl (Nat.le_of_ble_eq_true rfl) ?_;simp;refine CallGoal.same (skip_ok) ?_
 try simp
 refine CallGoal.same (kindP_ok h1) ?_
 try simp
 refine CallGoal.same (node_nil) ?_
 try simp
 refine CallGoal.same (want_ok h2) ?_
 try simp
 refine drawWp.intro [(1,3)] [3] mixed (by kernel_rfl) (by kernel_rfl) (by kernel_rfl) ?_
 try simp
 refine CallGoal.same (hE h3) ?_
 try simp
 refine⟨by simp,by simp,?_⟩
 try simp
 exact Pp.endE (by simp) (by simp) (by simp) (by simp)
def loopB (l:List Tok) (E B:PS→Option (Nd×PS)) (ps:PS):Option (Nd×PS):=
 (E (skip ps)).bind fun r1=>(B r1.2).bind fun r2=>some (.mk 15 (tk (skip ps)) [r1.1,r2.1],r2.2)
theorem loop_ok {W0 nb l E B} (hE:HN ⟨Tryz.prog,W0,nb⟩ l 216 E) (hB:HN ⟨Tryz.prog,W0,nb⟩ l 219 B):HN ⟨Tryz.prog,W0,nb⟩ l 236 (loopB l E B):=by
 intro ps nd ps' h;unfold loopB at h;obtain⟨⟨⟨k1,t1,ks1⟩,p1⟩,h1,h⟩:=Option.bind_eq_some_iff.1 h
 try dsimp only at h1 h
 obtain⟨⟨⟨k2,t2,ks2⟩,p2⟩,h2,h⟩:=Option.bind_eq_some_iff.1 h
 try dsimp only at h2 h
 simp only[Option.some.injEq,Prod.mk.injEq]at h;obtain⟨rfl,rfl⟩:=h;refine dcalls_end Tryz.func236 rfl (by kernel_rfl) 15 Tryz.ntmps236 #[.cell 2 26] rfl (Nat.le_of_ble_eq_true rfl) ?_;simp;refine CallGoal.same (skip_ok) ?_
 try simp
 refine CallGoal.same (hE h1) ?_
 try simp
 refine drawWp.intro [(1,3)] [1,3] mixed (by kernel_rfl) (by kernel_rfl) (by kernel_rfl) ?_
 try simp
 refine CallGoal.same (hB h2) ?_
 try simp
 refine CallGoal.same (node_own) ?_
 try simp
 refine⟨by simp,by simp,?_⟩
 try simp
 exact Pp.endE (by simp) (by simp) (by simp) (by simp)
def backB (l:List Tok) (E:PS→Option (Nd×PS)) (ps:PS):Option (Nd×PS):=
 (peek l (skip ps) 0).bind fun t=>if t.kind==6 then some (.mk 16 (tk (skip ps)) [],skip ps)else(isW l (skip ps) ⟨#[125]⟩).bind fun b=>
  if b then some (.mk 16 (tk (skip ps)) [],skip ps)else(E (skip ps)).bind fun r3=>some (.mk 16 (tk (skip ps)) [r3.1],r3.2)
theorem back_ok {W0 nb l E} (hE:HN ⟨Tryz.prog,W0,nb⟩ l 216 E):HN ⟨Tryz.prog,W0,nb⟩ l 237 (backB l E):=by
 intro ps nd ps' h;unfold backB at h;obtain⟨t,h1,h⟩:=Option.bind_eq_some_iff.1 h
 try dsimp only at h1 h
 refine dcalls_end Tryz.func237 rfl (by kernel_rfl) 24 Tryz.ntmps237 #[.cell 2 26] rfl (Nat.le_of_ble_eq_true rfl) ?_;simp;refine CallGoal.same (skip_ok) ?_
 try simp
 refine CallGoal.same (node_nil) ?_
 try simp
 refine CallGoal.same (peek_ok h1) ?_
 try simp
 cases h2:t.kind==6 with
 | true=>
  have h2':t.kind=6:=by simpa using h2
  simp only[h2,if_true]at h;simp only[Option.some.injEq,Prod.mk.injEq]at h;obtain⟨rfl,rfl⟩:=h;simp[h2'];exact Pp.endE (by simp) (by simp) (by simp) (by simp)
 | false=>
  have h2':(t.kind !=6)=true:=by simpa using h2
  simp only[h2,Bool.false_eq_true,if_false]at h;obtain⟨b,h3,h⟩:=Option.bind_eq_some_iff.1 h
  try dsimp only at h3 h
  simp[h2'];refine CallGoal.same (isW_ok h3) ?_
  try simp
  cases b with
  | true=>
   simp only[if_true]at h;simp only[Option.some.injEq,Prod.mk.injEq]at h;obtain⟨rfl,rfl⟩:=h
   try simp
   exact Pp.endE (by simp) (by simp) (by simp) (by simp)
  | false=>
   simp only[Bool.false_eq_true,if_false]at h;obtain⟨⟨⟨k3,t3,ks3⟩,p3⟩,h4,h⟩:=Option.bind_eq_some_iff.1 h
   try dsimp only at h4 h
   simp only[Option.some.injEq,Prod.mk.injEq]at h;obtain⟨rfl,rfl⟩:=h;simp;refine drawWp.intro [(1,3)] [3] mixed (by kernel_rfl) (by kernel_rfl) (by kernel_rfl) ?_
   try simp
   refine CallGoal.same (hE h4) ?_
   try simp
   refine⟨by simp,by simp,?_⟩
   try simp
   exact Pp.endE (by simp) (by simp) (by simp) (by simp)
end Pp
end Go.Proofs.Dm
