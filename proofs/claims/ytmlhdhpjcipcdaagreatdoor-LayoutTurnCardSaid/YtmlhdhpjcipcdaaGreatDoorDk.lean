/- Part of the proof: contracts of the functions, walked by the D-machine. No condition. -/
import Derived.Test.YtmlhdhpjcipcdaaGreatDoorDe
import Derived.Orders
import Derived.Deep.LoopGhost
set_option linter.unusedVariables false
set_option linter.unusedSimpArgs false
namespace Go.Proofs.Dm
open Go Go.RowKit
theorem writeBack_keep:∀{hp:List (List DV)} {ids:List Nat} {bs:List (List DV)} {j:Nat},j < hp.length→j∉ids→(writeBack hp ids bs)[j]? =hp[j]? ∧hp.length≤(writeBack hp ids bs).length
 | hp,[],bs,j,h,hn=>by
  have:writeBack hp [] bs=hp ++ bs:=by cases bs <;> rfl
  rw[this];exact⟨List.getElem?_append_left h,by simp⟩
 | hp,i::is,[],j,h,hn=>by simp[writeBack]
 | hp,i::is,b::bs,j,h,hn=>by
  simp only[writeBack];have ih:=writeBack_keep (hp:=hp.set i b) (ids:=is) (bs:=bs) (j:=j) (by simpa using h) (fun q=>hn (by simp[q]));rw[ih.1,List.getElem?_set_ne (fun e=>hn (by simp[e]))];exact⟨rfl,by simpa using ih.2⟩
theorem writeBack_le:∀{hp:List (List DV)} {ids:List Nat} {bs:List (List DV)},hp.length≤(writeBack hp ids bs).length
 | hp,[],bs=>by
  have:writeBack hp [] bs=hp ++ bs:=by cases bs <;> rfl
  rw[this];simp
 | hp,i::is,[]=>by simp[writeBack]
 | hp,i::is,b::bs=>by
  simp only[writeBack];have:=writeBack_le (hp:=hp.set i b) (ids:=is) (bs:=bs);simpa using this
theorem opTo_keeps {C n tk o s s'} (e:opTo C n tk o s s'):Keeps s s' o.dst (goneD tk o s) (wrD C.P tk o s):=by
 unfold opTo at e;split at e
 ·rename_i c hop;split at e
  ·rename_i x hc;have hgd:goneD tk o s=goneL s (looksD o):=by simp[goneD,eatsT,eats,hop,hc]
   rw[hgd];obtain⟨h0,f,cap,ds,sub,args,r,bs',h1,h2,h3,h4,h5,h6,h7,h8⟩:=e;subst h8;have hw:wrD C.P tk o s=reach s.hp (ds ++ cap):=by simp only[wrD,rdD,hop,hc,h1,h2]
   have k:=keeps_put (s:={s.kills (given s c.args.toList)with hp:=writeBack s.hp (reach s.hp (ds ++ cap)) (bs'.map (mapRefs (backId (reach s.hp (ds ++ cap)) s.hp.length bs'.length)))}) (d:=o.dst)
    (v:=mapRef (backId (reach s.hp (ds ++ cap)) s.hp.length bs'.length) r) (gone:=goneL s (looksD o)) (wr:=wrD C.P tk o s)
   refine⟨fun u hu hg=> ?_,fun j hj hwj=> ?_,?_⟩
   ·unfold afterCall;rw[k.tm u hu hg];simp only[St.kills];rw[if_neg];intro q;have q:u∈given s c.args.toList:=by simpa using q
    obtain⟨q1,q2⟩:=given_mem.1 q;exact hg (goneL_mem.2 ⟨mem_looks.2 (by rw[hop];simp only[Op.operands,Call.operands,Array.toList_append,List.mem_append];exact .inr q1),q2⟩)
   ·unfold afterCall;rw[hw]at hwj;have q:=writeBack_keep (bs:=bs'.map (mapRefs (backId (reach s.hp (ds ++ cap)) s.hp.length bs'.length))) hj hwj;have:(({s.kills (given s c.args.toList)with hp:=writeBack s.hp (reach s.hp (ds ++ cap)) (bs'.map (mapRefs (backId (reach s.hp (ds ++ cap)) s.hp.length bs'.length)))}:St).put o.dst (mapRef (backId (reach s.hp (ds ++ cap)) s.hp.length bs'.length) r)).hp=writeBack s.hp (reach s.hp (ds ++ cap)) (bs'.map (mapRefs (backId (reach s.hp (ds ++ cap)) s.hp.length bs'.length))):=by
     cases o.dst <;> rfl
    rw[this];exact q.1
   ·unfold afterCall;have:(({s.kills (given s c.args.toList)with hp:=writeBack s.hp (reach s.hp (ds ++ cap)) (bs'.map (mapRefs (backId (reach s.hp (ds ++ cap)) s.hp.length bs'.length)))}:St).put o.dst (mapRef (backId (reach s.hp (ds ++ cap)) s.hp.length bs'.length) r)).hp=writeBack s.hp (reach s.hp (ds ++ cap)) (bs'.map (mapRefs (backId (reach s.hp (ds ++ cap)) s.hp.length bs'.length))):=by
     cases o.dst <;> rfl
    rw[this];exact writeBack_le
  ·exact stepD_keeps' e
 ·exact stepD_keeps' e
theorem gstep_keeps {C n ops o s s'} (e:gstep C n ops o s s'):Keeps s s' (labD C.P ops o s).dst (labD C.P ops o s).gone (labD C.P ops o s).wr:=by
 obtain⟨g,h1,h2,h3⟩:=e;cases g with
 | true=>
  have hs:skips ops o s=false:=by simp[skips,h1]
  simp only[if_true]at h3;simp only[labD,hs,Bool.false_eq_true,if_false];exact opTo_keeps h3
 | false=>
  have hs:skips ops o s=true:=by simp[skips,h1]
  simp only[Bool.false_eq_true,if_false]at h3;subst h3;simp only[labD,hs,if_true];exact keeps_put
structure Agree (ops:List Oper) (o:Oper) (rd:List Nat) (s t:St):Prop where
 tm:∀u∈looksG ops o,t.tm u=s.tm u
 hp:∀i∈rd,t.hp[i]? =s.hp[i]?
theorem agree_ev {ops o rd s t} (a:Agree ops o rd s t):∀x∈o.op.operands.toList,evalD t x=evalD s x:=by
 intro x hx;cases x with
 | tmp u=>simp only[evalD];rw[a.tm u (by simp only[looksG,List.mem_append];exact .inr (mem_looks.2 hx))]
 | _=>rfl
theorem agree_guard {ops o rd s t} (a:Agree ops o rd s t):guardD ops.toArray o t=guardD ops.toArray o s:=by
 unfold guardD;split
 ·rfl
 ·rename_i j want hg;split
  ·rename_i u hu;rw[a.tm u (by
    simp only[looksG,guardSlot,hg,List.mem_append];left;simp only[List.getElem?_toArray]at hu;rw[hu];simp)]
  ·rfl
theorem argsD_congr {s t:St} {all:List Operand}:∀{xs:List Operand},(∀x∈xs,evalD t x=evalD s x)→argsD t all xs=argsD s all xs
 | [],h=>rfl
 | x::xs,h=>by simp only[argsD,h x (by simp),argsD_congr (xs:=xs) (fun y hy=>h y (by simp[hy]))]
theorem goneL_congr {s t:St}:∀{ts:List Tmp},(∀u∈ts,t.tm u=s.tm u)→goneL t ts=goneL s ts
 | [],h=>rfl
 | x::xs,h=>by simp only[goneL,h x (by simp),goneL_congr (ts:=xs) (fun y hy=>h y (by simp[hy]))]
theorem anyOwn_congr {s t:St}:∀{ts:List Tmp},(∀u∈ts,t.tm u=s.tm u)→anyOwn t ts=anyOwn s ts
 | [],h=>rfl
 | x::xs,h=>by simp only[anyOwn,h x (by simp),anyOwn_congr (ts:=xs) (fun y hy=>h y (by simp[hy]))]
theorem rdD_congr {ops o s t} (a:Agree ops o (rdD o s) s t):rdD o t=rdD o s:=by
 have ev:=agree_ev a;have hp:=a.hp;unfold rdD at hp⊢;split
 ·rename_i ty x hop;rw[ev x (by rw[hop];simp[Op.operands])]
 ·rename_i ty x y hop;rw[ev x (by rw[hop];simp[Op.operands])]
 ·rename_i c hop;split
  ·rename_i x hc;have h1:calleeD t x=calleeD s x:=by simp only[calleeD];rw[ev x (by rw[hop];simp[Op.operands,Call.operands,hc])]
   have h2:argsD t c.args.toList c.args.toList=argsD s c.args.toList c.args.toList:=argsD_congr fun y hy=>ev y (by
    rw[hop];simp only[Op.operands,Call.operands,Array.toList_append,List.mem_append];exact .inr hy)
   rw[h1,h2];rw[hop]at hp;simp only[hc]at hp;split
   ·rename_i f cap ds h3 h4;rw[h3,h4]at hp;exact reach_congr hp
   ·rfl
  ·exact argBoxes_congr fun y hy=>ev y (by rw[hop];simp only[Op.operands,Call.operands,Array.toList_append,List.mem_append];exact .inr hy)
  ·exact argBoxes_congr fun y hy=>ev y (by rw[hop];simp only[Op.operands,Call.operands,Array.toList_append,List.mem_append];exact .inr hy)
  ·exact argBoxes_congr fun y hy=>ev y (by rw[hop];simp only[Op.operands,Call.operands,Array.toList_append,List.mem_append];exact .inr hy)
  ·rfl
 ·rfl
theorem wrD_congr {P ops tk o s t} (a:Agree ops o (rdD o s) s t):wrD P tk o t=wrD P tk o s:=by
 have ev:=agree_ev a;have hr:=rdD_congr a;have hp:=a.hp;unfold wrD;split
 ·rename_i ty x hop;rw[ev x (by rw[hop];simp[Op.operands])];split
  ·rename_i id off h1;rw[hp id (by simp[rdD,hop,h1])]
  ·rfl
 ·exact hr
theorem simpleD_congr {ops o rd s t} {tk:Bool} (a:Agree ops o rd s t):simpleD tk o t=simpleD tk o s:=by
 have:anyOwn t (looksD o)=anyOwn s (looksD o):=anyOwn_congr fun u hu=>a.tm u (by simp only[looksG,List.mem_append];exact .inr hu)
 unfold simpleD;rw[this]
theorem ldD_congr {P ops o rd s t} (a:Agree ops o rd s t):ldD P o t=ldD P o s:=by
 have ev:=agree_ev a;unfold ldD;split
 ·rename_i ty x hop;rw[ev x (by rw[hop];simp[Op.operands])]
 ·rfl
theorem mvD_congr {ops tk o rd s t} (a:Agree ops o rd s t):mvD tk o t=mvD tk o s:=by
 unfold mvD;split
 ·rename_i u hop;rw[a.tm u (by simp only[looksG,List.mem_append];exact .inr (by simp[looksD,hop,Op.operands]))]
 ·rfl
theorem adB_congr {ops o rd s t} (a:Agree ops o rd s t):adB o t=adB o s:=by
 have ev:=agree_ev a;unfold adB;split
 ·rfl
 ·rename_i c hop;split
  ·split
   ·rename_i x y hxy;rw[ev x (by rw[hop];simp[Op.operands,Call.operands,hxy])]
   ·rfl
  ·rfl
 ·rfl
theorem stoB_congr {ops o rd s t} (a:Agree ops o rd s t):stoB o t=stoB o s:=by
 have ev:=agree_ev a;unfold stoB;split
 ·rename_i ty x y hop;rw[ev y (by rw[hop];simp[Op.operands])]
 ·rfl
theorem lab_congr {P ops o s t} (a:Agree ops o (labD P ops o s).rd s t):labD P ops o t=labD P ops o s:=by
 have hg:skips ops o t=skips ops o s:=by simp only[skips,agree_guard a]
 unfold labD at a⊢;rw[hg];split
 ·rfl
 ·rename_i hs;rw[if_neg hs]at a;dsimp only at a;have hgd:goneD (takes ops o) o t=goneD (takes ops o) o s:=by
   simp only[goneD];rw[goneL_congr fun u hu=>a.tm u (by simp only[looksG,List.mem_append];exact .inr hu)]
  rw[rdD_congr a,wrD_congr a,simpleD_congr a,hgd,ldD_congr a,mvD_congr a,adB_congr a,stoB_congr a]
theorem stepD_mu {P n tk o dx v ib s s'} (hl:dx∉looksD o) (hd:o.dst≠some dx) (hr:∀i∈rdD o s,offBox ib i) (hb:∀j b,ib=some (j,b)→j < s.hp.length)
  (e:stepD P n tk o s=some s'):stepD P n tk o (mu dx v ib s)=some (mu dx v ib s'):=by
 have ev:=ev_mu (dx:=dx) (v:=v) (ib:=ib) (s:=s) hl;have ne:∀x∈o.op.operands.toList,x≠ .tmp dx:=fun x hx q=>hl (mem_looks.2 (by rw[←q];exact hx))
 unfold stepD at e⊢;split at e
 ·rename_i h0
  try rw[if_pos h0]
  split at e
  ·rename_i x hop;exact moveD_mu hl hd (by rw[hop];simp[Op.operands]) e
  ·rename_i x hop;exact moveD_mu hl hd (by rw[hop];simp[Op.operands]) e
  ·rename_i t hop;exact allocD_mu hd hb e
  ·rename_i t x hop;exact boxD_mu (ne x (by rw[hop];simp[Op.operands])) hd hb e
  ·rename_i t x hop;exact loadD_mu (ne x (by rw[hop];simp[Op.operands])) hd (fun id off h=>hr id (by simp[rdD,hop,h])) e
  ·rename_i t x y hop;exact storeD_mu (ne x (by rw[hop];simp[Op.operands])) (ne y (by rw[hop];simp[Op.operands])) (fun id off h=>hr id (by simp[rdD,hop,h])) e
  ·rename_i t parts hop;have hp:∀p∈parts.toList,p.2≠ .tmp dx:=fun p hp=>ne p.2 (by rw[hop];simp only[Op.operands,List.toList_toArray,List.mem_map];exact⟨p,hp,rfl⟩)
   refine buildD_mu hp hd (fun pl zc cells ts off h=> ?_) e;rcases stepD_keeps.fillD_owner _ _ _ _ _ _ h with q | ⟨i,q1,q2⟩
   ·cases q
   ·intro q;exact hp _ q1 (by rw[q])
  ·rename_i t len parts hop;exact buildSliceD_mu (fun p hp=>ne p.2 (by rw[hop];simp only[Op.operands,List.toList_toArray,List.mem_map];exact⟨p,hp,rfl⟩)) hd e
  ·rename_i t l c hop;exact makeSliceD_mu (ne l (by rw[hop];simp[Op.operands])) (ne c (by rw[hop];simp[Op.operands])) hd hb e
  ·rename_i c hop;have nec:∀x∈c.args.toList,x≠ .tmp dx:=fun x hx=>ne x (by rw[hop];simp only[Op.operands,Call.operands,Array.toList_append,List.mem_append];exact .inr hx)
   have evc:∀x∈c.args.toList,evalD (mu dx v ib s) x=evalD s x:=fun x hx=>ev x (by rw[hop];simp only[Op.operands,Call.operands,Array.toList_append,List.mem_append];exact .inr hx)
   split at e
   ·rename_i hc
    try simp only[hc]
    rw[needA_congr evc];split at e
    ·rename_i hna;rw[if_pos hna];exact appendA_mu nec hd (fun i hi=>hr i (by simp only[rdD,hop,hc];exact hi)) hb e
    rename_i hna;rw[if_neg hna];exact appendD_mu (fun x hx=>ne x (by rw[hop];simp only[Op.operands,Call.operands,Array.toList_append,List.mem_append];exact .inr hx)) hd e
   ·rename_i hc
    try simp only[hc]
    exact copyD_mu nec hd (fun i hi=>hr i (by simp only[rdD,hop,hc];exact hi)) e
   ·rename_i hc
    try simp only[hc]
    exact clearD_mu nec hd (fun i hi=>hr i (by simp only[rdD,hop,hc];exact hi)) e
   ·rename_i hc;obtain⟨d,h1,h2⟩:=Option.map_eq_some_iff.1 e;subst h2;have:callD P (evalD (mu dx v ib s)) c=callD P (evalD s) c:=callD_congr fun x hx=>ev x (by rw[hop];simpa only[Op.operands]using hx)
    rw[this,h1];simp only[Option.map_some,put_mu hd]
  ·obtain⟨d,h1,h2⟩:=Option.map_eq_some_iff.1 e;subst h2;have:pureD P (evalD (mu dx v ib s)) o.op=pureD P (evalD s) o.op:=pureD_congr ev;rw[this,h1];simp only[Option.map_some,put_mu hd]
 ·cases e
theorem gstep_mu {C n ops o dx v ib s s'} (hl:dx∉looksG ops o) (hd:o.dst≠some dx) (hr:∀i∈(labD C.P ops o s).rd,offBox ib i) (hb:∀j b,ib=some (j,b)→j < s.hp.length)
  (e:gstep C n ops o s s'):gstep C n ops o (mu dx v ib s) (mu dx v ib s'):=by
 have hl':dx∉looksD o:=fun q=>hl (by simp only[looksG,List.mem_append];exact .inr q)
 obtain⟨g,h1,h2,h3⟩:=e;have hg:guardD ops.toArray o (mu dx v ib s)=guardD ops.toArray o s:=by
  refine agree_guard (rd:= []) (s:=s) ⟨fun u hu=>tm_mu (fun q=>hl (by rw[←q];exact hu)),by simp⟩
 refine⟨g,by rw[hg];exact h1,h2,?_⟩;cases g with
 | false=>
  simp only[Bool.false_eq_true,if_false]at h3⊢;subst h3;exact(put_mu hd).symm
 | true=>
  have hs:skips ops o s=false:=by simp[skips,h1]
  simp only[labD,hs,Bool.false_eq_true,if_false]at hr;simp only[if_true]at h3⊢;unfold opTo at h3⊢;split at h3
  ·rename_i c hop;split at h3
   ·rename_i x hc;have ne:∀y∈o.op.operands.toList,y≠ .tmp dx:=fun y hy q=>hl' (mem_looks.2 (by rw[←q];exact hy))
    refine callTo_mu (ne x (by rw[hop];simp[Op.operands,Call.operands,hc])) (fun y hy=>ne y (by rw[hop];simp only[Op.operands,Call.operands,Array.toList_append,List.mem_append];exact .inr hy)) hd hb ?_ h3;intro f cap ds k1 k2 i hi;exact hr i (by simp only[rdD,hop,hc,k1,k2];exact hi)
   ·exact stepD_mu hl' hd hr hb h3
  ·exact stepD_mu hl' hd hr hb h3
end Go.Proofs.Dm
namespace Go.Proofs.Dm
open Go Go.RowKit
theorem fillD_congr {s t:St} {pl:List (Nat×Nat)}:∀{parts:List (Nat×Operand)} {cells k},(∀p∈parts,evalD t p.2=evalD s p.2)→fillD t pl parts cells k=fillD s pl parts cells k
 | [],cells,k,h=>rfl
 |(i,x)::rest,cells,k,h=>by
  simp only[fillD,h (i,x) (by simp)];have ih:=fun c k=>fillD_congr (s:=s) (t:=t) (pl:=pl) (parts:=rest) (cells:=c) (k:=k) (fun p hp=>h p (by simp[hp]))
  simp only[ih]
theorem rowsD_congr {P:Program} {s t:St} {e z}:∀{parts:List (Nat×Operand)} {k},(∀p∈parts,evalD t p.2=evalD s p.2)→rowsD P t e z k parts=rowsD P s e z k parts
 | [],k,h=>rfl
 |(i,x)::rest,k,h=>by
  simp only[rowsD,h (i,x) (by simp),rowsD_congr (parts:=rest) (fun p hp=>h p (by simp[hp]))]
theorem stepD_simple {P:Program} {n:Nat} {tk:Bool} {o:Oper} {s s1:St} {dx:Nat} (e:stepD P n tk o s=some s1) (hs:simpleD tk o s=true) (hdx:o.dst=some dx):
  ∃v ib,s1=mu dx v ib s∧(∀j b,ib=some (j,b)→j∈wrD P tk o s∧j < s.hp.length)∧(∀i∈rdD o s,i < s.hp.length)∧
   ∀t:St,(∀x∈o.op.operands.toList,evalD t x=evalD s x)→(∀i∈rdD o s,t.hp[i]? =s.hp[i]?)→stepD P n tk o t=some (mu dx v ib t):=by
 have done : ∀ v, rdD o s = [] → s1 = s.put o.dst v → (∀ t : St, (∀ x ∈ o.op.operands.toList, evalD t x = evalD s x) → stepD P n tk o t = some (t.put o.dst v)) →
     ∃v ib,s1=mu dx v ib s∧(∀j b,ib=some (j,b)→j∈wrD P tk o s∧j < s.hp.length)∧(∀i∈rdD o s,i < s.hp.length)∧
     ∀t:St,(∀x∈o.op.operands.toList,evalD t x=evalD s x)→(∀i∈rdD o s,t.hp[i]? =s.hp[i]?)→stepD P n tk o t=some (mu dx v ib t):=by
   intro v hrd h1 h2
   refine⟨v,none,by rw[h1,hdx];rfl,fun j b h=>(by cases h),by rw[hrd];simp,fun t ht _=> ?_⟩
   rw[h2 t ht,hdx];rfl
 have e0:=e;unfold stepD at e;split at e
 ·rename_i hdst
  have mv : ∀ tk' x, x ∈ o.op.operands.toList → rdD o s = [] → (tk' = false ∨ anyOwn s (looksD o) = false) → (∀ t : St, stepD P n tk o t = moveD P tk' o x t) → moveD P tk' o x s = some s1 →
      ∃v ib,s1=mu dx v ib s∧(∀j b,ib=some (j,b)→j∈wrD P tk o s∧j < s.hp.length)∧(∀i∈rdD o s,i < s.hp.length)∧
      ∀t:St,(∀x∈o.op.operands.toList,evalD t x=evalD s x)→(∀i∈rdD o s,t.hp[i]? =s.hp[i]?)→stepD P n tk o t=some (mu dx v ib t):=by
    intro tk' x hx hrd hno hst e
    unfold moveD at e
    split at e
    · rename_i u
      have hut:∀t:St,(∀x∈o.op.operands.toList,evalD t x=evalD s x)→t.tm u=s.tm u:=fun t ht=>by have:=ht _ hx;simpa only[evalD,Option.some.injEq]using this
      cases hu:hasOwn (s.tm u)with
      | false=>
        rw[hu]at e
        simp only[Bool.false_eq_true,if_false,Option.some.injEq]at e
        refine done _ hrd e.symm fun t ht=> ?_
        rw[hst t]
        simp only[moveD,hut t ht,hu,Bool.false_eq_true,if_false]
      | true=>
        have htk:tk'=false:=by
          rcases hno with q | q
          · exact q
          · have:=anyOwn_false q u (mem_looks.2 hx)
            rw[hu]at this;cases this
        subst htk
        rw[hu]at e
        simp only[Bool.false_eq_true,if_false,if_true,Option.some.injEq]at e
        refine done _ hrd e.symm fun t ht=> ?_
        rw[hst t]
        simp only[moveD,hut t ht,hu,Bool.false_eq_true,if_false,if_true]
    · rename_i hnt
      split at e
      · rename_i d hev
        injection e with e
        refine done _ hrd e.symm fun t ht=> ?_
        rw[hst t]
        have:=ht x hx
        unfold moveD
        split
        · rename_i u;exact absurd rfl (hnt u)
        · rw[this,hev]
      · cases e
  split at e
  ·rename_i x hop;exact mv tk x (by rw[hop];simp[Op.operands]) (by simp[rdD,hop]) (by cases tk <;> simp_all [simpleD]) (fun t=>by simp[stepD,hdst,hop]) e
  ·rename_i x hop;exact mv true x (by rw[hop];simp[Op.operands]) (by simp[rdD,hop]) (.inr (by simpa [simpleD,hop]using hs)) (fun t=>by simp[stepD,hdst,hop]) e
  ·rename_i t hop;simp[simpleD,hop]at hs
  ·rename_i t x hop;simp[simpleD,hop]at hs
  ·rename_i ty x hop;have hxm:x∈o.op.operands.toList:=by rw[hop];simp[Op.operands]
   have hst:∀t:St,stepD P n tk o t=loadD P tk o ty x t:=fun t=>by simp[stepD,hdst,hop]
   unfold loadD at e;split at e
   ·rename_i z g h1 h2;split at e
    ·rename_i id off h3;have hrd:rdD o s= [id]:=by simp[rdD,hop,h3]
     split at e
     ·rename_i box h4;have hlt:id < s.hp.length:=(List.getElem?_eq_some_iff.1 h4).1;split at e
      ·rename_i h5;split at e
       ·rename_i h6;split at e
        ·rename_i d u h7 h8;injection e with e
         rw[hdx]at h7;injection h7 with h7;subst h7
         refine⟨u,some (id,_),e.symm,fun j b h=> ?_,by rw[hrd];simpa using hlt,fun t ht hh=> ?_⟩
         ·injection h with h;injection h with h _;subst h
          exact⟨by simp only[wrD,hop,h3,h1,h4];rw[if_pos h6];simp,hlt⟩
         ·rw[hst t];have q1:=ht x hxm;have q2:=hh id (by rw[hrd];simp);simp only[loadD,h1,h2,q1,h3,q2,h4,if_pos h5,if_pos h6,hdx,h8];rfl
        ·cases e
       ·rename_i h6;obtain⟨u,h7,h8⟩:=Option.map_eq_some_iff.1 e;refine⟨u,none,by rw[←h8,hdx];rfl,fun j b h=>(by cases h),by rw[hrd];simpa using hlt,fun t ht hh=> ?_⟩;rw[hst t];have q1:=ht x hxm;have q2:=hh id (by rw[hrd];simp);simp only[loadD,h1,h2,q1,h3,q2,h4,if_pos h5,if_neg h6,h7,Option.map_some,hdx];rfl
      ·cases e
     ·cases e
    ·rename_i cs h3;split at e
     ·rename_i h5;obtain⟨u,h7,h8⟩:=Option.map_eq_some_iff.1 e;refine done u (by simp[rdD,hop,h3]) h8.symm fun t ht=> ?_
      rw[hst t];have q1:=ht x hxm;simp only[loadD,h1,h2,q1,h3,if_pos h5,h7,Option.map_some]
     ·cases e
    ·cases e
   ·cases e
  ·rename_i t x y hop;simp[simpleD,hop]at hs
  ·rename_i ty parts hop;have hno:anyOwn s (looksD o)=false:=by simpa [simpleD,hop]using hs
   have hpm:∀p∈parts.toList,p.2∈o.op.operands.toList:=fun p hp=>by rw[hop];simp only[Op.operands,List.toList_toArray,List.mem_map];exact⟨p,hp,rfl⟩
   unfold buildD at e;split at e
   ·rename_i d pl zc h1 h2 h3;split at e
    ·rename_i cells h4;injection e with e
     rw[←h1]at e;refine done _ (by simp[rdD,hop]) e.symm fun t ht=> ?_
     have hst:stepD P n tk o t=buildD P o ty parts.toList t:=by simp[stepD,hdst,hop]
     rw[hst];simp only[buildD,h1,h2,h3,fillD_congr (s:=s) (t:=t) (fun p hp=>ht p.2 (hpm p hp)),h4]
    ·rename_i cells ts off h4;rcases stepD_keeps.fillD_owner _ _ _ _ _ _ h4 with q | ⟨i,q1,q2⟩
     ·cases q
     ·rw[anyOwn_false hno ts (mem_looks.2 (hpm _ q1))]at q2;cases q2
    ·cases e
   ·cases e
  ·rename_i ty len parts hop;have hpm:∀p∈parts.toList,p.2∈o.op.operands.toList:=fun p hp=>by rw[hop];simp only[Op.operands,List.toList_toArray,List.mem_map];exact⟨p,hp,rfl⟩
   unfold buildSliceD at e;split at e
   ·rename_i el d h1 h2;split at e
    ·rename_i z zv h3 h4;split at e
     ·rename_i rows h5;split at e
      ·rename_i h6;injection e with e
       rw[←h2]at e;refine done _ (by simp[rdD,hop]) e.symm fun t ht=> ?_
       have hst:stepD P n tk o t=buildSliceD P o ty len parts.toList t:=by simp[stepD,hdst,hop]
       rw[hst];simp only[buildSliceD,h1,h2,h3,h4,rowsD_congr (s:=s) (t:=t) (fun p hp=>ht p.2 (hpm p hp)),h5,if_pos h6]
      ·cases e
     ·cases e
    ·cases e
   ·cases e
  ·rename_i t l c hop;simp[simpleD,hop]at hs
  ·rename_i c hop;split at e
   ·rename_i hc;simp[simpleD,hop,hc]at hs
   ·rename_i hc;simp[simpleD,hop,hc]at hs
   ·rename_i hc;simp[simpleD,hop,hc]at hs
   ·rename_i hc hc2 hc3;obtain⟨d,h2,h3⟩:=Option.map_eq_some_iff.1 e;have hrd:rdD o s= []:=by
     simp only[rdD,hop];cases hx:c.callee with
     | value x=>simp[simpleD,hop,hx]at hs
     | builtin b=>cases b <;> first | rfl | exact absurd hx hc | exact absurd hx hc2 | exact absurd hx hc3
     | _=>rfl
    refine done d hrd h3.symm fun t ht=> ?_
    have hst:stepD P n tk o t=(callD P (evalD t) c).map (t.put o.dst):=by
     simp only[stepD,hdst,if_true,hop]
    rw[hst,callD_congr (ev':=evalD s) (fun x hx=>ht x (by rw[hop];simpa only[Op.operands]using hx)),h2];rfl
  ·rename_i n1 n2 n3 n4 n5 n6 n7 n8 n9 n10;obtain⟨d,h2,h3⟩:=Option.map_eq_some_iff.1 e;have hrd:rdD o s= []:=by
    simp only[rdD]
   refine done d hrd h3.symm fun t ht=> ?_
   have hst:stepD P n tk o t=(pureD P (evalD t) o.op).map (t.put o.dst):=by
    simp only[stepD,hdst,if_true]
   rw[hst,pureD_congr (ev':=evalD s) ht,h2];rfl
 ·cases e
theorem simple_loc {C n ops o s s1} (e:gstep C n ops o s s1) (hs:(labD C.P ops o s).simple=true):
  ∃dx v ib,o.dst=some dx∧s1=mu dx v ib s∧(∀j b,ib=some (j,b)→j∈(labD C.P ops o s).wr∧j < s.hp.length)∧(∀i∈(labD C.P ops o s).rd,i < s.hp.length)∧
   ∀t,Agree ops o (labD C.P ops o s).rd s t→gstep C n ops o t (mu dx v ib t):=by
 obtain⟨g,h1,h2,h3⟩:=e;cases g with
 | false=>
  have hsk:skips ops o s=true:=by simp[skips,h1]
  simp only[labD,hsk,if_true]at hs⊢;simp only[Bool.false_eq_true,if_false]at h3;obtain⟨dx,hdx⟩:=Option.isSome_iff_exists.1 hs;refine⟨dx,.ud,none,hdx,by rw[h3,hdx];rfl,fun j b h=>(by cases h),by simp,fun t ha=>⟨false,by rw[agree_guard ha];exact h1,h2,?_⟩⟩;simp only[Bool.false_eq_true,if_false,hdx];rfl
 | true=>
  have hsk:skips ops o s=false:=by simp[skips,h1]
  simp only[labD,hsk,Bool.false_eq_true,if_false,Bool.and_eq_true]at hs⊢;simp only[if_true]at h3;obtain⟨hd,hsd⟩:=hs;obtain⟨dx,hdx⟩:=Option.isSome_iff_exists.1 hd;have hstep:stepD C.P n (takes ops o) o s=some s1:=by
   unfold opTo at h3;split at h3
   ·rename_i c hop;split at h3
    ·rename_i x hc;simp[simpleD,hop,hc]at hsd
    ·exact h3
   ·exact h3
  obtain⟨v,ib,q1,q2,q3,q4⟩:=stepD_simple hstep hsd hdx;refine⟨dx,v,ib,hdx,q1,q2,q3,fun t ha=>⟨true,by rw[agree_guard ha];exact h1,h2,?_⟩⟩;simp only[if_true];have:=q4 t (agree_ev ha) ha.hp;unfold opTo;split
  ·rename_i c hop;split
   ·rename_i x hc;simp[simpleD,hop,hc]at hsd
   ·exact this
  ·exact this
def disj (a b:List Nat):Bool:=a.all fun x=> !(b.contains x)
theorem disj_spec {a b:List Nat} (h:disj a b=true):∀x∈a,x∉b:=by
 intro x hx hb;have:=List.all_eq_true.1 h x hx;simp[hb]at this
def dstL:Option Tmp→List Nat
 | none=> []
 | some d=> [d]
def compatO (a b:Lab):Bool:=
 (a.simple || b.simple)&&disj (dstL a.dst) (b.looks ++ dstL b.dst)&&disj (dstL b.dst) a.looks&&disj a.gone b.looks&&disj b.gone a.looks&&disj a.wr b.rd&&disj b.wr a.rd
theorem lab_dst {P ops o s}:(labD P ops o s).dst=o.dst:=by unfold labD;split <;> rfl
theorem lab_looks {P ops o s}:(labD P ops o s).looks=looksG ops o:=by unfold labD;split <;> rfl
theorem goneD_sub {tk:Bool} {o s}:∀u∈goneD tk o s,u∈looksD o:=by
 intro u hu;unfold goneD at hu;split at hu
 ·exact(goneL_mem.1 hu).1
 ·cases hu
theorem lab_gone {P ops o s}:∀u∈(labD P ops o s).gone,u∈looksG ops o:=by
 intro u hu;unfold labD at hu;split at hu
 ·cases hu
 ·simp only[looksG,List.mem_append];exact .inr (goneD_sub u hu)
theorem lab_wr {P ops o s}:∀u∈(labD P ops o s).wr,u∈(labD P ops o s).rd:=by
 intro u hu;unfold labD at hu⊢;split at hu
 ·cases hu
 ·rename_i h;rw[if_neg h];dsimp only at hu⊢;unfold wrD at hu;split at hu
  ·rename_i t x hop;split at hu
   ·rename_i id off hx;have:rdD o s= [id]:=by simp[rdD,hop,hx]
    rw[this];split at hu
    ·split at hu
     ·exact hu
     ·cases hu
    ·cases hu
   ·cases hu
  ·exact hu
theorem setO_back {hp:List (List DV)} {j:Nat} {b c:List DV} (hj:hp[j]? =some c):(hp.set j b).set j c=hp:=by
 rw[List.set_set];obtain⟨h1,h2⟩:=List.getElem?_eq_some_iff.1 hj;subst h2;exact List.set_getElem_self h1
theorem set_same {hp:List (List DV)} {j:Nat} {b:List DV} (hj:hp[j]? =some b):hp.set j b=hp:=by
 obtain⟨h1,h2⟩:=List.getElem?_eq_some_iff.1 hj;subst h2;exact List.set_getElem_self h1
theorem swapO {C n ops x y s s1 s2} (h1:gstep C n ops x s s1) (h2:gstep C n ops y s1 s2) (hc:compatO (labD C.P ops x s) (labD C.P ops y s1)=true)
  (hL:(labD C.P ops y s1).simple=true→∀i∈(labD C.P ops y s1).rd,i < s.hp.length):
  ∃s1',gstep C n ops y s s1'∧gstep C n ops x s1' s2∧labD C.P ops y s=labD C.P ops y s1∧labD C.P ops x s1'=labD C.P ops x s:=by
 simp only[compatO,Bool.and_eq_true,Bool.or_eq_true]at hc;obtain⟨⟨⟨⟨⟨⟨hsimp,hd1⟩,hd2⟩,hg1⟩,hg2⟩,hw1⟩,hw2⟩:=hc;have d1:=disj_spec hd1;have d2:=disj_spec hd2;have g1:=disj_spec hg1;have g2:=disj_spec hg2;have w1:=disj_spec hw1;have w2:=disj_spec hw2;rw[lab_dst,lab_dst,lab_looks]at d1;rw[lab_dst,lab_looks]at d2;rw[lab_looks]at g1 g2
 by_cases hx:(labD C.P ops x s).simple=true
 ·
  obtain⟨dx,v,ib,hdx,q1,q2,q3,q4⟩:=simple_loc h1 hx;have hxy:dx∉looksG ops y:=fun q=>d1 dx (by rw[hdx];simp[dstL]) (by simp[q])
  have hxd:y.dst≠some dx:=fun q=>d1 dx (by rw[hdx];simp[dstL]) (by rw[q];simp[dstL])
  have k2:=gstep_keeps h2;rw[lab_dst]at k2;subst q1
  let ib0:Option (Nat×List DV):=ib.bind fun p=>(s.hp[p.1]?).map fun c=>(p.1,c)
  have hib0:∀j c,ib0=some (j,c)→s.hp[j]? =some c∧∃b,ib=some (j,b):=by
   intro j c h;cases ib with
   | none=>simp[ib0]at h
   | some p=>
    obtain⟨j',b⟩:=p;simp only[ib0,Option.bind_some,Option.map_eq_some_iff]at h;obtain⟨c',h3,h4⟩:=h;injection h4 with h4 h5;subst h4;subst h5
    exact⟨h3,b,rfl⟩
  have hback:mu dx (s.tm dx) ib0 (mu dx v ib s)=s:=by
   have e1:upd (upd s.tm dx v) dx (s.tm dx)=s.tm:=by
    funext i
    by_cases h:i=dx
    ·subst h;simp[upd]
    ·simp[upd,h]
   have e2:setO (setO s.hp ib) ib0=s.hp:=by
    cases ib with
    | none=>rfl
    | some p=>
     obtain⟨j,b⟩:=p;have hj:=(q2 j b rfl).2;have:ib0=some (j,s.hp[j]):=by simp only[ib0,Option.bind_some,List.getElem?_eq_getElem hj,Option.map_some]
     rw[this];simp only[setO];exact setO_back (List.getElem?_eq_getElem hj)
   simp only[mu,e1,e2]
  have hoff0:∀i∈(labD C.P ops y (mu dx v ib s)).rd,offBox ib0 i:=by
   intro i hi j c hjc e;obtain⟨_,b,hb⟩:=hib0 j c hjc;exact w1 j (q2 j b hb).1 (by rw[e];exact hi)
  have hlen1:(mu dx v ib s).hp.length=s.hp.length:=by rw[hp_mu,setO_len]
  have hm:=gstep_mu (v:=s.tm dx) (ib:=ib0) hxy hxd hoff0 (fun j c hjc=>by
   obtain⟨h3,_⟩:=hib0 j c hjc;rw[hlen1];exact(List.getElem?_eq_some_iff.1 h3).1) h2
  rw[hback]at hm;have hly:labD C.P ops y s=labD C.P ops y (mu dx v ib s):=by
   refine lab_congr ⟨fun u hu=> ?_,fun i hi=> ?_⟩
   ·rw[tm_mu (fun e=>hxy (by rw[←e];exact hu))]
   ·rw[hp_mu,setO_get];intro j b hb e;exact w1 j (q2 j b hb).1 (by rw[e];exact hi)
  have hag:Agree ops x (labD C.P ops x s).rd s (mu dx (s.tm dx) ib0 s2):=by
   refine⟨fun u hu=> ?_,fun i hi=> ?_⟩
   ·by_cases hud:u=dx
    ·subst hud;simp[mu,upd]
    ·rw[tm_mu hud,k2.tm u (fun e=>d2 u (by rw[e];simp[dstL]) hu) (fun q=>g2 u q hu),tm_mu hud]
   ·have hilt:=q3 i hi;rw[hp_mu]
    by_cases hij:∃c,ib0=some (i,c)
    ·obtain⟨c,hc⟩:=hij;obtain⟨h3,_⟩:=hib0 i c hc;rw[hc];simp only[setO];have:i < s2.hp.length:=Nat.lt_of_lt_of_le (by rw[hlen1];exact hilt) k2.len;rw[List.getElem?_set_self this,h3]
    ·rw[setO_get (fun j c hjc e=>hij ⟨c,by rw[←e];exact hjc⟩),k2.hp i (by rw[hlen1];exact hilt) (fun q=>w2 i q hi),hp_mu,setO_get];intro j b hb e;subst e;exact hij ⟨s.hp[j],by
      simp only[ib0,hb,Option.bind_some,List.getElem?_eq_getElem hilt,Option.map_some]⟩
  refine⟨mu dx (s.tm dx) ib0 s2,hm,?_,hly,lab_congr hag⟩;have:=q4 _ hag;have hfwd:mu dx v ib (mu dx (s.tm dx) ib0 s2)=s2:=by
   have hv:s2.tm dx=v:=by
    rw[k2.tm dx (fun e=>hxd e) (fun q=>hxy (lab_gone dx q))];simp[mu,upd]
   have e1:upd (upd s2.tm dx (s.tm dx)) dx v=s2.tm:=by
    funext i
    by_cases h:i=dx
    ·subst h;simp[upd,hv]
    ·simp[upd,h]
   have e2:setO (setO s2.hp ib0) ib=s2.hp:=by
    cases ib with
    | none=>rfl
    | some p=>
     obtain⟨j,b⟩:=p;have hj:=(q2 j b rfl).2;have:ib0=some (j,s.hp[j]):=by simp only[ib0,Option.bind_some,List.getElem?_eq_getElem hj,Option.map_some]
     rw[this];simp only[setO];rw[List.set_set];apply set_same;rw[k2.hp j (by rw[hlen1];exact hj) (fun q=>w2 j q (lab_wr j (q2 j b rfl).1)),hp_mu];simp only[setO];exact List.getElem?_set_self hj
   simp only[mu,e1,e2]
  rw[hfwd]at this;exact this
 ·
  have hy:(labD C.P ops y s1).simple=true:=by
   rcases hsimp with h | h
   ·exact absurd h hx
   ·exact h
  obtain⟨dx,v,ib,hdx,q1,q2,q3,q4⟩:=simple_loc h2 hy;have hrd:=hL hy;have k1:=gstep_keeps h1;rw[lab_dst]at k1;have hxy:dx∉looksG ops x:=d2 dx (by rw[hdx];simp[dstL]);have hxd:x.dst≠some dx:=fun q=>d1 dx (by rw[q];simp[dstL]) (by rw[hdx];simp[dstL])
  have hag:Agree ops y (labD C.P ops y s1).rd s1 s:=by
   refine⟨fun u hu=> ?_,fun i hi=> ?_⟩
   ·exact(k1.tm u (fun e=>d1 u (by rw[e];simp[dstL]) (by simp[hu])) (fun q=>g1 u q hu)).symm
   ·exact(k1.hp i (hrd i hi) (fun q=>w1 i q hi)).symm
  have hm:=gstep_mu (v:=v) (ib:=ib) hxy hxd (fun i hi j b hb e=>w2 j (q2 j b hb).1 (by rw[e];exact hi)) (fun j b hb=>hrd j (lab_wr j (q2 j b hb).1)) h1;refine⟨mu dx v ib s,q4 s hag,by rw[q1];exact hm,lab_congr hag,?_⟩;refine lab_congr ⟨fun u hu=>tm_mu (fun e=>hxy (by rw[←e];exact hu)),fun i hi=> ?_⟩;rw[hp_mu,setO_get];intro j b hb e;exact w2 j (q2 j b hb).1 (by rw[e];exact hi)
def ldOK:Option (Nat×Nat×Nat)→Option (Nat×Nat×Nat)→Bool
 | some (i,p,z),some (j,q,y)=>i==j&&(decide (p + z≤q)|| decide (q + y≤p))
 | _,_=>false
def cutB (b:List DV) (off:Nat) (M:List DV):List DV:=b.take off ++ M ++ b.drop (off + M.length)
theorem cutB_len {b:List DV} {off:Nat} {M:List DV} (h:off + M.length≤b.length):(cutB b off M).length=b.length:=by
 simp[cutB];omega
theorem cutB_get {b:List DV} {off:Nat} {M:List DV} (h:off + M.length≤b.length) (i:Nat):(cutB b off M)[i]? =if off≤i∧i < off + M.length then M[i - off]? else b[i]? :=by
 have h1:(b.take off).length=off:=by simp;omega
 unfold cutB;rw[List.append_assoc,List.getElem?_append,h1]
 by_cases q1:i < off
 ·rw[if_pos q1,if_neg (by omega),List.getElem?_take,if_pos q1]
 ·rw[if_neg q1,List.getElem?_append]
  by_cases q2:i - off < M.length
  ·rw[if_pos q2,if_pos (by omega)]
  ·rw[if_neg q2,if_neg (by omega),List.getElem?_drop]
   congr 1;omega
theorem cutB_part {b:List DV} {off:Nat} {M:List DV} (h:off + M.length≤b.length) {q y:Nat} (hd:off + M.length≤q∨q + y≤off):((cutB b off M).drop q).take y=(b.drop q).take y:=by
 apply List.ext_getElem?;intro i;rw[List.getElem?_take,List.getElem?_take];split
 ·rename_i hi;rw[List.getElem?_drop,List.getElem?_drop,cutB_get h,if_neg (by omega)]
 ·rfl
theorem cutB_comm {b:List DV} {p q:Nat} {M N:List DV} (h1:p + M.length≤b.length) (h2:q + N.length≤b.length) (hd:p + M.length≤q∨q + N.length≤p):cutB (cutB b p M) q N=cutB (cutB b q N) p M:=by
 apply List.ext_getElem?;intro i;rw[cutB_get (by rw[cutB_len h1];exact h2),cutB_get h1,cutB_get (by rw[cutB_len h2];exact h1),cutB_get h2]
 by_cases a:p≤i∧i < p + M.length
 ·rw[if_neg (show ¬(q≤i∧i < q + N.length)by omega),if_pos a,if_pos a]
 ·simp only[if_neg a]
theorem cutB_same {b:List DV} {off z:Nat} (h:off + z≤b.length):cutB b off ((b.drop off).take z)=b:=by
 have hl:((b.drop off).take z).length=z:=by simp;omega
 apply List.ext_getElem?;intro i;rw[cutB_get (by omega),hl];split
 ·rename_i q;rw[List.getElem?_take,if_pos (by omega),List.getElem?_drop]
  congr 1;omega
 ·rfl
theorem load_loc {C n ops o s s1 id off z} (e:gstep C n ops o s s1) (hl:(labD C.P ops o s).ld=some (id,off,z)):
  ∃v box M,s.hp[id]? =some box∧off + z≤box.length∧M.length=z∧s1={s.put o.dst v with hp:=s.hp.set id (cutB box off M)}∧
   ∀(t:St) (bx:List DV),(∀u∈looksG ops o,t.tm u=s.tm u)→t.hp[id]? =some bx→bx.length=box.length→(bx.drop off).take z=(box.drop off).take z→
    gstep C n ops o t {t.put o.dst v with hp:=t.hp.set id (cutB bx off M)}∧labD C.P ops o t=labD C.P ops o s:=by
 have hns:skips ops o s=false:=by
  cases h:skips ops o s with
  | false=>rfl
  | true=>simp[labD,h]at hl
 simp only[labD,hns,Bool.false_eq_true,if_false]at hl;unfold ldD at hl;split at hl
 ·rename_i ty x hop;split at hl
  ·rename_i id' off' z' hev hz;injection hl with hl
   injection hl with q1 hl
   injection hl with q2 q3
   subst q1;subst q2;subst q3;obtain⟨g,h1,h2,h3⟩:=e;have hg:g=true:=by
    cases g with
    | true=>rfl
    | false=>simp[skips,h1]at hns
   subst hg;have hstep:stepD C.P n (takes ops o) o s=some s1:=by
    simp only[if_true]at h3;unfold opTo at h3;rw[hop]at h3;exact h3
   unfold stepD at hstep;rw[if_pos h2]at hstep;rw[hop]at hstep;dsimp only at hstep;have core:∀(t:St) (bx:List DV),(∀u∈looksG ops o,t.tm u=s.tm u)→t.hp[id']? =some bx→∀t',loadD C.P (takes ops o) o ty x t=some t'→gstep C n ops o t t':=by
    intro t bx ht hbx t' hld;have ag:Agree ops o [] s t:=⟨ht,fun i hi=>by cases hi⟩
    refine⟨true,by rw[agree_guard ag];exact h1,h2,?_⟩;simp only[if_true];unfold opTo;rw[hop];dsimp only;unfold stepD;rw[if_pos h2,hop];exact hld
   have evt:∀(t:St),(∀u∈looksG ops o,t.tm u=s.tm u)→evalD t x=some (.ref id' off'):=by
    intro t ht;have ag:Agree ops o [] s t:=⟨ht,fun i hi=>by cases hi⟩
    rw[agree_ev ag x (by rw[hop];simp[Op.operands]),hev]
   have labt:∀(t:St) (bx box:List DV),(∀u∈looksG ops o,t.tm u=s.tm u)→t.hp[id']? =some bx→s.hp[id']? =some box→(bx.drop off').take z'=(box.drop off').take z'→labD C.P ops o t=labD C.P ops o s:=by
    intro t bx box ht hbx hbox hpart;have ag:Agree ops o [] s t:=⟨ht,fun i hi=>by cases hi⟩
    have hsk:skips ops o t=false:=by rw[←hns];simp only[skips,agree_guard ag]
    unfold labD;rw[hsk,hns];simp only[Bool.false_eq_true,if_false];have e1:goneD (takes ops o) o t=goneD (takes ops o) o s:=by
     simp only[goneD];rw[goneL_congr fun u hu=>ht u (by simp only[looksG,List.mem_append];exact .inr hu)]
    have e2:rdD o t=rdD o s:=by simp only[rdD,hop,evt t ht,hev]
    have e3:wrD C.P (takes ops o) o t=wrD C.P (takes ops o) o s:=by
     simp only[wrD,hop,evt t ht,hev,hz,hbx,hbox,hpart]
    have e4:simpleD (takes ops o) o t=simpleD (takes ops o) o s:=by simp only[simpleD,hop]
    rw[e1,e2,e3,e4,ldD_congr ag,mvD_congr ag,adB_congr ag,stoB_congr ag]
   have hstep0:=hstep;unfold loadD at hstep;rw[hz,hev]at hstep;split at hstep
   ·rename_i z2 g2 hz2 hg2;injection hz2 with hz2;subst hz2
    dsimp only at hstep;split at hstep
    ·rename_i box hbox;split at hstep
     ·rename_i hlen;split at hstep
      ·rename_i htk;split at hstep
       ·rename_i d v hd hv;injection hstep with hstep
        have hml:(((box.drop off').take z').map deown).length=z':=by simp;omega
        refine⟨v,box,((box.drop off').take z').map deown,hbox,hlen.1,hml,?_,fun t bx ht hbx hln hpart=>⟨?_,labt t bx box ht hbx hbox hpart⟩⟩
        ·rw[←hstep,hd];simp only[cutB,hml]
        ·refine core t bx ht hbx _ ?_;unfold loadD;rw[hz,hg2,evt t ht,hd];dsimp only;rw[hbx];dsimp only;rw[if_pos ⟨by omega,fun q=>hlen.2 (List.eq_nil_of_length_eq_zero (by rw[←hln,q];rfl))⟩,hpart,if_pos htk,hv];simp only[cutB,hml]
       ·cases hstep
      ·rename_i htk;obtain⟨v,hv,hs1⟩:=Option.map_eq_some_iff.1 hstep;have hml:((box.drop off').take z').length=z':=by simp;omega
       refine⟨v,box,(box.drop off').take z',hbox,hlen.1,hml,?_,fun t bx ht hbx hln hpart=>⟨?_,labt t bx box ht hbx hbox hpart⟩⟩
       ·rw[cutB_same hlen.1,set_same hbox,←hs1];cases o.dst <;> rfl
       ·rw[←hpart,cutB_same (by omega),set_same hbx];have:({t.put o.dst v with hp:=t.hp}:St)=t.put o.dst v:=by cases o.dst <;> rfl
        rw[this];refine core t bx ht hbx _ ?_;unfold loadD;rw[hz,hg2,evt t ht];dsimp only;rw[hbx];dsimp only;rw[if_pos ⟨by omega,fun q=>hlen.2 (List.eq_nil_of_length_eq_zero (by rw[←hln,q];rfl))⟩,hpart,if_neg htk,hv];rfl
     ·cases hstep
    ·cases hstep
   ·cases hstep
  ·cases hl
 ·cases hl
theorem put_tm_ne {s:St} {d:Option Tmp} {v:DV} {u:Tmp} (h:d≠some u):(s.put d v).tm u=s.tm u:=by
 cases d with
 | none=>rfl
 | some d=>
  have:u≠d:=fun e=>h (by rw[e])
  simp[St.put,this]
theorem put_hp {s:St} {d:Option Tmp} {v:DV}:(s.put d v).hp=s.hp:=by cases d <;> rfl
theorem swapL {C n ops x y s s1 s2} (h1:gstep C n ops x s s1) (h2:gstep C n ops y s1 s2) (hd1:disj (dstL x.dst) (looksG ops y ++ dstL y.dst)=true) (hd2:disj (dstL y.dst) (looksG ops x)=true)
  (hl:ldOK (labD C.P ops x s).ld (labD C.P ops y s1).ld=true):
  ∃s1',gstep C n ops y s s1'∧gstep C n ops x s1' s2∧labD C.P ops y s=labD C.P ops y s1∧labD C.P ops x s1'=labD C.P ops x s:=by
 have d1:=disj_spec hd1;have d2:=disj_spec hd2;unfold ldOK at hl;split at hl
 ·rename_i i p z j q y' hx hy;simp only[Bool.and_eq_true,beq_iff_eq,Bool.or_eq_true,decide_eq_true_eq]at hl;obtain⟨rfl,hl⟩:=hl;obtain⟨v,box,M,b1,b2,b3,rfl,b5⟩:=load_loc h1 hx;have hsame:=cutB_len (b:=box) (off:=p) (M:=M) (by omega);have hlt:i < s.hp.length:=(List.getElem?_eq_some_iff.1 b1).1;obtain⟨u,box2,N,c1,c2,c3,rfl,c5⟩:=load_loc h2 hy;have hb2:box2=cutB box p M:=by
   have:(s.hp.set i (cutB box p M))[i]? =some (cutB box p M):=by simp[hlt]
   rw[this]at c1;injection c1 with c1;exact c1.symm
  subst hb2;have hlen2:q + N.length≤box.length:=by omega
  have hlen1:p + M.length≤box.length:=by omega
  have hdis:p + M.length≤q∨q + N.length≤p:=by omega
  have hxs:∀w∈looksG ops y,x.dst≠some w:=fun w hw e=>d1 w (by rw[e];simp[dstL]) (by simp[hw])
  have hys:∀w∈looksG ops x,y.dst≠some w:=fun w hw e=>d2 w (by rw[e];simp[dstL]) hw
  have hyd:∀a b:Tmp,x.dst=some a→y.dst=some b→a≠b:=fun a b ea eb e=>d1 a (by rw[ea];simp[dstL]) (by rw[eb];simp[dstL,e])
  obtain⟨k1,k2⟩:=c5 s box (fun w hw=>(put_tm_ne (hxs w hw)).symm) b1 (by omega) (cutB_part hlen1 (by omega)).symm;obtain⟨l1,l2⟩:=b5 {s.put y.dst u with hp:=s.hp.set i (cutB box q N)} (cutB box q N) (fun w hw=>put_tm_ne (hys w hw)) (by simp[hlt]) (cutB_len hlen2) (cutB_part hlen2 (by omega));refine⟨_,k1,?_,k2,l2⟩
  have e : ({ ({ s.put y.dst u with hp := s.hp.set i (cutB box q N) } : St).put x.dst v with hp := (s.hp.set i (cutB box q N)).set i (cutB (cutB box q N) p M) } : St) =
      {({s.put x.dst v with hp:=s.hp.set i (cutB box p M)}:St).put y.dst u with hp:=(s.hp.set i (cutB box p M)).set i (cutB (cutB box p M) q N)}:=by
    rw[List.set_set,List.set_set,cutB_comm hlen1 hlen2 hdis]
    congr 1
    cases hxd:x.dst with
    | none=>cases hyd':y.dst <;> rfl
    | some a=>cases hyd':y.dst with
      | none=>rfl
      | some b=>
        have:=hyd a b hxd hyd'
        simp only[St.put,St.mk.injEq,and_true]
        funext k
        by_cases e1:k=a
        · subst e1;simp[this]
        · by_cases e2:k=b
          · subst e2;simp[e1]
          · simp[e1,e2]
  rw[e]at l1;exact l1
 ·cases hl
theorem mv_loc {C n ops o s s1} (e:gstep C n ops o s s1) (hm:(labD C.P ops o s).mv=true):
  ∃t d,o.dst=some d∧t∈looksG ops o∧t∈(labD C.P ops o s).gone∧d≠t∧(labD C.P ops o s).rd= []∧s1=mu d (s.tm t) none (mu t .un none s)∧
   ∀s',Agree ops o [] s s'→gstep C n ops o s' (mu d (s.tm t) none (mu t .un none s')):=by
 obtain⟨g,h1,h2,h3⟩:=e;cases g with
 | false=>
  have hsk:skips ops o s=true:=by simp[skips,h1]
  simp[labD,hsk]at hm
 | true=>
  have hsk:skips ops o s=false:=by simp[skips,h1]
  simp only[labD,hsk,Bool.false_eq_true,if_false]at hm⊢;simp only[if_true]at h3;unfold mvD at hm;split at hm
  ·rename_i t hop;simp only[Bool.and_eq_true]at hm;obtain⟨⟨htk,hown⟩,hd⟩:=hm;split at hd
   ·rename_i d hdst;have hdt:d≠t:=by simpa using hd
    have htl:t∈looksD o:=by simp[looksD,hop,Op.operands]
    have hst:∀s',hasOwn (s'.tm t)=true→stepD C.P n (takes ops o) o s'=if dstOk n o.dst then some ((s'.put (some t) .un).put (some d) (s'.tm t))else none:=by
     intro s' ho;simp only[stepD,hop,moveD,ho,if_true,htk,hdst]
    have hto:∀s',opTo C n (takes ops o) o s'=fun s2=>stepD C.P n (takes ops o) o s'=some s2:=by
     intro s'
     funext s2
     simp only[opTo,hop]
    rw[hto]at h3;rw[hst s hown,if_pos h2]at h3;injection h3 with h3
    refine⟨t,d,hdst,by simp only[looksG,List.mem_append];exact .inr htl,?_,hdt,by simp only[rdD,hop],h3.symm,fun s' ha=>⟨true,by rw[agree_guard ha];exact h1,h2,?_⟩⟩
    ·have he:eatsT (takes ops o) o=true:=by simp[eatsT,hop,htk]
     simp only[goneD,he,if_true];exact goneL_mem.2 ⟨htl,hown⟩
    ·have htm:s'.tm t=s.tm t:=ha.tm t (by simp only[looksG,List.mem_append];exact .inr htl);simp only[if_true];rw[hto];rw[hst s' (by rw[htm];exact hown),if_pos h2,htm];rfl
   ·cases hd
  ·cases hm
theorem mu2_tm {d t:Nat} {a b:DV} {s:St} {u:Nat} (h1:u≠d) (h2:u≠t):(mu d a none (mu t b none s)).tm u=s.tm u:=by
 rw[tm_mu h1,tm_mu h2]
theorem swapM1 {C n ops x y s s1 s2} (h1:gstep C n ops x s s1) (h2:gstep C n ops y s1 s2) (hm:(labD C.P ops x s).mv=true)
  (hd1:disj (dstL x.dst) (looksG ops y ++ dstL y.dst)=true) (hd2:disj (dstL y.dst) (looksG ops x)=true)
  (hg1:disj (labD C.P ops x s).gone (looksG ops y)=true) (hg2:disj (labD C.P ops y s1).gone (looksG ops x)=true):
  ∃s1',gstep C n ops y s s1'∧gstep C n ops x s1' s2∧labD C.P ops y s=labD C.P ops y s1∧labD C.P ops x s1'=labD C.P ops x s:=by
 have d1:=disj_spec hd1;have d2:=disj_spec hd2;have g1:=disj_spec hg1;have g2:=disj_spec hg2;obtain⟨t,d,hdx,htl,htg,hdt,hrd,rfl,hx⟩:=mv_loc h1 hm;have k2:=gstep_keeps h2;rw[lab_dst]at k2;have ht_y:t∉looksG ops y:=g1 t htg;have hd_y:d∉looksG ops y:=fun q=>d1 d (by rw[hdx];simp[dstL]) (by simp[q])
 have hyd:y.dst≠some d:=fun q=>d1 d (by rw[hdx];simp[dstL]) (by rw[q];simp[dstL])
 have hyt:y.dst≠some t:=fun q=>d2 t (by rw[q];simp[dstL]) htl
 have hback:mu t (s.tm t) none (mu d (s.tm d) none (mu d (s.tm t) none (mu t .un none s)))=s:=by
  simp only[mu,setO]
  congr 1
  funext i
  by_cases e1:i=t
  ·subst e1;simp[upd]
  ·by_cases e2:i=d
   ·subst e2;simp[upd,e1]
   ·simp[upd,e1,e2]
 have hm1:=gstep_mu (v:=s.tm d) (ib:=none) hd_y hyd (fun i _=>(fun j c h=>by cases h)) (fun j b h=>by cases h) h2;have hm2:=gstep_mu (v:=s.tm t) (ib:=none) ht_y hyt (fun i _=>(fun j c h=>by cases h)) (fun j b h=>by cases h) hm1;rw[hback]at hm2;have hst:s2.tm t= .un:=by
  rw[k2.tm t hyt (fun q=>ht_y (lab_gone t q)),tm_mu (fun e=>hdt e.symm)];simp[mu,upd]
 have hsd:s2.tm d=s.tm t:=by
  rw[k2.tm d hyd (fun q=>hd_y (lab_gone d q))];simp[mu,upd]
 have hag:Agree ops x [] s (mu t (s.tm t) none (mu d (s.tm d) none s2)):=by
  refine⟨fun u hu=> ?_,fun i hi=>by cases hi⟩
  by_cases e1:u=t
  ·subst e1;simp[mu,upd]
  ·by_cases e2:u=d
   ·subst e2;simp[mu,upd,e1]
   ·rw[mu2_tm e1 e2,k2.tm u (fun q=>d2 u (by rw[q];simp[dstL]) hu) (fun q=>g2 u q hu),mu2_tm e2 e1]
 refine⟨_,hm2,?_,?_,?_⟩
 ·have:=hx _ hag;have e:mu d (s.tm t) none (mu t .un none (mu t (s.tm t) none (mu d (s.tm d) none s2)))=s2:=by
   simp only[mu,setO];cases s2 with
   | mk tm hp=>
    simp only at hst hsd⊢
    congr 1
    funext i
    by_cases e1:i=d
    ·subst e1;simp[upd,hsd]
    ·by_cases e2:i=t
     ·subst e2;simp[upd,e1,hst]
     ·simp[upd,e1,e2]
  rw[e]at this;exact this
 ·refine lab_congr ⟨fun u hu=> ?_,fun i hi=>rfl⟩;rw[mu2_tm (fun e=>hd_y (by rw[←e];exact hu)) (fun e=>ht_y (by rw[←e];exact hu))]
 ·exact lab_congr (by rw[hrd];exact hag)
theorem swapM2 {C n ops x y s s1 s2} (h1:gstep C n ops x s s1) (h2:gstep C n ops y s1 s2) (hm:(labD C.P ops y s1).mv=true)
  (hd1:disj (dstL x.dst) (looksG ops y ++ dstL y.dst)=true) (hd2:disj (dstL y.dst) (looksG ops x)=true)
  (hg1:disj (labD C.P ops x s).gone (looksG ops y)=true) (hg2:disj (labD C.P ops y s1).gone (looksG ops x)=true):
  ∃s1',gstep C n ops y s s1'∧gstep C n ops x s1' s2∧labD C.P ops y s=labD C.P ops y s1∧labD C.P ops x s1'=labD C.P ops x s:=by
 have d1:=disj_spec hd1;have d2:=disj_spec hd2;have g1:=disj_spec hg1;have g2:=disj_spec hg2;obtain⟨t,d,hdy,htl,htg,hdt,hrd,rfl,hy⟩:=mv_loc h2 hm;have k1:=gstep_keeps h1;rw[lab_dst]at k1;have ht_x:t∉looksG ops x:=g2 t htg;have hd_x:d∉looksG ops x:=d2 d (by rw[hdy];simp[dstL]);have hxd:x.dst≠some d:=fun q=>d1 d (by rw[q];simp[dstL]) (by rw[hdy];simp[dstL])
 have hxt:x.dst≠some t:=fun q=>d1 t (by rw[q];simp[dstL]) (by simp[htl])
 have hag:Agree ops y [] s1 s:=⟨fun u hu=>(k1.tm u (fun q=>d1 u (by rw[q];simp[dstL]) (by simp[hu])) (fun q=>g1 u q hu)).symm,fun i hi=>by cases hi⟩
 have hm1:=gstep_mu (v:= .un) (ib:=none) ht_x hxt (fun i _=>(fun j c h=>by cases h)) (fun j b h=>by cases h) h1;have hm2:=gstep_mu (v:=s1.tm t) (ib:=none) hd_x hxd (fun i _=>(fun j c h=>by cases h)) (fun j b h=>by cases h) hm1;refine⟨_,hy _ hag,hm2,?_,?_⟩
 ·exact lab_congr (by rw[hrd];exact hag)
 ·refine lab_congr ⟨fun u hu=> ?_,fun i hi=>rfl⟩;rw[mu2_tm (fun e=>hd_x (by rw[←e];exact hu)) (fun e=>ht_x (by rw[←e];exact hu))]
def compatDyn (a b:Lab):Bool:=((a.simple || b.simple)&&disj a.gone b.looks&&disj b.gone a.looks&&disj a.wr b.rd&&disj b.wr a.rd)|| ldOK a.ld b.ld ||((a.mv || b.mv)&&disj a.gone b.looks&&disj b.gone a.looks)
def compat (a b:Lab):Bool:=disj (dstL a.dst) (b.looks ++ dstL b.dst)&&disj (dstL b.dst) a.looks&&compatDyn a b
theorem compat_of_old {a b:Lab} (h:compatO a b=true):compat a b=true:=by
 simp only[compatO,compat,compatDyn,Bool.and_eq_true,Bool.or_eq_true]at h⊢;obtain⟨⟨⟨⟨⟨⟨p1,p2⟩,p3⟩,p4⟩,p5⟩,p6⟩,p7⟩:=h;exact⟨⟨p2,p3⟩,.inl (.inl ⟨⟨⟨⟨p1,p4⟩,p5⟩,p6⟩,p7⟩)⟩
theorem swap {C n ops x y s s1 s2} (h1:gstep C n ops x s s1) (h2:gstep C n ops y s1 s2) (hc:compat (labD C.P ops x s) (labD C.P ops y s1)=true)
  (hL:(labD C.P ops y s1).simple=true→∀i∈(labD C.P ops y s1).rd,i < s.hp.length):
  ∃s1',gstep C n ops y s s1'∧gstep C n ops x s1' s2∧labD C.P ops y s=labD C.P ops y s1∧labD C.P ops x s1'=labD C.P ops x s:=by
 simp only[compat,compatDyn,Bool.and_eq_true,Bool.or_eq_true]at hc;obtain⟨⟨p2,p3⟩,hc⟩:=hc;rcases hc with (⟨⟨⟨⟨p1,p4⟩,p5⟩,p6⟩,p7⟩ | hc)| ⟨⟨p1,p4⟩,p5⟩
 ·refine swapO h1 h2 ?_ hL;simp only[compatO,Bool.and_eq_true,Bool.or_eq_true];exact⟨⟨⟨⟨⟨⟨p1,p2⟩,p3⟩,p4⟩,p5⟩,p6⟩,p7⟩
 ·rw[lab_dst,lab_dst,lab_looks]at p2;rw[lab_dst,lab_looks]at p3;exact swapL h1 h2 p2 p3 hc
 ·rw[lab_dst,lab_dst,lab_looks]at p2;rw[lab_dst,lab_looks]at p3;rw[lab_looks]at p4 p5;rcases p1 with p1 | p1
  ·exact swapM1 h1 h2 p1 p2 p3 p4 p5
  ·exact swapM2 h1 h2 p1 p2 p3 p4 p5
end Go.Proofs.Dm
namespace Go.Proofs.Dm
open Go Go.RowKit
def eff (own? :Option Tmp) (old? :Option Nat) (d:Tmp) (v:Nat→DV) (c:List DV) (s:St):St:=
 {((s.put own? .un).put (some d) (v s.hp.length))with hp:=killB s.hp old? ++ [c]}
theorem srcC_congr {z:Nat} {s t:St} {y:Operand} (h1:evalD t y=evalD s y) (h2:∀id off z' n,evalD s y=some (.arr id off z' n)→t.hp[id]? =s.hp[id]?):srcC z t y=srcC z s y:=by
 unfold srcC;rw[h1];cases hv:evalD s y with
 | none=>rfl
 | some dv=>cases dv <;> first | rfl |(dsimp only;rw[h2 _ _ _ _ hv])
theorem appendB_eff {e z by_:Nat} {d:Tmp} {x y:Operand} {s s':St} (ha:(∃e' z',evalD s x=some (.mt e' z'))∨∃id off z' n,evalD s x=some (.arr id off z' n)) (q:appendB e z by_ d x y s=some s'):
  ∃own? old? v c,s'=eff own? old? d v c s∧(∀t,own? =some t→x= .tmp t∧hasOwn (s.tm t)=true)∧(∀i,old? =some i→(∃off z n,evalD s x=some (.arr i off z n))∧i < s.hp.length)∧
   ∀t:St,evalD t x=evalD s x→evalD t y=evalD s y→(∀id off z n,(evalD s x=some (.arr id off z n)∨evalD s y=some (.arr id off z n))→t.hp[id]? =s.hp[id]?)→appendB e z by_ d x y t=some (eff own? old? d v c t):=by
 have key:∀t:St,evalD t y=evalD s y→(∀id off z n,(evalD s x=some (.arr id off z n)∨evalD s y=some (.arr id off z n))→t.hp[id]? =s.hp[id]?)→srcC z t y=srcC z s y:=
  fun t h1 h2=>srcC_congr h1 fun id off z' n h=>h2 id off z' n (.inr h)
 rcases ha with ⟨e',z',hx⟩ | ⟨id,off,z',n,hx⟩
 ·unfold appendB at q;rw[hx]at q;cases hs:srcC z s y with
  | none=>rw[hs]at q;cases q
  | some sm=>
   obtain⟨src,m⟩:=sm;rw[hs]at q;dsimp only at q;cases x with
   | tmp ts=>
    dsimp only at q;split at q
    ·rename_i hc;injection q with q;subst q
     refine⟨some ts,none,fun len=> .arr len 0 z m,src,rfl,fun t ht=> ?_,fun i hi=>by (cases hi),fun t h1 h2 h3=> ?_⟩
     ·injection ht with ht;subst ht
      simp only[evalD,Option.some.injEq]at hx;exact⟨rfl,by rw[hx];rfl⟩
     ·unfold appendB;rw[h1,hx,key t h2 h3,hs];dsimp only;rw[if_pos hc];rfl
    ·cases q
   | _=>cases q
 ·unfold appendB at q;rw[hx]at q;cases hs:srcC z s y with
  | none=>rw[hs]at q;cases q
  | some sm=>
   obtain⟨src,m⟩:=sm;rw[hs]at q;dsimp only at q;cases hb:s.hp[id]? with
   | none=>rw[hb]at q;cases q
   | some box=>
    rw[hb]at q;dsimp only at q;split at q
    ·rename_i hc;injection q with q;subst q
     refine⟨none,some id,fun len=> .arr len 0 z (n + m),box ++ src,rfl,fun t ht=>by (cases ht),fun i hi=> ?_,fun t h1 h2 h3=> ?_⟩
     ·injection hi with hi;subst hi
      exact⟨⟨off,z',n,hx⟩,(List.getElem?_eq_some_iff.1 hb).1⟩
     ·unfold appendB;rw[h1,hx,key t h2 h3,hs];dsimp only;rw[h3 id off z' n (.inl hx),hb];dsimp only;rw[if_pos hc];rfl
    ·cases q
theorem add_eff {P:Program} {n:Nat} {tk:Bool} {o:Oper} {s s':St} (e:stepD P n tk o s=some s') (ha:adB o s=true):
  ∃own? old? d v c,o.dst=some d∧s'=eff own? old? d v c s∧(∀t,own? =some t→t∈goneD tk o s)∧(∀i,old? =some i→i∈wrD P tk o s∧i < s.hp.length)∧
   ∀t:St,(∀x∈o.op.operands.toList,evalD t x=evalD s x)→(∀i∈rdD o s,t.hp[i]? =s.hp[i]?)→stepD P n tk o t=some (eff own? old? d v c t):=by
 unfold adB at ha;unfold stepD at e;split at e
 ·rename_i h0;split at ha
  ·rename_i ty hop;simp only[hop]at e;unfold allocD at e;split at e
   ·rename_i d box hd hz;injection e with e;subst e
    refine⟨none,none,d,fun len=> .ref len 0,box,hd,rfl,fun t ht=>by (cases ht),fun i hi=>by (cases hi),fun t h1 h2=> ?_⟩;unfold stepD;rw[if_pos h0];simp only[hop];unfold allocD;rw[hd,hz];rfl
   ·cases e
  ·rename_i c hop;split at ha
   ·rename_i hcal;split at ha
    ·rename_i x y hxy;simp only[hop,hcal]at e;have hbase:(∃e' z',evalD s x=some (.mt e' z'))∨∃id off z' n,evalD s x=some (.arr id off z' n):=by
      split at ha
      ·rename_i e' z' h;exact .inl ⟨_,_,h⟩
      ·rename_i a b c d h;exact .inr ⟨_,_,_,_,h⟩
      ·cases ha
     have hna:needA P s c=true:=by
      unfold needA;rw[hxy];rcases hbase with ⟨_,_,h⟩ | ⟨_,_,_,_,h⟩ <;> simp[h]
     rw[if_pos hna]at e;have hmx:x∈o.op.operands.toList:=by rw[hop];simp[Op.operands,Call.operands,hxy]
     have hmy:y∈o.op.operands.toList:=by rw[hop];simp[Op.operands,Call.operands,hxy]
     have hrd:rdD o s=argBoxes s [x,y]:=by simp only[rdD,hop,hcal,hxy]
     unfold appendA at e;rw[hxy]at e;split at e
     ·rename_i x' y' t0 t' d h1 h2 h3;simp only[List.cons.injEq,and_true]at h1;obtain⟨rfl,rfl⟩:=h1;split at e
      ·rename_i el h4;split at e
       ·rename_i z by_ zv h5 h6 h7;split at e
        ·rename_i h8;obtain⟨own?,old?,v,cc,q1,q2,q3,q4⟩:=appendB_eff hbase e;refine⟨own?,old?,d,v,cc,h3,q1,fun t ht=> ?_,fun i hi=> ?_,fun t k1 k2=> ?_⟩
         ·obtain⟨r1,r2⟩:=q2 t ht;have hea:eatsT tk o=true:=by simp[eatsT,eats,hop,hcal]
          simp only[goneD,hea,if_true];refine goneL_mem.2 ⟨mem_looks.2 ?_,r2⟩;rw[←r1];exact hmx
         ·obtain⟨⟨off,z2,n2,r1⟩,r2⟩:=q3 i hi;refine⟨?_,r2⟩;have:wrD P tk o s=rdD o s:=by simp only[wrD,hop]
          rw[this,hrd];exact argBoxes_mem (by simp) r1
         ·have hev1:=k1 x hmx;have hev2:=k1 y hmy;have hb:∀id off z n,(evalD s x=some (.arr id off z n)∨evalD s y=some (.arr id off z n))→t.hp[id]? =s.hp[id]? :=by
           intro id off z n h;refine k2 id ?_;rw[hrd];rcases h with h | h
           ·exact argBoxes_mem (by simp) h
           ·exact argBoxes_mem (by simp) h
          have hna':needA P t c=true:=by
           rw[needA_congr (P:=P) (s:=s) (t:=t) (c:=c) (fun w hw=>k1 w (by rw[hop];simp only[Op.operands,Call.operands,Array.toList_append,List.mem_append];exact .inr hw))];exact hna
          unfold stepD;rw[if_pos h0];simp only[hop,hcal];rw[if_pos hna'];unfold appendA;rw[hxy,h2,h3];dsimp only;rw[h4];dsimp only;rw[h5,h6,h7];dsimp only;rw[if_pos h8];exact q4 t hev1 hev2 hb
        ·cases e
       ·cases e
      ·cases e
     ·cases e
    ·cases ha
   ·cases ha
  ·cases ha
 ·cases e
theorem writeBack_len0:∀{hp:List (List DV)} {ids:List Nat} {bs:List (List DV)},(writeBack hp ids bs).length=hp.length +(bs.length - ids.length)
 | hp,[],bs=>by cases bs <;> simp[writeBack]
 | hp,i::is,[]=>by simp[writeBack]
 | hp,i::is,b::bs=>by simp only[writeBack];rw[writeBack_len0];simp
theorem writeBack_app {c:List DV}:∀{hp:List (List DV)} {ids:List Nat} {bs:List (List DV)},(∀i∈ids,i < hp.length)→bs.length≤ids.length→writeBack (hp ++ [c]) ids bs=writeBack hp ids bs ++ [c]
 | hp,[],bs,h,hl=>by
  have:bs= []:=List.eq_nil_of_length_eq_zero (by simpa using hl);subst this;simp[writeBack]
 | hp,i::is,[],h,hl=>by simp[writeBack]
 | hp,i::is,b::bs,h,hl=>by
  simp only[writeBack];rw[List.set_append_left _ _ (h i (by simp)),writeBack_app (fun j hj=>by simpa using h j (by simp[hj])) (by simpa using hl)]
theorem writeBack_kill {o:Option Nat}:∀{hp:List (List DV)} {ids:List Nat} {bs:List (List DV)},(∀i,o=some i→i∉ids)→bs.length≤ids.length→writeBack (killB hp o) ids bs=killB (writeBack hp ids bs) o
 | hp,[],bs,h,hl=>by
  have:bs= []:=List.eq_nil_of_length_eq_zero (by simpa using hl);subst this;simp[writeBack]
 | hp,i::is,[],h,hl=>by simp[writeBack]
 | hp,i::is,b::bs,h,hl=>by
  simp only[writeBack];have:(killB hp o).set i b=killB (hp.set i b) o:=by
   cases o with
   | none=>rfl
   | some j=>
    have hne:j≠i:=fun q=>h j rfl (by simp[q])
    simp only[killB];exact List.set_comm _ _ hne
  rw[this,writeBack_kill (fun j hj=>fun q=>h j hj (by simp[q])) (by simpa using hl)]
theorem killB_len {hp:List (List DV)} {o:Option Nat}:(killB hp o).length=hp.length:=by cases o <;> simp[killB]
theorem killB_get {hp:List (List DV)} {o:Option Nat} {i:Nat} (h:∀j,o=some j→j≠i):(killB hp o)[i]? =hp[i]? :=by
 cases o with
 | none=>rfl
 | some j=>simp only[killB];exact List.getElem?_set_ne (h j rfl)
theorem given_congr {s t:St}:∀{xs:List Operand},(∀u,.tmp u∈xs→t.tm u=s.tm u)→given t xs=given s xs
 | [],h=>rfl
 | x::xs,h=>by
  have ih:=given_congr (s:=s) (t:=t) (xs:=xs) (fun u hu=>h u (by simp[hu]));cases x with
  | tmp u=>simp only[given,h u (by simp),ih]
  | _=>simp only[given,ih]
theorem eff_tm {own? old? d v c} {s:St} {u:Nat} (h1:u≠d) (h2:∀t,own? =some t→t≠u):(eff own? old? d v c s).tm u=s.tm u:=by
 have:((s.put own? .un).put (some d) (v s.hp.length)).tm u=s.tm u:=by
  rw[put_tm_ne (by intro q;injection q with q;exact h1 q.symm),put_tm_ne (by intro q;exact h2 u q rfl)]
 exact this
theorem eff_hp {own? old? d v c} {s:St}:(eff own? old? d v c s).hp=killB s.hp old? ++ [c]:=rfl
theorem eff_get {own? old? d v c} {s:St} {i:Nat} (h1:i < s.hp.length) (h2:∀j,old? =some j→j≠i):(eff own? old? d v c s).hp[i]? =s.hp[i]? :=by
 rw[eff_hp,List.getElem?_append_left (by rw[killB_len];exact h1),killB_get h2]
theorem eff_at {own? old? d v c} {s:St} {u:Nat}:(eff own? old? d v c s).tm u=if u=d then v s.hp.length else if own? =some u then .un else s.tm u:=by
 cases own? with
 | none=>simp[eff,St.put]
 | some t=>
  simp only[eff,St.put]
  by_cases h:u=d
  ·simp[h]
  ·by_cases h2:u=t
   ·subst h2;simp[h]
   ·have:¬(t=u):=fun q=>h2 q.symm
    simp[h,h2,this]
theorem kills_put_at {s:St} {G:List Tmp} {hp:List (List DV)} {dst:Option Tmp} {v:DV} {u:Nat}:(({s.kills G with hp:=hp}:St).put dst v).tm u=if dst=some u then v else if u∈G then .un else s.tm u:=by
 cases dst with
 | none=>simp[St.put,St.kills]
 | some d=>
  simp only[St.put,St.kills]
  by_cases h:u=d
  ·subst h;simp
  ·have:¬(d=u):=fun q=>h q.symm
   simp[h,this]
theorem reach_lt {hp:List (List DV)} {ids:List Nat} {sub:List (List DV)} (h:subHp hp ids=some sub):∀i∈ids,i < hp.length:=by
 intro i hi;obtain⟨_,hs⟩:=subHp_spec h;obtain⟨j,hj⟩:=List.mem_iff_getElem?.1 hi;obtain⟨b,q1,_⟩:=hs j i hj;exact(List.getElem?_eq_some_iff.1 q1).1
theorem callTo_eff {C n o} {c:Call} {x:Operand} {s s1:St} {own? old? d v cc} (hop:o.op= .call c) (hcal:c.callee= .value x) (e:callTo C n o c x s s1) (hlen:s1.hp.length=s.hp.length)
  (hdx:o.dst≠some d) (hox:∀t,own? =some t→o.dst≠some t∧t∉looksD o) (hdl:d∉looksD o) (hold:∀i,old? =some i→i∉rdD o s):
  callTo C n o c x (eff own? old? d v cc s) (eff own? old? d v cc s1):=by
 obtain⟨hd,f,cap,ds,sub,args,r,bs',h1,h2,h3,h4,h5,h6,h7,h8⟩:=e;have hsl:∀u∈looksD o,(eff own? old? d v cc s).tm u=s.tm u:=fun u hu=>eff_tm (fun q=>hdl (by rw[←q];exact hu)) (fun t ht q=>(hox t ht).2 (by rw[q];exact hu))
 have hev:∀y∈o.op.operands.toList,evalD (eff own? old? d v cc s) y=evalD s y:=by
  intro y hy;cases y with
  | tmp u=>simp only[evalD];rw[hsl u (mem_looks.2 hy)]
  | _=>rfl
 have hmx:x∈o.op.operands.toList:=by rw[hop];simp[Op.operands,Call.operands,hcal]
 have hma:∀y∈c.args.toList,y∈o.op.operands.toList:=fun y hy=>by rw[hop];simp only[Op.operands,Call.operands,Array.toList_append,List.mem_append];exact .inr hy
 have hrd:rdD o s=reach s.hp (ds ++ cap):=by simp only[rdD,hop,hcal,h1,h2]
 have hlt:=reach_lt h3;rw[hrd]at hold;have hget:∀i∈reach s.hp (ds ++ cap),(eff own? old? d v cc s).hp[i]? =s.hp[i]? :=fun i hi=>eff_get (hlt i hi) (fun j hj q=>hold j hj (by rw[q];exact hi))
 have hreach:reach (eff own? old? d v cc s).hp (ds ++ cap)=reach s.hp (ds ++ cap):=reach_congr hget;have hbl:bs'.length≤(reach s.hp (ds ++ cap)).length:=by
  have hl1:s1.hp.length=s.hp.length +(bs'.length -(reach s.hp (ds ++ cap)).length):=by
   rw[h8];unfold afterCall;rw[put_hp];dsimp only;rw[writeBack_len0];simp
  omega
 have hbk:∀k,backId (reach s.hp (ds ++ cap)) k bs'.length=backId (reach s.hp (ds ++ cap)) 0 bs'.length:=by
  intro k
  funext j
  unfold backId;split
  ·rfl
  ·rename_i hj;have:=List.getElem?_eq_none_iff.1 hj;rw[if_neg (by omega),if_neg (by omega)]
 have hgiven:given (eff own? old? d v cc s) c.args.toList=given s c.args.toList:=given_congr fun u hu=>hsl u (mem_looks.2 (hma _ hu))
 refine⟨hd,f,cap,ds,sub,args,r,bs',?_,?_,?_,?_,?_,?_,?_,?_⟩
 ·simp only[calleeD]at h1⊢;rw[hev x hmx];exact h1
 ·rw[argsD_congr fun y hy=>hev y (hma y hy)];exact h2
 ·rw[hreach,subHp_congr hget];exact h3
 ·rw[hreach,boxRefs_congr hget];exact h4
 ·rw[hreach];exact h5
 ·rw[hreach];exact h6
 ·rw[hreach];exact h7
 ·rw[hreach,hgiven,h8];unfold afterCall;rw[hbk s.hp.length,hbk (eff own? old? d v cc s).hp.length];have hl2:(({s.kills (given s c.args.toList)with hp:=writeBack s.hp (reach s.hp (ds ++ cap)) (bs'.map (mapRefs (backId (reach s.hp (ds ++ cap)) 0 bs'.length)))}:St).put o.dst (mapRef (backId (reach s.hp (ds ++ cap)) 0 bs'.length) r)).hp=writeBack s.hp (reach s.hp (ds ++ cap)) (bs'.map (mapRefs (backId (reach s.hp (ds ++ cap)) 0 bs'.length))):=by rw[put_hp]
  have hl3:(writeBack s.hp (reach s.hp (ds ++ cap)) (bs'.map (mapRefs (backId (reach s.hp (ds ++ cap)) 0 bs'.length)))).length=s.hp.length:=by rw[writeBack_len0];simp;omega
  have hwb : writeBack (killB s.hp old? ++ [cc]) (reach s.hp (ds ++ cap)) (bs'.map (mapRefs (backId (reach s.hp (ds ++ cap)) 0 bs'.length))) =
      killB (writeBack s.hp (reach s.hp (ds ++ cap)) (bs'.map (mapRefs (backId (reach s.hp (ds ++ cap)) 0 bs'.length)))) old? ++ [cc]:=by
    rw[writeBack_app (fun i hi=>by rw[killB_len];exact hlt i hi) (by simpa using hbl),writeBack_kill hold (by simpa using hbl)]
  have hgone:∀u∈given s c.args.toList,u∈looksD o:=fun u hu=>by
   obtain⟨q1,_⟩:=given_mem.1 hu;exact mem_looks.2 (hma _ q1)
  have hdg:d∉given s c.args.toList:=fun q=>hdl (hgone d q)
  have hog:∀t,own? =some t→t∉given s c.args.toList:=fun t ht q=>(hox t ht).2 (hgone t q)
  have ext:∀(a b:St),a.tm=b.tm→a.hp=b.hp→a=b:=fun a b h1 h2=>by cases a;cases b;simp only at h1 h2;rw[h1,h2]
  refine ext _ _ ?_ ?_
  rotate_left
  ·rw[eff_hp,put_hp,put_hp];dsimp only;rw[eff_hp,hwb]
  ·funext u
   rw[eff_at,put_hp,hl3,kills_put_at,kills_put_at,eff_at]
   by_cases hu:u=d
   ·have e1:o.dst≠some u:=by rw[hu];exact hdx
    have e2:u∉given s c.args.toList:=by rw[hu];exact hdg
    simp[hu,e1,e2,hdx,hdg]
   ·by_cases hut:own? =some u
    ·have e1:o.dst≠some u:=(hox u hut).1;have e2:u∉given s c.args.toList:=hog u hut;simp[hu,hut,e1,e2]
    ·simp[hu,hut]
theorem swapC {C n ops x y s s1 s2} (h1:gstep C n ops x s s1) (h2:gstep C n ops y s1 s2) (hxc:(labD C.P ops x s).call=true) (hya:(labD C.P ops y s1).add=true)
  (hd1:disj (dstL x.dst) (looksG ops y ++ dstL y.dst)=true) (hd2:disj (dstL y.dst) (looksG ops x)=true) (hg1:disj (labD C.P ops x s).gone (looksG ops y)=true) (hg2:disj (labD C.P ops y s1).gone (looksG ops x ++ dstL x.dst)=true)
  (hw1:disj (labD C.P ops x s).wr (labD C.P ops y s1).rd=true) (hw2:disj (labD C.P ops y s1).wr (labD C.P ops x s).rd=true) (hlen:s1.hp.length=s.hp.length):
  ∃s1',gstep C n ops y s s1'∧gstep C n ops x s1' s2∧labD C.P ops y s=labD C.P ops y s1∧labD C.P ops x s1'=labD C.P ops x s:=by
 have d1:=disj_spec hd1;have d2:=disj_spec hd2;have g1:=disj_spec hg1;have g2:=disj_spec hg2;have w1:=disj_spec hw1;have w2:=disj_spec hw2;have kx:=gstep_keeps h1;rw[lab_dst]at kx;have hxs:skips ops x s=false:=by
  cases hq:skips ops x s with
  | false=>rfl
  | true=>simp[labD,hq]at hxc
 have hys:skips ops y s1=false:=by
  cases hq:skips ops y s1 with
  | false=>rfl
  | true=>simp[labD,hq]at hya
 have elx:labD C.P ops x s=⟨x.dst,looksG ops x,goneD (takes ops x) x s,rdD x s,wrD C.P (takes ops x) x s,x.dst.isSome&&simpleD (takes ops x) x s,ldD C.P x s,mvD (takes ops x) x s,callB x,adB x s,stoB x s⟩:=by unfold labD;rw[if_neg (by rw[hxs];simp)]
 have ely:labD C.P ops y s1=⟨y.dst,looksG ops y,goneD (takes ops y) y s1,rdD y s1,wrD C.P (takes ops y) y s1,y.dst.isSome&&simpleD (takes ops y) y s1,ldD C.P y s1,mvD (takes ops y) y s1,callB y,adB y s1,stoB y s1⟩:=by unfold labD;rw[if_neg (by rw[hys];simp)]
 rw[elx]at hxc;rw[ely]at hya;dsimp only at hxc hya;obtain⟨g,k1,k2,k3⟩:=h1;have hgt:g=true:=by
  cases g with
  | true=>rfl
  | false=>simp[skips,k1]at hxs
 subst hgt;obtain⟨g',m1,m2,m3⟩:=h2;have hgt:g'=true:=by
  cases g' with
  | true=>rfl
  | false=>simp[skips,m1]at hys
 subst hgt;simp only[if_true]at k3 m3;have hcx:∃c xx,x.op= .call c∧c.callee= .value xx:=by
  unfold callB at hxc;split at hxc
  ·rename_i c hop;split at hxc
   ·rename_i xx hcal;exact⟨c,xx,hop,hcal⟩
   ·cases hxc
  ·cases hxc
 obtain⟨c,xx,hop,hcal⟩:=hcx;have k3':callTo C n x c xx s s1:=by
  unfold opTo at k3;simpa only[hop,hcal]using k3
 have m3':stepD C.P n (takes ops y) y s1=some s2:=by
  unfold opTo at m3;split at m3
  ·rename_i c' hop';split at m3
   ·rename_i x' hc';simp[adB,hop',hc']at hya
   ·exact m3
  ·exact m3
 obtain⟨own?,old?,d,v,cc,q1,q2,q3,q4,q5⟩:=add_eff m3' hya;have hrdlt:∀i∈(labD C.P ops y s1).rd,s.hp[i]? =s1.hp[i]? :=by
  intro i hi;rcases Nat.lt_or_ge i s.hp.length with h | h
  ·exact(kx.hp i h (fun q=>w1 i q hi)).symm
  ·rw[List.getElem?_eq_none h,List.getElem?_eq_none (by omega)]
 have hag:Agree ops y (labD C.P ops y s1).rd s1 s:=
  ⟨fun u hu=>(kx.tm u (fun e=>d1 u (by rw[e];simp[dstL]) (by simp[hu])) (fun q=>g1 u q hu)).symm,hrdlt⟩
 have hly:=lab_congr hag;have hgy:guardD ops.toArray y s=some true:=by rw[agree_guard hag];exact m1
 have hevy:=agree_ev hag;have hst:stepD C.P n (takes ops y) y s=some (eff own? old? d v cc s):=q5 s hevy (fun i hi=>hag.hp i (by rw[ely];exact hi));have hdd:d∉looksG ops x:=d2 d (by rw[q1];simp[dstL]);have hdd':d∉looksD x:=fun q=>hdd (by simp only[looksG,List.mem_append];exact .inr q)
 have hxd:x.dst≠some d:=fun q=>d1 d (by rw[q];simp[dstL]) (by rw[q1];simp[dstL])
 have hoo:∀t,own? =some t→t∉looksG ops x∧x.dst≠some t:=by
  intro t ht;have hm:t∈(labD C.P ops y s1).gone:=by rw[ely];exact q3 t ht
  have:=g2 t hm;refine⟨fun q=>this (by simp[q]),fun q=>this (by rw[q];simp[dstL])⟩
 have hold:∀i,old? =some i→i∉rdD x s:=by
  intro i hi q;exact w2 i (by rw[ely];exact(q4 i hi).1) (by rw[elx];exact q)
 have hagx:Agree ops x (labD C.P ops x s).rd s (eff own? old? d v cc s):=by
  refine⟨fun u hu=>eff_tm (fun e=>hdd (by rw[←e];exact hu)) (fun t ht e=>(hoo t ht).1 (by rw[e];exact hu)),fun i hi=> ?_⟩;rw[elx]at hi;have hi:i∈rdD x s:=hi;obtain⟨_,f,cap,ds,sub,args,r,bs',e1,e2,e3,_⟩:=k3';have hrd:rdD x s=reach s.hp (ds ++ cap):=by simp only[rdD,hop,hcal,e1,e2]
  have hlt:=reach_lt e3 i (by rw[←hrd];exact hi);exact eff_get hlt (fun j hj q=>hold j hj (by rw[q];exact hi))
 refine⟨eff own? old? d v cc s,⟨true,hgy,m2,?_⟩,⟨true,by rw[agree_guard hagx];exact k1,k2,?_⟩,hly.symm▸rfl,lab_congr hagx⟩
 ·simp only[if_true];unfold opTo;split
  ·rename_i c' hop';split
   ·rename_i x' hc';simp[adB,hop',hc']at hya
   ·exact hst
  ·exact hst
 ·simp only[if_true];rw[q2];unfold opTo;simp only[hop,hcal];exact callTo_eff hop hcal k3' hlen hxd (fun t ht=>⟨(hoo t ht).2,fun q=>(hoo t ht).1 (by simp only[looksG,List.mem_append];exact .inr q)⟩) hdd' hold
theorem store_loc {C n ops o s s1} (e:gstep C n ops o s s1) (hs:(labD C.P ops o s).sto=true):
  ∃j b,s1=⟨s.tm,s.hp.set j b⟩∧j∈(labD C.P ops o s).wr∧j < s.hp.length∧∀t,Agree ops o (labD C.P ops o s).rd s t→gstep C n ops o t ⟨t.tm,t.hp.set j b⟩:=by
 have hsk:skips ops o s=false:=by
  cases hq:skips ops o s with
  | false=>rfl
  | true=>simp[labD,hq]at hs
 have el:labD C.P ops o s=⟨o.dst,looksG ops o,goneD (takes ops o) o s,rdD o s,wrD C.P (takes ops o) o s,o.dst.isSome&&simpleD (takes ops o) o s,ldD C.P o s,mvD (takes ops o) o s,callB o,adB o s,stoB o s⟩:=by unfold labD;rw[if_neg (by rw[hsk];simp)]
 rw[el]at hs⊢;dsimp only at hs⊢;obtain⟨g,h1,h2,h3⟩:=e;have hgt:g=true:=by
  cases g with
  | true=>rfl
  | false=>simp[skips,h1]at hsk
 subst hgt;simp only[if_true]at h3;unfold stoB at hs;split at hs
 ·rename_i ty x y hop;split at hs
  ·rename_i v hv;have hown:hasOwn v=false:=by simpa using hs
   have h3':stepD C.P n (takes ops o) o s=some s1:=by unfold opTo at h3;simpa only[hop]using h3
   unfold stepD at h3';rw[if_pos h2]at h3';simp only[hop]at h3';unfold storeD at h3';split at h3'
   ·rename_i z q1 q2;split at h3'
    ·rename_i id off v' q3 q4;rw[hv]at q4;injection q4 with q4;subst q4
     split at h3'
     ·rename_i cs box q5 q6;split at h3'
      ·rename_i q7;rw[if_neg (by rw[hown];simp)]at h3';injection h3' with h3'
       have hrd:rdD o s= [id]:=by simp[rdD,hop,q3]
       have hwr:wrD C.P (takes ops o) o s= [id]:=by simp only[wrD,hop];exact hrd
       refine⟨id,_,h3'.symm,by rw[hwr];simp,(List.getElem?_eq_some_iff.1 q6).1,fun t ha=>⟨true,by rw[agree_guard ha];exact h1,h2,?_⟩⟩;simp only[if_true];have ev:=agree_ev ha;have hb:t.hp[id]? =some box:=by rw[ha.hp id (by rw[hrd];simp)];exact q6
       unfold opTo;simp only[hop];unfold stepD;rw[if_pos h2];simp only[hop];unfold storeD;rw[q1,q2,ev x (by rw[hop];simp[Op.operands]),ev y (by rw[hop];simp[Op.operands]),q3,hv];dsimp only;rw[q5,hb];dsimp only;rw[if_pos q7,if_neg (by rw[hown];simp)]
      ·cases h3'
     ·cases h3'
    ·cases h3'
   ·cases h3'
  ·cases hs
 ·cases hs
theorem fresh_slot (l:List Nat):∃d,d∉l:=⟨l.sum + 1,fun h=>by
 have:∀(l:List Nat) (x:Nat),x∈l→x≤l.sum:=by
  intro l
  induction l with
  | nil=>intro x hx;cases hx
  | cons y l ih=>
   intro x hx;simp only[List.sum_cons];rcases List.mem_cons.1 hx with e | e
   ·omega
   ·have:=ih x e;omega
 have:=this l _ h;omega⟩
theorem swapSt {C n ops x y s s1 s2} (h1:gstep C n ops x s s1) (h2:gstep C n ops y s1 s2) (hy:(labD C.P ops y s1).sto=true)
  (hd1:disj (dstL x.dst) (looksG ops y ++ dstL y.dst)=true) (hg1:disj (labD C.P ops x s).gone (looksG ops y)=true)
  (hw1:disj (labD C.P ops x s).wr (labD C.P ops y s1).rd=true) (hw2:disj (labD C.P ops y s1).wr (labD C.P ops x s).rd=true) (hrd:∀i∈(labD C.P ops y s1).rd,i < s.hp.length):
  ∃s1',gstep C n ops y s s1'∧gstep C n ops x s1' s2∧labD C.P ops y s=labD C.P ops y s1∧labD C.P ops x s1'=labD C.P ops x s:=by
 have d1:=disj_spec hd1;have g1:=disj_spec hg1;have w1:=disj_spec hw1;have w2:=disj_spec hw2;obtain⟨j,b,q1,q2,q3,q4⟩:=store_loc h2 hy;have k1:=gstep_keeps h1;rw[lab_dst]at k1;have hag:Agree ops y (labD C.P ops y s1).rd s1 s:=by
  refine⟨fun u hu=> ?_,fun i hi=> ?_⟩
  ·exact(k1.tm u (fun e=>d1 u (by rw[e];simp[dstL]) (by simp[hu])) (fun q=>g1 u q hu)).symm
  ·exact(k1.hp i (hrd i hi) (fun q=>w1 i q hi)).symm
 obtain⟨dx,hdx⟩:=fresh_slot (looksG ops x ++ dstL x.dst);have hx1:dx∉looksG ops x:=fun q=>hdx (by simp[q])
 have hx2:x.dst≠some dx:=fun q=>hdx (by rw[q];simp[dstL])
 have hj:j < s.hp.length:=hrd j (lab_wr j q2);have hm:=gstep_mu (v:=s.tm dx) (ib:=some (j,b)) hx1 hx2 (fun i hi j' b' hb e=>by
  injection hb with hb;injection hb with hb1 hb2;subst hb1
  exact w2 j q2 (by rw[e];exact hi)) (fun j' b' hb=>by injection hb with hb;injection hb with hb1 hb2;subst hb1;exact hj) h1
 have e1:mu dx (s.tm dx) (some (j,b)) s=⟨s.tm,s.hp.set j b⟩:=by
  simp only[mu,setO,St.mk.injEq,and_true]
  funext u
  by_cases h:u=dx
  ·subst h;simp[upd]
  ·simp[upd,h]
 have e2:mu dx (s.tm dx) (some (j,b)) s1=⟨s1.tm,s1.hp.set j b⟩:=by
  have hk:s1.tm dx=s.tm dx:=k1.tm dx hx2 (fun q=>hx1 (lab_gone dx q));simp only[mu,setO,St.mk.injEq,and_true]
  funext u
  by_cases h:u=dx
  ·subst h;simp[upd,hk]
  ·simp[upd,h]
 rw[e1,e2]at hm;refine⟨⟨s.tm,s.hp.set j b⟩,q4 s hag,by rw[q1];exact hm,lab_congr hag,?_⟩;refine lab_congr ⟨fun u hu=>rfl,fun i hi=> ?_⟩;exact List.getElem?_set_ne (fun e=>w2 j q2 (by rw[e];exact hi))
def compatCA (a b:Lab):Bool:=a.call&&b.add&&disj a.gone b.looks&&disj b.gone (a.looks ++ dstL a.dst)&&disj a.wr b.rd&&disj b.wr a.rd
def compatSt (a b:Lab):Bool:=b.sto&&disj a.gone b.looks&&disj a.wr b.rd&&disj b.wr a.rd
def compatAdd (a b:Lab):Bool:=compatCA a b || compatSt a b
def compat2 (a b:Lab):Bool:=disj (dstL a.dst) (b.looks ++ dstL b.dst)&&disj (dstL b.dst) a.looks&&(compatDyn a b || compatAdd a b)
theorem compat2_of {a b:Lab} (h:compat a b=true):compat2 a b=true:=by
 simp only[compat,compat2,Bool.and_eq_true,Bool.or_eq_true]at h⊢;exact⟨h.1,.inl h.2⟩
theorem swap2 {C n ops x y s s1 s2} (h1:gstep C n ops x s s1) (h2:gstep C n ops y s1 s2) (hc:compat2 (labD C.P ops x s) (labD C.P ops y s1)=true)
  (hL:((labD C.P ops y s1).simple=true∨(labD C.P ops y s1).sto=true)→∀i∈(labD C.P ops y s1).rd,i < s.hp.length) (hone:compat (labD C.P ops x s) (labD C.P ops y s1)=true∨s2.hp.length≤s.hp.length + 1):
  ∃s1',gstep C n ops y s s1'∧gstep C n ops x s1' s2∧labD C.P ops y s=labD C.P ops y s1∧labD C.P ops x s1'=labD C.P ops x s:=by
 rcases hone with hone | hone
 ·exact swap h1 h2 hone (fun h=>hL (.inl h))
 simp only[compat2,Bool.and_eq_true,Bool.or_eq_true]at hc;obtain⟨⟨p2,p3⟩,hc | hc⟩:=hc
 ·exact swap h1 h2 (by simp only[compat,Bool.and_eq_true];exact⟨⟨p2,p3⟩,hc⟩) (fun h=>hL (.inl h))
 simp only[compatAdd,Bool.or_eq_true]at hc;rcases hc with hc | hc
 rotate_left
 ·simp only[compatSt,Bool.and_eq_true]at hc;obtain⟨⟨⟨c1,c2⟩,c3⟩,c4⟩:=hc;rw[lab_dst,lab_dst,lab_looks]at p2;rw[lab_looks]at c2;exact swapSt h1 h2 c1 p2 c2 c3 c4 (hL (.inr c1))
 ·simp only[compatCA,Bool.and_eq_true]at hc;obtain⟨⟨⟨⟨⟨c1,c2⟩,c3⟩,c4⟩,c5⟩,c6⟩:=hc;rw[lab_dst,lab_dst,lab_looks]at p2;rw[lab_dst,lab_looks]at p3;rw[lab_looks]at c3;rw[lab_looks,lab_dst]at c4;refine swapC h1 h2 c1 c2 p2 p3 c3 c4 c5 c6 ?_;have k1:=(gstep_keeps h1).len;have hys:skips ops y s1=false:=by
   cases hq:skips ops y s1 with
   | false=>rfl
   | true=>simp[labD,hq]at c2
  have hya:adB y s1=true:=by
   have:(labD C.P ops y s1).add=adB y s1:=by unfold labD;rw[if_neg (by rw[hys];simp)]
   rw[←this];exact c2
  obtain⟨g',m1,m2,m3⟩:=h2;have hgt:g'=true:=by
   cases g' with
   | true=>rfl
   | false=>simp[skips,m1]at hys
  subst hgt;simp only[if_true]at m3;have m3':stepD C.P n (takes ops y) y s1=some s2:=by
   unfold opTo at m3;split at m3
   ·rename_i c' hop';split at m3
    ·rename_i x' hc';simp[adB,hop',hc']at hya
    ·exact m3
   ·exact m3
  obtain⟨own?,old?,d,v,cc,q1,q2,_⟩:=add_eff m3' hya;have:s2.hp.length=s1.hp.length + 1:=by rw[q2,eff_hp];simp[killB_len]
  omega
end Go.Proofs.Dm
namespace Go.Proofs.Dm
open Go Go.RowKit
def LChain (C:Ctx) (n:Nat) (ops:List Oper) (F:Nat→Lab):List Nat→St→St→Prop
 | [],s,s'=>s=s'
 | i::r,s,s'=>∃o s1,ops[i]? =some o∧labD C.P ops o s=F i∧gstep C n ops o s s1∧LChain C n ops F r s1 s'
theorem LChain.len {C n ops F}:∀{l:List Nat} {s s':St},LChain C n ops F l s s'→s.hp.length≤s'.hp.length
 | [],s,s',e=>by simp only[LChain]at e;subst e;exact Nat.le_refl _
 | i::r,s,s',e=>by
  obtain⟨o,s1,h1,h2,h3,h4⟩:=e;exact Nat.le_trans (gstep_keeps h3).len (LChain.len h4)
theorem front {C n ops F} {i:Nat} {b:List Nat} {s':St}:∀{a:List Nat} {s:St},(∀j∈a,compat2 (F j) (F i)=true)→((∀j∈a,compat (F j) (F i)=true)∨s'.hp.length≤s.hp.length + 1)→(a≠ []→((F i).simple=true∨(F i).sto=true)→∀k∈(F i).rd,k < s.hp.length)→
  LChain C n ops F (a ++ i::b) s s'→LChain C n ops F (i::(a ++ b)) s s'
 | [],s,_,_,_,e=>e
 | j::a,s,hc,ho,hL,e=>by
  obtain⟨oj,s1,h1,h2,h3,h4⟩:=e;have k:=gstep_keeps h3;have ho1:(∀j∈a,compat (F j) (F i)=true)∨s'.hp.length≤s1.hp.length + 1:=by
   rcases ho with ho | ho
   ·exact .inl fun x hx=>ho x (by simp[hx])
   ·exact .inr (by have:=k.len;omega)
  have ih:=front (a:=a) (s:=s1) (fun x hx=>hc x (by simp[hx])) ho1 (fun _ hs k' hk=>Nat.lt_of_lt_of_le (hL (by simp) hs k' hk) k.len) h4;obtain⟨oi,s2,q1,q2,q3,q4⟩:=ih;have hone:compat (F j) (F i)=true∨s2.hp.length≤s.hp.length + 1:=by
   rcases ho with ho | ho
   ·exact .inl (ho j (by simp))
   ·exact .inr (by have:=q4.len;omega)
  obtain⟨s1',r1,r2,r3,r4⟩:=swap2 h3 q3 (by rw[h2,q2];exact hc j (by simp)) (by rw[q2];exact hL (by simp)) (by rw[h2,q2];exact hone);exact⟨oi,s1',q1,by rw[r3];exact q2,r1,oj,s2,h1,by rw[r4];exact h2,r2,q4⟩
def dirOn (o:Oper):List Nat:=(o.after.toList.filter (Region.binds .any)).map (·.on)
def maskL (acc:List Nat):List Nat→Nat
 | []=>0
 | j::js=>2 ^ j ||| acc.getD j 0 ||| maskL acc js
def cloF:List Oper→List Nat→List Nat
 | [],acc=>acc
 | o::os,acc=>cloF os (acc ++ [maskL acc (dirOn o)])
theorem maskL_spec {acc:List Nat} {k:Nat}:∀{js:List Nat},(maskL acc js).testBit k=true→∃j∈js,j=k∨(acc.getD j 0).testBit k=true
 | [],h=>by simp[maskL]at h
 | j::js,h=>by
  simp only[maskL,Nat.testBit_or,Bool.or_eq_true,Nat.testBit_two_pow,decide_eq_true_eq]at h;rcases h with (h | h)| h
  ·exact⟨j,by simp,.inl h⟩
  ·exact⟨j,by simp,.inr h⟩
  ·obtain⟨j',h1,h2⟩:=maskL_spec h;exact⟨j',by simp[h1],h2⟩
theorem cloF_spec:∀(os:List Oper) (acc:List Nat),(cloF os acc).length=acc.length + os.length∧(∀i,i < acc.length→(cloF os acc)[i]? =acc[i]?)∧
  ∀(i:Nat) (o:Oper),os[i]? =some o→(cloF os acc)[acc.length + i]? =some (maskL ((cloF os acc).take (acc.length + i)) (dirOn o))
 | [],acc=>by simp[cloF]
 | o::os,acc=>by
  obtain⟨h1,h2,h3⟩:=cloF_spec os (acc ++ [maskL acc (dirOn o)]);simp only[cloF];refine⟨by rw[h1];simp;omega,fun i hi=>by rw[h2 i (by simp;omega),List.getElem?_append_left hi],fun i o' ho=> ?_⟩;cases i with
  | zero=>
   simp only[List.getElem?_cons_zero,Option.some.injEq]at ho;subst ho;have htake:(cloF os (acc ++ [maskL acc (dirOn o)])).take acc.length=acc:=by
    apply List.ext_getElem?;intro i;rw[List.getElem?_take];split
    ·rename_i hi;rw[h2 i (by simp;omega),List.getElem?_append_left hi]
    ·rename_i hi;exact(List.getElem?_eq_none (by omega)).symm
   rw[Nat.add_zero,htake,h2 acc.length (by simp)];simp
  | succ i=>
   have:=h3 i o' (by simpa using ho);simp only[List.length_append,List.length_cons,List.length_nil,Nat.zero_add]at this;have e:acc.length +(i + 1)=acc.length + 1 + i:=by omega
   rw[e];exact this
def masks (ops:List Oper):List Nat:=cloF ops []
def downC (ops:List Oper) (L:Nat→Bool):Prop:=∀(i:Nat) (o:Oper),ops[i]? =some o→L i=true→∀j∈dirOn o,L j=true
theorem masks_down {ops:List Oper} {L:Nat→Bool} (hd:downC ops L) {k:Nat}:∀(i:Nat) (o:Oper),ops[i]? =some o→(∀j∈dirOn o,L j=true)→((masks ops).getD i 0).testBit k=true→L k=true:=by
 intro i
 induction i using Nat.strongRecOn with
 | _ i ih=>
  intro o ho hready hbit;obtain⟨h1,h2,h3⟩:=cloF_spec ops [];have:=h3 i o ho;simp only[List.length_nil,Nat.zero_add]at this;rw[List.getD_eq_getElem?_getD]at hbit;unfold masks at hbit;rw[this,Option.getD_some]at hbit;obtain⟨j,q1,q2⟩:=maskL_spec hbit;rcases q2 with q2 | q2
  ·subst q2;exact hready j q1
  ·rw[List.getD_eq_getElem?_getD,List.getElem?_take]at q2;split at q2
   ·rename_i hji;have hj:j < ops.length:=Nat.lt_trans hji (List.getElem?_eq_some_iff.1 ho).1;refine ih j hji ops[j] (List.getElem?_eq_getElem hj) (fun k' hk'=>hd j _ (List.getElem?_eq_getElem hj) (hready j q1) k' hk') ?_;rw[List.getD_eq_getElem?_getD];exact q2
   ·simp at q2
def remL (n:Nat) (listed:Array Bool):List Nat:=(List.range n).filter fun i=> !listed.getD i true
theorem remL_mem {n:Nat} {listed:Array Bool} {i:Nat}:i∈remL n listed↔i < n∧listed.getD i true=false:=by
 simp[remL]
theorem range_split {n:Nat} (p:Nat→Bool) {i:Nat} (h:i∈(List.range n).filter p):
  ∃a b,(List.range n).filter p=a ++ i::b∧(∀j∈a,j < i)∧(List.range n).filter (fun j=>p j&&decide (j≠i))=a ++ b:=by
 have hs:((List.range n).filter p).Pairwise (· < ·):=List.Pairwise.filter _ List.pairwise_lt_range;obtain⟨a,b,hab⟩:=List.append_of_mem h;refine⟨a,b,hab,?_,?_⟩
 ·rw[hab]at hs;intro j hj;exact(List.pairwise_append.1 hs).2.2 j hj i (by simp)
 ·have e:(List.range n).filter (fun j=>p j&&decide (j≠i))=((List.range n).filter p).filter (fun j=>decide (j≠i)):=by
   rw[List.filter_filter]
   congr 1
   funext j
   rw[Bool.and_comm]
  rw[e,hab,List.filter_append,List.filter_cons_of_neg (by simp)];rw[hab]at hs;obtain⟨h1,h2,h3⟩:=List.pairwise_append.1 hs
  congr 1
  ·rw[List.filter_eq_self];intro j hj;have:=h3 j hj i (by simp);simp;omega
  ·rw[List.filter_eq_self];intro j hj;have:=(List.pairwise_cons.1 h2).1 j hj;simp;omega
theorem draw_any {C w0 h0 ow0 r0 n} {ops:List Oper} {F:Nat→Lab} {Q:Exit→Act→World→Prop} {s':St} {L0:Nat}
  (hedge:∀(i:Nat) (o:Oper),ops[i]? =some o→∀j∈dirOn o,j < i)
  (hpair:∀i j,i < ops.length→j < i→((masks ops).getD i 0).testBit j=true∨compat2 (F j) (F i)=true)
  (hone:(∀i j,i < ops.length→j < i→((masks ops).getD i 0).testBit j=true∨compat (F j) (F i)=true)∨s'.hp.length≤L0 + 1)
  (hlow:∀i j,i < ops.length→j < i→((masks ops).getD i 0).testBit j=false→((F i).simple=true∨(F i).sto=true)→∀k∈(F i).rd,k < L0) (hK:Good C w0 h0 ow0 r0 n s' (Q .normal)):
  ∀(fuel:Nat) (listed:Array Bool) (s:St),listed.size=ops.length→downC ops (fun i=>listed.getD i false)→LChain C n ops F (remL ops.length listed) s s'→(remL ops.length listed).length≤fuel→
   L0≤s.hp.length→Good C w0 h0 ow0 r0 n s (fun a w=>wpAny C.P .any ops.toArray Q fuel listed a w):=by
 have listed_of:∀(listed:Array Bool) (i:Nat),listed.size=ops.length→i < ops.length→i∉remL ops.length listed→listed.getD i false=true:=by
  intro listed i hsz hi hn;have:listed.getD i true≠false:=fun q=>hn (remL_mem.2 ⟨hi,q⟩)
  have hl:i < listed.size:=by omega
  rw[Array.getD_eq_getD_getElem?,Array.getElem?_eq_getElem hl]at this⊢;simpa using this
 have ready_mem:∀(listed:Array Bool) (i:Nat),i∈Region.ready .any ops.toArray listed↔i∈remL ops.length listed∧∃o,ops[i]? =some o∧∀j∈dirOn o,listed.getD j false=true:=by
  intro listed i;simp only[Region.ready,List.mem_filter,List.mem_range,List.size_toArray,Bool.and_eq_true,Bool.not_eq_true',remL_mem,List.getElem?_toArray];constructor
  ·rintro⟨h1,h2,h3⟩;rw[List.getElem?_eq_getElem h1]at h3⊢;simp only[Option.map_some,Option.getD_some]at h3;refine⟨⟨h1,h2⟩,_,rfl,fun j hj=> ?_⟩;simp only[dirOn,List.mem_map,List.mem_filter]at hj;obtain⟨e,⟨he1,he2⟩,he3⟩:=hj;have:=Array.all_eq_true_iff_forall_mem.1 h3 e (by simpa using he1);rw[he2]at this;subst he3;simpa using this
  ·rintro⟨⟨h1,h2⟩,o,h3,h4⟩;refine⟨h1,h2,?_⟩;rw[h3];simp only[Option.map_some,Option.getD_some];rw[Array.all_eq_true_iff_forall_mem];intro e he
   by_cases hb:Region.binds .any e=true
   ·have:=h4 e.on (by
     simp only[dirOn,List.mem_map,List.mem_filter];exact⟨e,⟨by simpa using he,hb⟩,rfl⟩)
    rw[this];simp
   ·simp[hb]
 have rem_ready:∀(listed:Array Bool),listed.size=ops.length→Region.ready .any ops.toArray listed= []→remL ops.length listed= []:=by
  intro listed hsz hr;rcases hrem:remL ops.length listed with _ | ⟨i,rest⟩
  ·rfl
  ·exfalso
   have hi:i∈remL ops.length listed:=by rw[hrem];simp
   have hs:(remL ops.length listed).Pairwise (· < ·):=List.Pairwise.filter _ List.pairwise_lt_range;rw[hrem]at hs;have hlt:=(remL_mem.1 hi).1;have:i∈Region.ready .any ops.toArray listed:=by
    rw[ready_mem];refine⟨hi,ops[i],List.getElem?_eq_getElem hlt,fun j hj=> ?_⟩;have hji:=hedge i _ (List.getElem?_eq_getElem hlt) j hj;refine listed_of listed j hsz (by omega) fun hjm=> ?_
    rw[hrem]at hjm;rcases List.mem_cons.1 hjm with e | e
    ·omega
    ·have:=(List.pairwise_cons.1 hs).1 j e;omega
   rw[hr]at this;cases this
 intro fuel
 induction fuel with
 | zero=>
  intro listed s hsz hd hch hfuel hL a w h ow ρ r;have hrem:remL ops.length listed= []:=List.eq_nil_of_length_eq_zero (by omega);rw[hrem]at hch;simp only[LChain]at hch;subst hch;refine⟨?_,hK a w h ow ρ r⟩;apply List.eq_nil_iff_forall_not_mem.2;intro i hi;have:=((ready_mem listed i).1 hi).1;rw[hrem]at this;cases this
 | succ fuel ih=>
  intro listed s hsz hd hch hfuel hL a w h ow ρ r;refine⟨fun hr=> ?_,fun i hi=> ?_⟩
  ·rw[rem_ready listed hsz hr]at hch;simp only[LChain]at hch;subst hch;exact hK a w h ow ρ r
  ·obtain⟨him,o,ho,hdir⟩:=(ready_mem listed i).1 hi;obtain⟨pa,pb,hab,hlt,hab'⟩:=range_split (fun j=> !listed.getD j true) him;have hilt:=(remL_mem.1 him).1;have hrem:remL ops.length listed=pa ++ i::pb:=hab;rw[hrem]at hch hfuel;have hun:∀j∈pa,((masks ops).getD i 0).testBit j=false:=by
    intro j hj;rcases hq:((masks ops).getD i 0).testBit j with _ | _
    ·rfl
    ·exfalso
     have q:=hq;have hji:=hlt j hj;have hlj:=masks_down hd i o ho hdir q;have hjm:j∈remL ops.length listed:=by rw[hrem];simp[hj]
     have:=(remL_mem.1 hjm).2;have hjs:j < listed.size:=by omega
     simp only[Array.getD_eq_getD_getElem?,Array.getElem?_eq_getElem hjs,Option.getD_some]at hlj this;rw[this]at hlj;cases hlj
   have hcomp:∀j∈pa,compat2 (F j) (F i)=true:=by
    intro j hj;rcases hpair i j hilt (hlt j hj)with q | q
    ·rw[hun j hj]at q;cases q
    ·exact q
   have hone':(∀j∈pa,compat (F j) (F i)=true)∨s'.hp.length≤s.hp.length + 1:=by
    rcases hone with hone | hone
    ·refine .inl fun j hj=> ?_
     rcases hone i j hilt (hlt j hj)with q | q
     ·rw[hun j hj]at q;cases q
     ·exact q
    ·exact .inr (by omega)
   have hfr:=front hcomp hone' (fun hne hs k hk=>by
    obtain⟨j,hj⟩:=List.exists_mem_of_ne_nil pa hne;exact Nat.lt_of_lt_of_le (hlow i j hilt (hlt j hj) (hun j hj) hs k hk) hL) hch
   obtain⟨o',s1,q1,q2,q3,q4⟩:=hfr;rw[ho]at q1;injection q1 with q1;subst q1
   have hset:(listed.setIfInBounds i true).size=ops.length:=by simpa using hsz
   have hget:∀j (d:Bool),(listed.setIfInBounds i true).getD j d=if j=i then true else listed.getD j d:=by
    intro j d;simp only[Array.getD_eq_getD_getElem?,Array.getElem?_setIfInBounds]
    by_cases e:i=j
    ·subst e;rw[if_pos rfl,if_pos (by omega),if_pos rfl];rfl
    ·rw[if_neg e,if_neg (fun q=>e q.symm)]
   have hrem':remL ops.length (listed.setIfInBounds i true)=pa ++ pb:=by
    rw[←hab'];unfold remL
    congr 1
    funext j
    rw[hget]
    by_cases e:j=i <;> simp[e]
   have hgood:Good C w0 h0 ow0 r0 n s1 (fun a w=>wpAny C.P .any ops.toArray Q fuel (listed.setIfInBounds i true) a w):=by
    refine ih (listed.setIfInBounds i true) s1 hset ?_ (by rw[hrem'];exact q4) (by rw[hrem'];simp at hfuel⊢;omega) (Nat.le_trans hL (gstep_keeps q3).len);intro j oj hoj hj k hk;dsimp only at hj⊢;rw[hget]at hj⊢
    by_cases e:j=i
    ·subst e;rw[ho]at hoj;injection hoj with hoj;subst hoj
     have:=hdir k hk;split
     ·rfl
     ·exact this
    ·rw[if_neg e]at hj;have:=hd j oj hoj hj k hk;split
     ·rfl
     ·exact this
   obtain⟨g,g1,g2,g3⟩:=q3;have hw:=guardD_ok r g1;unfold wpOp;rw[List.getElem?_toArray,ho];dsimp only;cases g with
   | true=>
    rw[if_pos hw];simp only[if_true]at g3;exact .inl (opTo_ok g3 a w h ow ρ r _ Q hgood)
   | false=>
    rw[if_neg (by rw[hw];simp)];simp only[Bool.false_eq_true,if_false]at g3;subst g3;exact hgood _ _ _ _ _ (r.put o.dst g2 fun O=>by simp only[RepD])
def edgesOK (ops:List Oper):Bool:=(List.range ops.length).all fun i=>((ops[i]?).map fun o=>(dirOn o).all fun j=>decide (j < i)).getD true
def plainS (tk:Bool) (o:Oper):Bool:=
 match o.op with
 | .move _=> !tk
 | .assign _ | .load _ _ | .store _ _ _ | .alloc _ | .box _ _ | .build _ _ | .buildSlice _ _ _ | .makeSlice _ _ _=>false
 | .call c=>match c.callee with
  | .builtin .append=>false
  | .builtin .copy=>false
  | .builtin .clear=>false
  | .builtin _=>true
  | _=>false
 | _=>true
def noBoxS (o:Oper):Bool:=
 match o.op with
 | .load _ _ | .store _ _ _=>false
 | .call c=>match c.callee with
  | .value _=>false
  | .builtin .append=>false
  | .builtin .copy=>false
  | .builtin .clear=>false
  | _=>true
 | _=>true
def noWrS (tk:Bool) (o:Oper):Bool:=noBoxS o || match o.op with
 | .load _ _=> !tk
 | _=>false
def simpS (tk:Bool) (o:Oper):Bool:=o.dst.isSome&&(plainS tk o || match o.op with
 | .load _ _=>true
 | .buildSlice _ _ _=>true
 | _=>false)
def slotsS (ops:List Oper) (a b:Oper):Bool:=disj (dstL a.dst) (looksG ops b ++ dstL b.dst)&&disj (dstL b.dst) (looksG ops a)
def freeS (ops:List Oper) (a b:Oper):Bool:=
 (simpS (takes ops a) a || simpS (takes ops b) b)&&(!(eatsT (takes ops a) a)|| disj (looksD a) (looksG ops b))&&(!(eatsT (takes ops b) b)|| disj (looksD b) (looksG ops a))&&(noBoxS a || noBoxS b ||(noWrS (takes ops a) a&&noWrS (takes ops b) b))
def opAt (ops:List Oper) (i:Nat):Oper:=ops.getD i default
def unord (ops:List Oper):List (Nat×Nat):=
 (List.range ops.length).flatMap fun i=>((List.range i).filter fun j=> !(((masks ops).getD i 0).testBit j)).map fun j=>(j,i)
def drawStat (ops:List Oper):Bool:=edgesOK ops&&(unord ops).all fun p=>slotsS ops (opAt ops p.1) (opAt ops p.2)
def dynPairs (ops:List Oper):List (Nat×Nat):=(unord ops).filter fun p=> !(freeS ops (opAt ops p.1) (opAt ops p.2))
def lowIdx (ops:List Oper):List Nat:=(((unord ops).map (·.2)).filter fun i=> !(noBoxS (opAt ops i))).eraseDups
def emptyLab:Lab:=⟨none,[],[],[],[],false,none,false,false,false,false⟩
def pairsOK (labs:List Lab):List (Nat×Nat)→Prop
 | []=>True
 |(j,i)::ps=>compatDyn (labs.getD j emptyLab) (labs.getD i emptyLab)=true∧pairsOK labs ps
theorem pairsOK_spec {labs:List Lab}:∀{ps:List (Nat×Nat)},pairsOK labs ps→∀p∈ps,compatDyn (labs.getD p.1 emptyLab) (labs.getD p.2 emptyLab)=true
 | [],_,p,hp=>by simp at hp
 |(j,i)::ps,h,p,hp=>by
  rcases List.mem_cons.1 hp with e | e
  ·subst e;exact h.1
  ·exact pairsOK_spec h.2 p e
def pairsOK2 (labs:List Lab):List (Nat×Nat)→Prop
 | []=>True
 |(j,i)::ps=>(compatDyn (labs.getD j emptyLab) (labs.getD i emptyLab)|| compatAdd (labs.getD j emptyLab) (labs.getD i emptyLab))=true∧pairsOK2 labs ps
theorem pairsOK2_spec {labs:List Lab}:∀{ps:List (Nat×Nat)},pairsOK2 labs ps→∀p∈ps,(compatDyn (labs.getD p.1 emptyLab) (labs.getD p.2 emptyLab)|| compatAdd (labs.getD p.1 emptyLab) (labs.getD p.2 emptyLab))=true
 | [],_,p,hp=>by simp at hp
 |(j,i)::ps,h,p,hp=>by
  rcases List.mem_cons.1 hp with e | e
  ·subst e;exact h.1
  ·exact pairsOK2_spec h.2 p e
theorem pairsOK2_of {labs:List Lab}:∀{ps:List (Nat×Nat)},pairsOK labs ps→pairsOK2 labs ps
 | [],_=>True.intro
 |(j,i)::ps,h=>⟨by rw[h.1];rfl,pairsOK2_of h.2⟩
def allLt (m:Nat):List Nat→Prop
 | []=>True
 | k::ks=>k < m∧allLt m ks
theorem allLt_spec {m:Nat}:∀{ks:List Nat},allLt m ks→∀k∈ks,k < m
 | [],_,k,hk=>by simp at hk
 | x::ks,h,k,hk=>by
  rcases List.mem_cons.1 hk with e | e
  ·subst e;exact h.1
  ·exact allLt_spec h.2 k e
def lowOK (m:Nat) (labs:List Lab):List Nat→Prop
 | []=>True
 | i::is=>allLt m (labs.getD i emptyLab).rd∧lowOK m labs is
theorem lowOK_spec {m:Nat} {labs:List Lab}:∀{is:List Nat},lowOK m labs is→∀i∈is,∀k∈(labs.getD i emptyLab).rd,k < m
 | [],_,i,hi=>by simp at hi
 | x::is,h,i,hi=>by
  rcases List.mem_cons.1 hi with e | e
  ·subst e;exact allLt_spec h.1
  ·exact lowOK_spec h.2 i e
def drawTo (C:Ctx) (n:Nat) (ops:List Oper) (s s':St):Prop:=
 C.P.follows .mixedOrders=true∧drawStat ops=true∧∃labs:List Lab,labs.length=ops.length∧LChain C n ops (fun i=>labs.getD i emptyLab) (List.range ops.length) s s'∧
  (pairsOK labs (dynPairs ops)∨(pairsOK2 labs (dynPairs ops)∧s'.hp.length≤s.hp.length + 1))∧lowOK s.hp.length labs (lowIdx ops)
theorem disj_nil_right (a:List Nat):disj a []=true:=by simp[disj]
theorem disj_mono {a b a' b':List Nat} (h:disj a b=true) (ha:∀x∈a',x∈a) (hb:∀x∈b',x∈b):disj a' b'=true:=by
 have:=disj_spec h;simp only[disj,List.all_eq_true];intro x hx;have h2:=this x (ha x hx);have:x∉b':=fun q=>h2 (hb x q)
 simp[this]
theorem noBox_rd {P ops o s} (h:noBoxS o=true):(labD P ops o s).rd= []:=by
 unfold labD;split
 ·rfl
 ·dsimp only;unfold rdD;split
  ·rename_i t x hop;simp[noBoxS,hop]at h
  ·rename_i t x y hop;simp[noBoxS,hop]at h
  ·rename_i c hop;cases hc:c.callee with
   | value x=>simp[noBoxS,hop,hc]at h
   | builtin b=>cases b <;> first | rfl |(simp[noBoxS,hop,hc]at h)
   | _=>rfl
  ·rfl
theorem noBox_wr {P ops o s} (h:noBoxS o=true):(labD P ops o s).wr= []:=by
 have:=noBox_rd (P:=P) (ops:=ops) (s:=s) h;apply List.eq_nil_iff_forall_not_mem.2;intro x hx;have:=lab_wr x hx;rw[noBox_rd h]at this;cases this
theorem plain_simple {tk:Bool} {o:Oper} {s:St} (h:plainS tk o=true):simpleD tk o s=true:=by
 unfold plainS at h;unfold simpleD;cases hop:o.op with
 | call c=>
  rw[hop]at h;dsimp only at h⊢;cases hc:c.callee with
  | builtin b=>rw[hc]at h;cases b <;> simp_all
  | _=>rw[hc]at h;simp at h
 | move x=>rw[hop]at h;simpa using Or.inl h
 | _=>rw[hop]at h;first | done | rfl |(simp at h)
theorem noWr_wr {P ops o s} (h:noWrS (takes ops o) o=true):(labD P ops o s).wr= []:=by
 unfold noWrS at h;cases hb:noBoxS o with
 | true=>exact noBox_wr hb
 | false=>
  rw[hb]at h;simp only[Bool.false_or]at h;split at h
  ·rename_i t x hop;simp only[Bool.not_eq_true']at h;unfold labD;split
   ·rfl
   ·dsimp only;unfold wrD;rw[hop,h];dsimp only;split
    ·split
     ·simp
     ·rfl
    ·rfl
  ·cases h
theorem simpS_lab {P ops o s} (h:simpS (takes ops o) o=true):(labD P ops o s).simple=true:=by
 simp only[simpS,Bool.and_eq_true,Bool.or_eq_true]at h;obtain⟨hd,h⟩:=h;unfold labD;split
 ·exact hd
 ·dsimp only;rw[hd,Bool.true_and];rcases h with h | h
  ·exact plain_simple h
  ·unfold simpleD;split at h
   ·rename_i hop;simp[hop]
   ·rename_i hop;simp[hop]
   ·cases h
theorem free_compat {P ops a b s t} (hs:slotsS ops a b=true) (h:freeS ops a b=true):compat (labD P ops a s) (labD P ops b t)=true:=by
 simp only[freeS,Bool.and_eq_true,Bool.or_eq_true]at h;obtain⟨⟨⟨h1,h2⟩,h3⟩,h4⟩:=h;simp only[slotsS,Bool.and_eq_true]at hs;refine compat_of_old ?_;simp only[compatO,Bool.and_eq_true,Bool.or_eq_true,lab_dst,lab_looks];have goneS:∀(o o':Oper) (u:St),(!(eatsT (takes ops o) o))=true∨disj (looksD o) (looksG ops o')=true→disj (labD P ops o u).gone (looksG ops o')=true:=by
  intro o o' u hq;rcases hq with q | q
  ·have:(labD P ops o u).gone= []:=by
    unfold labD;split
    ·rfl
    ·simp only[goneD];simp only[Bool.not_eq_true']at q;rw[q];rfl
   rw[this];rfl
  ·refine disj_mono q (fun x hx=> ?_) (fun x hx=>hx);unfold labD at hx;split at hx
   ·cases hx
   ·exact goneD_sub x hx
 refine⟨⟨⟨⟨⟨⟨?_,hs.1⟩,hs.2⟩,goneS a b s h2⟩,goneS b a t h3⟩,?_⟩,?_⟩
 ·rcases h1 with q | q
  ·exact .inl (simpS_lab q)
  ·exact .inr (simpS_lab q)
 ·rcases h4 with (q | q)| q
  ·rw[noBox_wr q];rfl
  ·rw[noBox_rd q];exact disj_nil_right _
  ·rw[noWr_wr q.1];rfl
 ·rcases h4 with (q | q)| q
  ·rw[noBox_rd q];exact disj_nil_right _
  ·rw[noBox_wr q];rfl
  ·rw[noWr_wr q.2];rfl
theorem Rel.drew {C w0 h0 ow0 r0 n s a w h ow ρ} (r:Rel C w0 h0 ow0 r0 n s a w h ow ρ):Rel C w0 h0 ow0 r0 n s a {w with drawn:=w.drawn + 1} h ow ρ:=by
 have hst:Stable w h {w with drawn:=w.drawn + 1} h:=⟨fun _=>Nat.le_refl _,fun _ _ _=>rfl,fun b cs T f q=>⟨cs,f,q,rfl⟩⟩
 refine⟨⟨r.glob.nb,r.glob.eq⟩,⟨⟨r.fr.st.mono,r.fr.st.cell,r.fr.st.keep⟩,r.fr.size,r.fr.os,r.fr.tape,r.fr.output,r.fr.keep⟩,⟨r.hr.len,fun id box b h1 h2 hne=> ?_,r.hr.lt,r.hr.hz⟩,r.defers,r.size,fun i=> ?_,r.dom,r.pre⟩
 ·obtain⟨p1,p2,cs,T,hh,hl0,hrr⟩:=r.hr.box id box b h1 h2 hne;exact⟨p1,p2,cs,T,hh,hl0,RepDs.step hst (fun _ _ h=>h) box _ _ 0 _ (fun g p ho=>⟨rfl,rfl,ho⟩) hrr⟩
 ·exact RepD.step hst (fun _ _ h=>h) _ _ _ _ (fun g p ho=>⟨rfl,rfl,ho⟩) (r.tm i)
theorem LChain.lab {C n ops F}:∀{l:List Nat} {s s':St},LChain C n ops F l s s'→∀i∈l,∃o t,ops[i]? =some o∧F i=labD C.P ops o t
 | [],s,s',e,i,hi=>by simp at hi
 | j::l,s,s',e,i,hi=>by
  obtain⟨o,s1,h1,h2,h3,h4⟩:=e;rcases List.mem_cons.1 hi with q | q
  ·subst q;exact⟨o,s,h1,h2.symm⟩
  ·exact LChain.lab h4 i q
theorem drawTo_ok {C w0 h0 ow0 r0 n} {id:Nat} {ops:List Oper} {s s':St} (e:drawTo C n ops s s') {Q:Exit→Act→World→Prop} (hK:Good C w0 h0 ow0 r0 n s' (Q .normal)):
  Good C w0 h0 ow0 r0 n s (fun a w=>(Code.region id ops.toArray true).wp C.P Q a w):=by
 obtain⟨hm,hstat,labs,hlen,hch,hpair,hlow⟩:=e;simp only[drawStat,Bool.and_eq_true]at hstat;obtain⟨hedge,hslots⟩:=hstat;intro a w h ow ρ r;refine wp_region_any hm ?_;have hrem:remL ops.length (Array.replicate ops.length false)=List.range ops.length:=by
  unfold remL;rw[List.filter_eq_self];intro i hi;have:i < ops.length:=by simpa using hi
  simp[Array.getD_eq_getD_getElem?,this]
 have hsz:ops.toArray.size=ops.length:=by simp
 have hlab:∀i,i < ops.length→∃t,labs.getD i emptyLab=labD C.P ops (opAt ops i) t:=by
  intro i hi;obtain⟨o,t,q1,q2⟩:=hch.lab i (by simpa using hi);refine⟨t,?_⟩;have:opAt ops i=o:=by unfold opAt;rw[List.getD_eq_getElem?_getD,q1];rfl
  rw[this];exact q2
 have hun:∀i j,i < ops.length→j < i→((masks ops).getD i 0).testBit j=false→(j,i)∈unord ops:=by
  intro i j hi hj hb;simp only[unord,List.mem_flatMap,List.mem_map,List.mem_filter,List.mem_range];exact⟨i,hi,j,⟨hj,by rw[hb];rfl⟩,rfl⟩
 rw[hsz];refine draw_any (F:=fun i=>labs.getD i emptyLab) (L0:=s.hp.length) ?_ ?_ ?_ ?_ hK ops.length (Array.replicate ops.length false) s (by simp) ?_ (by rw[hrem];exact hch) (by rw[hrem];simp) (Nat.le_refl _) a _ h ow ρ r.drew
 ·intro i o ho j hj;have hi:=(List.getElem?_eq_some_iff.1 ho).1;have:=List.all_eq_true.1 hedge i (by simpa using hi);rw[ho]at this;simp only[Option.map_some,Option.getD_some]at this;have:=List.all_eq_true.1 this j hj;simpa using this
 ·intro i j hi hj;rcases hb:((masks ops).getD i 0).testBit j with _ | _
  ·refine .inr ?_;have hp:=hun i j hi hj hb;have hsl:=List.all_eq_true.1 hslots _ hp;obtain⟨t1,e1⟩:=hlab j (by omega);obtain⟨t2,e2⟩:=hlab i hi
   by_cases hf:freeS ops (opAt ops j) (opAt ops i)=true
   ·show compat2 (labs.getD j emptyLab) (labs.getD i emptyLab)=true;rw[e1,e2];exact compat2_of (free_compat hsl hf)
   ·have:=pairsOK2_spec (hpair.elim pairsOK2_of And.left) (j,i) (by simp only[dynPairs,List.mem_filter];exact⟨hp,by simpa using hf⟩);have this:(compatDyn (labs.getD j emptyLab) (labs.getD i emptyLab)|| compatAdd (labs.getD j emptyLab) (labs.getD i emptyLab))=true:=this;show compat2 (labs.getD j emptyLab) (labs.getD i emptyLab)=true;simp only[slotsS,Bool.and_eq_true]at hsl;rw[e1,e2]at this⊢;rw[compat2,this];simp only[Bool.and_eq_true,lab_dst,lab_looks];exact⟨⟨hsl.1,hsl.2⟩,trivial⟩
  ·exact .inl rfl
 ·rcases hpair with hpair | hpair
  rotate_left
  ·exact .inr hpair.2
  refine .inl ?_;intro i j hi hj;rcases hb:((masks ops).getD i 0).testBit j with _ | _
  ·refine .inr ?_;have hp:=hun i j hi hj hb;have hsl:=List.all_eq_true.1 hslots _ hp;obtain⟨t1,e1⟩:=hlab j (by omega);obtain⟨t2,e2⟩:=hlab i hi
   by_cases hf:freeS ops (opAt ops j) (opAt ops i)=true
   ·show compat (labs.getD j emptyLab) (labs.getD i emptyLab)=true;rw[e1,e2];exact free_compat hsl hf
   ·have:=pairsOK_spec hpair (j,i) (by simp only[dynPairs,List.mem_filter];exact⟨hp,by simpa using hf⟩);have this:compatDyn (labs.getD j emptyLab) (labs.getD i emptyLab)=true:=this;show compat (labs.getD j emptyLab) (labs.getD i emptyLab)=true;simp only[slotsS,Bool.and_eq_true]at hsl;rw[e1,e2]at this⊢;simp only[compat,Bool.and_eq_true,lab_dst,lab_looks];exact⟨⟨hsl.1,hsl.2⟩,this⟩
  ·exact .inl rfl
 ·intro i j hi hj hb hs k hk;have hp:=hun i j hi hj hb
  by_cases hn:noBoxS (opAt ops i)=true
  ·obtain⟨t2,e2⟩:=hlab i hi;have hk:k∈(labs.getD i emptyLab).rd:=hk;rw[e2,noBox_rd hn]at hk;cases hk
  ·refine lowOK_spec hlow i ?_ k hk;simp only[lowIdx,List.mem_eraseDups,List.mem_filter,List.mem_map];exact⟨⟨(j,i),hp,rfl⟩,by simpa using hn⟩
 ·intro i o ho hl;have:(Array.replicate ops.length false).getD i false=false:=by
   rw[Array.getD_eq_getD_getElem?]
   by_cases hi:i < ops.length <;> simp[hi]
  have hl:(Array.replicate ops.length false).getD i false=true:=hl;rw[this]at hl;cases hl
def opsLab (C:Ctx) (n:Nat) (ops:List Oper):List Oper→List Lab→(List Lab→St→Prop)→St→Prop
 | [],acc,k,s=>k acc s
 | o::rest,acc,k,s=>match o.guard with
  | none=>dstOk n o.dst=true∧opWp C n (takes ops o) o (opsLab C n ops rest (acc ++ [labD C.P ops o s]) k) s
  | some (j,want)=>match(ops[j]?).bind (·.dst)with
   | some t=>match s.tm t with
    | .p (.bool b)=>dstOk n o.dst=true∧IfGoal (b==want) (opWp C n (takes ops o) o (opsLab C n ops rest (acc ++ [labD C.P ops o s]) k)) (fun s'=>opsLab C n ops rest (acc ++ [labD C.P ops o s]) k (s'.put o.dst .ud)) s
    | .ud=>dstOk n o.dst=true∧opsLab C n ops rest (acc ++ [labD C.P ops o s]) k (s.put o.dst .ud)
    | _=>False
   | none=>False
def LabGoal (ps:List (Nat×Nat)) (ls:List Nat) (m:Nat) (k:St→Prop) (labs:List Lab) (s:St):Prop:=pairsOK labs ps∧lowOK m labs ls∧k s
def LabGoal2 (ps:List (Nat×Nat)) (ls:List Nat) (m:Nat) (k:St→Prop) (labs:List Lab) (s:St):Prop:=pairsOK2 labs ps∧lowOK m labs ls∧s.hp.length≤m + 1∧k s
def drawWp (C:Ctx) (n:Nat) (ops:List Oper) (k:St→Prop) (s:St):Prop:=
 C.P.follows .mixedOrders=true∧drawStat ops=true∧(opsLab C n ops ops [] (LabGoal (dynPairs ops) (lowIdx ops) s.hp.length k) s∨opsLab C n ops ops [] (LabGoal2 (dynPairs ops) (lowIdx ops) s.hp.length k) s)
theorem drawWp.intro {C n} {ops:List Oper} {k:St→Prop} {s:St} (ps:List (Nat×Nat)) (ls:List Nat) (h1:C.P.follows .mixedOrders=true) (h2:drawStat ops=true) (h3:dynPairs ops=ps) (h4:lowIdx ops=ls)
  (h:opsLab C n ops ops [] (LabGoal ps ls s.hp.length k) s):drawWp C n ops k s:=by subst h3;subst h4;exact⟨h1,h2,.inl h⟩
theorem drawWp.intro2 {C n} {ops:List Oper} {k:St→Prop} {s:St} (ps:List (Nat×Nat)) (ls:List Nat) (h1:C.P.follows .mixedOrders=true) (h2:drawStat ops=true) (h3:dynPairs ops=ps) (h4:lowIdx ops=ls)
  (h:opsLab C n ops ops [] (LabGoal2 ps ls s.hp.length k) s):drawWp C n ops k s:=by subst h3;subst h4;exact⟨h1,h2,.inr h⟩
theorem opsLab_to {C n} {ops:List Oper}:∀{l:List Oper} {acc:List Lab} {k s} (pre:List Oper),ops=pre ++ l→acc.length=pre.length→opsLab C n ops l acc k s→
  ∃s' labs,labs.length=ops.length∧(∀i,i < acc.length→labs[i]? =acc[i]?)∧LChain C n ops (fun i=>labs.getD i emptyLab) (List.range' pre.length l.length) s s'∧k labs s'
 | [],acc,k,s,pre,hops,hacc,e=>⟨s,acc,by rw[hops];simp[hacc],fun _ _=>rfl,rfl,e⟩
 | o::rest,acc,k,s,pre,hops,hacc,e=>by
  have step : ∀ s1, gstep C n ops o s s1 → opsLab C n ops rest (acc ++ [labD C.P ops o s]) k s1 →
      ∃s' labs,labs.length=ops.length∧(∀i,i < acc.length→labs[i]? =acc[i]?)∧LChain C n ops (fun i=>labs.getD i emptyLab) (List.range' pre.length (o::rest).length) s s'∧k labs s':=by
    intro s1 hg h2
    obtain⟨s',labs,q1,q2,q3,q4⟩:=opsLab_to (pre ++ [o]) (by rw[hops];simp) (by simp[hacc]) h2
    refine⟨s',labs,q1,fun i hi=>by rw[q2 i (by simp;omega),List.getElem?_append_left hi],?_,q4⟩
    simp only[List.length_cons,List.range'_succ]
    refine⟨o,s1,by rw[hops];simp,?_,hg,by simpa using q3⟩
    have:=q2 acc.length (by simp)
    show _=labs.getD pre.length emptyLab
    rw[List.getD_eq_getElem?_getD,←hacc,this]
    simp
  simp only[opsLab]at e;split at e
  ·rename_i hg;obtain⟨hd,e⟩:=e;obtain⟨s1,h1,h2⟩:=opWp_to hd e;exact step s1 ⟨true,by simp[guardD,hg],hd,by simpa using h1⟩ h2
  ·rename_i j want hg;split at e
   ·rename_i t ht;split at e
    ·rename_i b hb;obtain⟨hd,e⟩:=e;have hgd:guardD ops.toArray o s=some (b==want):=by
      simp only[guardD,hg,List.getElem?_toArray,ht,hb]
     rcases hbw:(b==want)with _ | _
     ·rw[hbw,IfGoal_false]at e;exact step _ ⟨false,by rw[hgd,hbw],hd,by simp⟩ e
     ·rw[hbw,IfGoal_true]at e;obtain⟨s1,h1,h2⟩:=opWp_to hd e;exact step s1 ⟨true,by rw[hgd,hbw],hd,by simpa using h1⟩ h2
    ·rename_i hb;obtain⟨hd,e⟩:=e;have hgd:guardD ops.toArray o s=some false:=by
      simp only[guardD,hg,List.getElem?_toArray,ht,hb]
     exact step _ ⟨false,hgd,hd,by simp⟩ e
    ·exact e.elim
   ·exact e.elim
theorem drawWp_to {C n} {ops:List Oper} {k:St→Prop} {s:St} (e:drawWp C n ops k s):∃s',drawTo C n ops s s'∧k s':=by
 obtain⟨h1,h2,h3 | h3⟩:=e
 ·obtain⟨s',labs,q1,q2,q3,q4,q5,q6⟩:=opsLab_to [] rfl rfl h3;refine⟨s',⟨h1,h2,labs,q1,?_,.inl q4,q5⟩,q6⟩;rw[List.range_eq_range'];exact q3
 ·obtain⟨s',labs,q1,q2,q3,q4,q5,q7,q6⟩:=opsLab_to [] rfl rfl h3;refine⟨s',⟨h1,h2,labs,q1,?_,.inr ⟨q4,q7⟩,q5⟩,q6⟩;rw[List.range_eq_range'];exact q3
end Go.Proofs.Dm
namespace Go.Proofs.Dm
open Go Go.RowKit
def Gh (k0:Nat) (s s':St):Prop:=
 ∀(C:Ctx) (w0:World) (h0:Mark) (ow0:Own) (r0:List Nat) (n:Nat) (a:Act) (w:World) (h:Mark) (ow:Own) (ρ:List Nat),r0.length≤k0→Rel C w0 h0 ow0 r0 n s a w h ow ρ→
  ∃h' ow' ρ',Rel C w0 h0 ow0 r0 n s' a w h' ow' ρ'
theorem Gh.refl (k0:Nat) (s:St):Gh k0 s s:=fun _ _ _ _ _ _ _ _ h ow ρ _ r=>⟨h,ow,ρ,r⟩
theorem Gh.trans {k0:Nat} {s s1 s2:St} (a:Gh k0 s s1) (b:Gh k0 s1 s2):Gh k0 s s2:=fun C w0 h0 ow0 r0 n ac w h ow ρ hk r=>by
 obtain⟨h1,ow1,ρ1,r1⟩:=a C w0 h0 ow0 r0 n ac w h ow ρ hk r;exact b C w0 h0 ow0 r0 n ac w h1 ow1 ρ1 hk r1
theorem flatP_rows {w h ρ O}:∀{xs:List (List PD)} {vs:List Value} {k:Nat},RepDs w h ρ (flatP xs) O k vs→RepRows w h xs (fun j=>vs[j]?)
 | [],vs,k,r=>by simp only[RepRows]
 | x::xs,vs,k,r=>by
  rw[flatP_cons]at r;have hl:=r.length;simp only[RepRows];constructor
  ·refine RepRow.of_get fun j c hc=> ?_
   have hj:=(List.getElem?_eq_some_iff.1 hc).1;obtain⟨v,q1,q2⟩:=r.get j (.p c) (by rw[List.getElem?_append_left (by simpa using hj),List.getElem?_map,hc];rfl);simp only[RepD]at q2;exact⟨v,q1,q2⟩
  ·have:RepDs w h ρ (flatP xs) O (k + x.length) (vs.drop x.length):=by
    simp at hl;refine RepDs.of_get (by simp;omega) fun i d v hd hv=> ?_
    obtain⟨v',q1,q2⟩:=r.get (x.length + i) d (by rw[List.getElem?_append_right (by simp)];simpa using hd);rw[List.getElem?_drop,q1]at hv;injection hv with hv;subst hv
    rw[Nat.add_assoc];exact q2
   refine RepRows.mono (Stable.refl w h) xs _ _ _ (fun j hj=> ?_) rfl (flatP_rows this);rw[List.getElem?_drop]
def renD (js:List Nat) (d:DV):DV:=if(refsD d).all (fun i=>js.contains i)then mapRef (idxIn js) d else .un
def renSt (js:List Nat) (hp':List (List DV)) (s:St):St:=⟨fun i=>renD js (s.tm i),hp'⟩
def renP (js:List Nat):Pos→Pos
 | .box i=>if js.contains i then .box (idxIn js i)else .res []
 | .cell (i::p)=>if js.contains i then .cell (idxIn js i::p)else .res []
 | .cell []=> .res []
 | x=>x
theorem Gh.ren {k0:Nat} {s:St} (js:List Nat) (sub:List (List DV)) (hsub:subHp s.hp js=some sub) (hnd:js.Nodup) (hk:js.take k0=List.range k0) (hcl:(sub.all fun b=>(refsDs b).all fun i=>js.contains i)=true):
  Gh k0 s (renSt js (sub.map (mapRefs (idxIn js))) s):=by
 intro C w0 m0 ow0 r0 nt a w h ow ρ hr0 r;obtain⟨hsl,hsubspec⟩:=subHp_spec hsub;have hidlt:∀i∈js,i < s.hp.length:=by
  intro i hi;obtain⟨j,hj⟩:=List.mem_iff_getElem?.1 hi;obtain⟨b,q1,_⟩:=hsubspec j i hj;exact(List.getElem?_eq_some_iff.1 q1).1
 have hρget:∀i∈js,ρ[i]? =some (ρ.getD i 0):=by
  intro i hi;have hlt:i < ρ.length:=by rw[←r.hr.len];exact hidlt i hi
  rw[List.getElem?_eq_getElem hlt,List.getD_eq_getElem?_getD,List.getElem?_eq_getElem hlt];rfl
 let ρ':List Nat:=js.map fun i=>ρ.getD i 0
 let ow':Own:=fun g=>(ow g).map (renP js)
 have hρ':∀i∈js,ρ'[idxIn js i]? =ρ[i]? :=by
  intro i hi;simp only[ρ',List.getElem?_map,idx_get hi,Option.map_some,hρget i hi]
 have hB:HR w h ρ' ow' (sub.map (mapRefs (idxIn js))):=by
  refine⟨by simp[ρ',hsl],fun j bx b g1 g2 hne=> ?_,fun g hg=>r.hr.lt g (fun e=>hg (by simp[ow',e])),r.hr.hz⟩;simp only[ρ',List.getElem?_map]at g1 g2;obtain⟨i,hi1,hi2⟩:=Option.map_eq_some_iff.1 g2;obtain⟨bx0,hb1,hb2⟩:=hsubspec j i hi1;have hi:i∈js:=List.mem_of_getElem? hi1;rw[hb2]at g1;simp only[Option.map_some,Option.some.injEq]at g1;subst g1;have hρi:ρ[i]? =some b:=by rw[hρget i hi,hi2]
  obtain⟨p1,p2,cs,T,hh,hl0,hrr⟩:=r.hr.box i bx0 b hb1 hρi (fun e=>hne (by rw[e];rfl));have hj:idxIn js i=j:=idx_of_get hnd hi1;refine⟨by simp[ow',p1,renP,hi,hj],p2,cs,T,hh,by rw[mapRefs_len];exact hl0,?_⟩;rw[mapRefs_len];refine RepDs.mapRefs _ _ _ _ _ (fun i' hi'=>hρ' i' ?_) (hrr.rename fun g p ho=>by simp[ow',ho,renP,hi,hj]);have hc:=List.all_eq_true.1 hcl bx0 (List.mem_of_getElem? hb2);have:=List.all_eq_true.1 hc i' hi';simpa using this
 refine⟨h,ow',ρ',⟨r.glob.nb,fun b hb=>⟨(r.glob.eq b hb).1,by simp[ow',(r.glob.eq b hb).2]⟩⟩,⟨r.fr.st,r.fr.size,r.fr.os,r.fr.tape,r.fr.output,fun b hb ho=> ?_⟩,hB,r.defers,r.size,fun i=> ?_,fun i hi=> ?_,?_⟩
 ·obtain⟨e1,e2,e3⟩:=r.fr.keep b hb ho;exact⟨e1,e2,by simp[ow',e3]⟩
 ·show RepD w h ρ' (renD js (s.tm i)) _ _;unfold renD;split
  ·rename_i hall;refine RepD.mapRef _ _ _ _ (fun i' hi'=>hρ' i' ?_) ((r.tm i).rename fun g p ho=>by simp[ow',ho,renP]);have:=List.all_eq_true.1 hall i' hi';simpa using this
  ·simp only[RepD]
 ·show renD js (s.tm i)= .un;rw[r.dom i hi];simp[renD,refsD,mapRef]
 ·obtain⟨ex,hex⟩:=r.pre;have hlen:r0.length≤js.length:=by
   have:=congrArg List.length hk;simp at this;omega
  refine⟨ρ'.drop r0.length,?_⟩;rw[←List.take_append_drop r0.length ρ']
  congr 1
  ·apply List.ext_getElem?;intro i
   by_cases hi:i < r0.length
   ·rw[List.getElem?_take,if_pos hi];have hji:js[i]? =some i:=by
     have h1:(js.take k0)[i]? =(List.range k0)[i]? :=by rw[hk]
     rw[List.getElem?_take,if_pos (by omega),List.getElem?_range (by omega)]at h1;exact h1
    have him:i∈js:=List.mem_of_getElem? hji;simp only[ρ',List.getElem?_map,hji,Option.map_some];rw[←hρget i him,hex,List.getElem?_append_left hi]
   ·rw[List.getElem?_take,if_neg hi,List.getElem?_eq_none (by omega)]
  ·simp
end Go.Proofs.Dm
namespace Go.Proofs.Dm
open Go Go.RowKit
theorem HR.take {w h ρ ow bs} (r:HR w h ρ ow bs) (m:Nat) (hm:m≤bs.length) (f:Pos→Pos) (hbox:∀i,f (.box i)= .box i)
  (hcell:∀(i:Nat) (p:List Nat),i < m→(∃bx,bs[i]? =some bx∧hasOwns bx=true)→f (.cell (i::p))= .cell (i::p))
  (hrefs:∀b∈bs.take m,∀i∈refsDs b,i < m):HR w h (ρ.take m) (fun g=>(ow g).map f) (bs.take m):=by
 refine⟨by simp[r.len],fun i bx b g1 g2 hne=> ?_,fun g hg=>r.lt g (fun e=>hg (by simp[e])),r.hz⟩;have hmem:=List.mem_of_getElem? g1;rw[List.getElem?_take]at g1 g2;split at g1
 ·rename_i hi;rw[if_pos hi]at g2;obtain⟨p1,p2,cs,T,hh,hl0,hrr⟩:=r.box i bx b g1 g2 hne;refine⟨by simp[p1,hbox],p2,cs,T,hh,hl0,?_⟩;have hmap:mapRefs (fun i=>i) bx=bx:=mapRefs_id bx;have goal:RepDs w h (ρ.take m) (mapRefs (fun i=>i) bx) (fun g p=>(fun g=>(ow g).map f) g=some (.cell (i::p))) 0 (cs.toList.take bx.length):= ?_
  ·rw[hmap]at goal;exact goal
  refine RepDs.mapRefs (ρ:=ρ) _ _ _ _ _ (fun j hj=> ?_) ?_
  ·rw[List.getElem?_take,if_pos (hrefs bx hmem j hj)]
  ·by_cases ho:hasOwns bx=true
   ·exact hrr.rename fun g p q=>by
     simp only[q,Option.map_some];rw[hcell i p hi ⟨bx,g1,ho⟩]
   ·exact RepDs.free _ _ _ _ _ (by simpa using ho) hrr
 ·cases g1
where
 mapRef_id:∀d:DV,mapRef (fun i=>i) d=d
  | .ref i o=>rfl
  | .agg cs=>by simp only[mapRef,mapRefs_id cs]
  | .tup cs=>by simp only[mapRef,mapRefs_id cs]
  | .fn g cs=>by simp only[mapRef,mapRefs_id cs]
  | .p _=>rfl
  | .nil=>rfl
  | .own _ _ _=>rfl
  | .fr _=>rfl
  | .un=>rfl
  | .ud=>rfl
  | .arr _ _ _ _=>rfl
  | .cp _ _=>rfl
  | .mt _ _=>rfl
  | .bn _ _ _=>rfl
 mapRefs_id:∀ds:List DV,mapRefs (fun i=>i) ds=ds
  | []=>rfl
  | d::ds=>by simp only[mapRefs,mapRef_id d,mapRefs_id ds]
def dropD (k:Nat) (d:DV):DV:=if(refsD d).all (· < k)then d else .un
def dropSt (k:Nat) (s:St):St:=⟨fun i=>dropD k (s.tm i),s.hp.take k⟩
theorem Rel.drop {C w0 h0 ow0 r0 n s a w h ow ρ} (r:Rel C w0 h0 ow0 r0 n s a w h ow ρ) (k:Nat) (hk:k≤s.hp.length) (hr0:r0.length≤k) (hrefs:((s.hp.take k).all fun b=>(refsDs b).all (· < k))=true):
  Rel C w0 h0 ow0 r0 n (dropSt k s) a w h ow (ρ.take k):=by
 have hb:∀b∈s.hp.take k,∀i∈refsDs b,i < k:=by
  intro b hb i hi;have:=List.all_eq_true.1 hrefs b hb;simpa using List.all_eq_true.1 this i hi
 refine⟨r.glob,r.fr,?_,r.defers,r.size,fun i=> ?_,fun i hi=> ?_,?_⟩
 ·have:=r.hr.take k hk (fun p=>p) (fun _=>rfl) (fun _ _ _ _=>rfl) hb;have e:(fun g=>(ow g).map (fun p=>p))=ow:=by funext g;simp
  rw[e]at this;exact this
 ·show RepD w h (ρ.take k) (dropD k (s.tm i)) _ _;unfold dropD;split
  ·rename_i hall;rw[←HR.take.mapRef_id (s.tm i)];refine RepD.mapRef _ _ _ _ (fun j hj=> ?_) (r.tm i);rw[List.getElem?_take,if_pos (by simpa using List.all_eq_true.1 hall j hj)]
  ·simp only[RepD]
 ·show dropD k (s.tm i)= .un;rw[r.dom i hi];simp[dropD,refsD]
 ·obtain⟨ex,hex⟩:=r.pre;refine⟨ex.take (k - r0.length),?_⟩;rw[hex,List.take_append,List.take_of_length_le hr0]
theorem Rel.r0len {C w0 h0 ow0 r0 n s a w h ow ρ} (r:Rel C w0 h0 ow0 r0 n s a w h ow ρ):r0.length≤s.hp.length:=by
 obtain⟨ex,hex⟩:=r.pre;rw[r.hr.len,hex];simp
theorem Gh.drop {k0:Nat} {s:St} (k:Nat) (h3:k0≤k) (h4:k≤s.hp.length) (h5:((s.hp.take k).all fun b=>(refsDs b).all (· < k))=true):Gh k0 s (dropSt k s):=
 fun C w0 h0 ow0 r0 n a w h ow ρ hr0 r=>⟨h,ow,_,r.drop k h4 (by omega) h5⟩
def RoundEnd (I:Nat→St→Prop) (k0 m:Nat) (s:St):Prop:=
 ∃m' s',m' < m∧Gh k0 s s'∧I m' s'
def Start (I:Nat→St→Prop) (m:Nat) (s:St):Prop:=∃s',Gh s.hp.length s s'∧I m s'
theorem Start.here {I:Nat→St→Prop} {m:Nat} {s:St} (h:I m s):Start I m s:=⟨s,Gh.refl _ _,h⟩
inductive DX where
 | norm
 | exit (id:Nat)
 | goto (l:Nat)
 | ret
def DX.up:DX→Exit
 | .norm=> .normal
 | .exit i=> .exit i
 | .goto l=> .goto l
 | .ret=> .ret
def Lift (C:Ctx) (w0:World) (h0:Mark) (ow0:Own) (r0:List Nat) (n:Nat) (Q:DX→St→Prop):Exit→Act→World→Prop:=
 fun e a w=>∃dx s h ow ρ,dx.up=e∧Q dx s∧Rel C w0 h0 ow0 r0 n s a w h ow ρ
theorem Lift.norm {C w0 h0 ow0 r0 n Q a w} (l:Lift C w0 h0 ow0 r0 n Q .normal a w):∃s h ow ρ,Q .norm s∧Rel C w0 h0 ow0 r0 n s a w h ow ρ:=by
 obtain⟨dx,s,h,ow,ρ,e,q,r⟩:=l;cases dx <;> simp[DX.up]at e
 exact⟨s,h,ow,ρ,q,r⟩
def regionTo (C:Ctx) (n:Nat) (ops:Array Oper) (draw:Bool) (s s':St):Prop:=if draw then drawTo C n ops.toList s s' else opsTo C n ops ops.toList s s'
def dwp (C:Ctx) (n:Nat):Code→(DX→St→Prop)→St→Prop
 | .skip,Q,s=>Q .norm s
 | .label _,Q,s=>Q .norm s
 | .region _ ops draw,Q,s=>∃s',regionTo C n ops draw s s'∧Q .norm s'
 | .seq a b,Q,s=>dwp C n a (fun e s'=>match e with
  | .norm=>dwp C n b Q s'
  | e=>Q e s') s
 | .cond c a b,Q,s=>match evalD s c with
  | some (.p (.bool t))=>(t=true→dwp C n a Q s)∧(t=false→dwp C n b Q s)
  | _=>False
 | .block id c,Q,s=>dwp C n c (fun e s'=>match e with
  | .exit j=>if j=id then Q .norm s' else Q (.exit j) s'
  | e=>Q e s') s
 | .loop c,Q,s0=>∃(I:Nat→St→Prop) (m:Nat),Start I m s0∧∀m s,I m s→dwp C n c (fun e s'=>match e with
  | .norm=>RoundEnd I s0.hp.length m s'
  | e=>Q e s') s
 | .exit id,Q,s=>Q (.exit id) s
 | .goto l,Q,s=>Q (.goto l) s
 | .ret,Q,s=>Q .ret s
 | _,_,_=>False
theorem dwp_ok {C w0 h0 ow0 r0 n}:∀(c:Code) (Q:DX→St→Prop) (s:St),dwp C n c Q s→Good C w0 h0 ow0 r0 n s (fun a w=>c.wp C.P (Lift C w0 h0 ow0 r0 n Q) a w)
 | .skip,Q,s,e=>fun a w h ow ρ r=>wp_skip ⟨.norm,s,h,ow,ρ,rfl,e,r⟩
 | .label _,Q,s,e=>fun a w h ow ρ r=>wp_label ⟨.norm,s,h,ow,ρ,rfl,e,r⟩
 | .exit id,Q,s,e=>fun a w h ow ρ r=>wp_exit ⟨.exit id,s,h,ow,ρ,rfl,e,r⟩
 | .goto l,Q,s,e=>fun a w h ow ρ r=>wp_goto ⟨.goto l,s,h,ow,ρ,rfl,e,r⟩
 | .ret,Q,s,e=>fun a w h ow ρ r=>wp_ret ⟨.ret,s,h,ow,ρ,rfl,e,r⟩
 | .region id ops draw,Q,s,e=>by
  obtain⟨s',h1,h2⟩:=e;intro a w h ow ρ r;cases draw with
  | false=>
   simp only[regionTo,Bool.false_eq_true,if_false]at h1;refine wp_region_list ?_;exact opsTo_ok ops.toList s s' h1 (fun a w h ow ρ r=>⟨.norm,s',h,ow,ρ,rfl,h2,r⟩) a w h ow ρ r
  | true=>
   simp only[regionTo,if_true]at h1;have:=drawTo_ok (id:=id) h1 (Q:=Lift C w0 h0 ow0 r0 n Q) (fun a w h ow ρ r=>⟨.norm,s',h,ow,ρ,rfl,h2,r⟩) a w h ow ρ r;simpa using this
 | .seq c d,Q,s,e=>by
  intro a w h ow ρ r;refine wp_seq (wp_mono (dwp_ok c _ s e a w h ow ρ r) ?_);rintro x a' w' ⟨dx,s',h',ow',ρ',rfl,q,r'⟩;cases dx with
  | norm=>exact dwp_ok d Q s' q a' w' h' ow' ρ' r'
  | exit i=>exact⟨.exit i,s',h',ow',ρ',rfl,q,r'⟩
  | goto l=>exact⟨.goto l,s',h',ow',ρ',rfl,q,r'⟩
  | ret=>exact⟨.ret,s',h',ow',ρ',rfl,q,r'⟩
 | .cond c x y,Q,s,e=>by
  intro a w h ow ρ r;simp only[dwp]at e;split at e
  ·rename_i t hc;have hr:=evalD_rep r hc;simp only[RepD,Rep]at hr;refine wp_cond (t:=t) hr ?_;cases t with
   | true=>exact dwp_ok x Q s (e.1 rfl) a w h ow ρ r
   | false=>exact dwp_ok y Q s (e.2 rfl) a w h ow ρ r
  ·exact e.elim
 | .block id c,Q,s,e=>by
  intro a w h ow ρ r;refine wp_block (wp_mono (dwp_ok c _ s e a w h ow ρ r) ?_);rintro x a' w' ⟨dx,s',h',ow',ρ',rfl,q,r'⟩;cases dx with
  | norm=>exact⟨.norm,s',h',ow',ρ',rfl,q,r'⟩
  | exit i=>
   simp only[DX.up,Exit.inBlock]at q⊢;split
   ·rename_i hi;rw[if_pos hi]at q;exact⟨.norm,s',h',ow',ρ',rfl,q,r'⟩
   ·rename_i hi;rw[if_neg hi]at q;exact⟨.exit i,s',h',ow',ρ',rfl,q,r'⟩
  | goto l=>exact⟨.goto l,s',h',ow',ρ',rfl,q,r'⟩
  | ret=>exact⟨.ret,s',h',ow',ρ',rfl,q,r'⟩
 | .loop c,Q,s,e=>by
  intro a w h ow ρ r;obtain⟨I,m,h1,h2⟩:=e;have hr00:=r.r0len;obtain⟨s1,hgh,h1⟩:=h1;obtain⟨h1',ow1',ρ1',r1⟩:=hgh C w0 h0 ow0 r0 n a w h ow ρ hr00 r;refine wp_loop_ghost (fun m a w=>∃s h ow ρ,I m s∧Rel C w0 h0 ow0 r0 n s a w h ow ρ) m ⟨s1,h1',ow1',ρ1',h1,r1⟩ ?_;rintro m a w ⟨s,h,ow,ρ,hI,r⟩;refine wp_mono (dwp_ok c _ s (h2 m s hI) a w h ow ρ r) ?_;rintro x a' w' ⟨dx,s',h',ow',ρ',rfl,q,r'⟩;cases dx with
  | norm=>
   obtain⟨m',s2,k1,k2,k3⟩:=q;obtain⟨h2,ow2,ρ2,r2⟩:=k2 C w0 h0 ow0 r0 n a' w' h' ow' ρ' hr00 r';exact⟨m',k1,s2,h2,ow2,ρ2,k3,r2⟩
  | exit i=>exact⟨.exit i,s',h',ow',ρ',rfl,q,r'⟩
  | goto l=>exact⟨.goto l,s',h',ow',ρ',rfl,q,r'⟩
  | ret=>exact⟨.ret,s',h',ow',ρ',rfl,q,r'⟩
 | .rangeFunc _ _ _ _,Q,s,e=>by simp[dwp]at e
 | .scope _,Q,s,e=>by simp[dwp]at e
 | .refuse _,Q,s,e=>by simp[dwp]at e
def oneD (P:Program) (n0:Nat) (s:St):ResultVar→Option DV
 | .tmp t=>some (s.tm t)
 | .cell a t=>match s.tm a,tsz P t,tagg P t with
  | .ref id off,some z,some g=>match s.hp[id]? with
   | some box=>if off + z≤box.length∧box≠ []∧(n0≤id∨hasOwns box=false)then asVal g ((box.drop off).take z)else none
   | none=>none
  | _,_,_=>none
def manyD (P:Program) (n0:Nat) (s:St):List ResultVar→Option (List DV)
 | []=>some []
 | x::xs=>match oneD P n0 s x,manyD P n0 s xs with
  | some d,some ds=>some (fz d::ds)
  | _,_=>none
def resD (P:Program) (n0:Nat) (s:St):List ResultVar→Option DV
 | [x]=>oneD P n0 s x
 | xs=>(manyD P n0 s xs).map .tup
def isCell1:List ResultVar→Bool
 | [.cell _ _]=>true
 | _=>false
def fin (P:Program) (fn:Func) (n0:Nat) (r:DV) (bs':List (List DV)) (s0:St):Prop:=
 ∃s,Gh n0 s0 s∧∃rr m,resD P n0 s fn.results.toList=some rr∧Wk rr r∧n0≤m∧m≤s.hp.length∧bs'=s.hp.take m∧(∀i∈refsD r,i < m)∧(∀b∈bs',∀i∈refsDs b,i < m)∧(isCell1 fn.results.toList=true→m=n0)
def mvRes (x:ResultVar) (s:St) (g:Bool) (z:Nat):Pos→Pos
 | .tmp (i::p)=>match x with
  | .tmp t=>if i=t then .res p else .tmp (i::p)
  | _=> .tmp (i::p)
 | .cell (i::k::p)=>match x with
  | .cell a _=>match s.tm a with
   | .ref id off=>if i=id∧off≤k∧k < off + z then .res (if g then(k - off)::p else p)else .cell (i::k::p)
   | _=> .cell (i::k::p)
  | _=> .cell (i::k::p)
 | p=>p
theorem cell_run {P:Program} {t z g} (hz:tsz P t=some z) (hg:tagg P t=some g) (b off:Nat) (w:World) (vs:List Value) (hl:vs.length=z)
  (hc:∀j v,vs[j]? =some v→w.cell? ⟨b,off + j,none⟩=some v) (v:Value) (hv:(g=true∧v= .agg vs.toArray)∨(g=false∧vs= [v])):
  (loadVar t ⟨b,off,none⟩).run P w= .ok v w:=by
 have:=load_run hz hg b off w vs hl hc v hv;simpa only[Instr.loadAt,Instr.sureAddr,Sem.run_bind,Sem.run_pure,Result.andThen_ok]using this
theorem oneD_ok {C w0 h0 ow0 r0 n s a w h ow ρ} (r:Rel C w0 h0 ow0 r0 n s a w h ow ρ) {n0:Nat} {x:ResultVar} {d:DV} (e:oneD C.P n0 s x=some d):
  ∃v g z,(match x with | .tmp t=>pure (a.tmps.getD t undef)| .cell b t=>do loadVar t (←asAddr (a.tmps.getD b undef)):Sem Value).run C.P w= .ok v w∧
   RepD w h ρ d (fun q p=>(ow q).map (mvRes x s g z)=some (.res p)) v∧
   (∀(i:Nat) (p:List Nat),i < n0→(∃bx,s.hp[i]? =some bx∧hasOwns bx=true)→mvRes x s g z (.cell (i::p))= .cell (i::p)):=by
 cases x with
 | tmp t=>
  simp only[oneD,Option.some.injEq]at e;subst e;refine⟨a.tmps.getD t undef,false,0,rfl,(r.tm t).rename fun g p ho=>by simp[ho,mvRes],fun i p _ _=>by cases p <;> simp[mvRes]⟩
 | cell b t=>
  simp only[oneD]at e;split at e
  ·rename_i id off z g htm hz hg;split at e
   ·rename_i box hb;split at e
    ·rename_i hc;obtain⟨hoff,hne,hown⟩:=hc;have hx':=r.tm b;rw[htm]at hx';simp only[RepD]at hx';obtain⟨bb,hρ,hv⟩:=hx';obtain⟨p1,p2,cs,T,hh,hl0,hrr⟩:=r.hr.box id box bb hb hρ hne;have hlen:=hrr.length;have hdt:((cs.toList.take box.length).drop off).take z=(cs.toList.drop off).take z:=by
      rw[List.drop_take,List.take_take];congr 1;omega
     have hcell:∀j u,((cs.toList.drop off).take z)[j]? =some u→w.cell? ⟨bb,off + j,none⟩=some u:=by
      intro j u hj;rw[List.getElem?_take]at hj;split at hj
      ·rw[List.getElem?_drop,Array.getElem?_toList]at hj;simp[World.cell?,hh,hj]
      ·cases hj
     have hl:((cs.toList.drop off).take z).length=z:=by simp at hlen⊢;omega
     have hsub:=repDs_part hrr off z;rw[hdt]at hsub;have hO2:RepDs w h ρ ((box.drop off).take z) (fun q p=>match p with | k::p'=>k < z∧ow q=some (.cell (id::(off + k)::p'))| []=>False) 0 ((cs.toList.drop off).take z):=by
      refine RepDs.of_get hsub.length fun i d v hd hv=> ?_
      obtain⟨v',h1,h2⟩:=hsub.get i d hd;rw[h1]at hv;injection hv with hv;subst hv
      have hi:i < z:=by
       have:=(List.getElem?_eq_some_iff.1 h1).1;rw[hl]at this;exact this
      exact h2.rename fun g p ho=>by simpa using⟨hi,ho⟩
     obtain⟨u,hu1,hu2⟩:=asVal_rep e hO2 (fun q p=>(ow q).map (mvRes (.cell b t) s g z)=some (.res p))
      (fun q k p ho=>by
       obtain⟨hk,ho⟩:=ho;simp only[ho,Option.map_some,mvRes,htm];rw[if_pos ⟨trivial,by omega,by omega⟩];simp)
     refine⟨u,g,z,?_,hu2,fun i p hi hex=> ?_⟩
     ·simp only[hv,asAddr,Sem.run_bind,Sem.run_pure,Result.andThen_ok];exact cell_run hz hg bb off w _ hl hcell u hu1
     ·cases p with
      | nil=>simp[mvRes]
      | cons k p=>
       simp only[mvRes,htm];rw[if_neg];rintro⟨q1,q2,q3⟩;obtain⟨bx,q4,q5⟩:=hex;rw[q1]at hi q4;rw[hb]at q4;injection q4 with q4;subst q4
       rcases hown with q | q
       ·omega
       ·rw[q]at q5;cases q5
    ·cases e
   ·cases e
  ·cases e
theorem manyD_ok {C w0 h0 ow0 r0 n s a w h ow ρ} (r:Rel C w0 h0 ow0 r0 n s a w h ow ρ) {n0:Nat}:∀{xs:List ResultVar} {ds:List DV},manyD C.P n0 s xs=some ds→
  ∃vs,(xs.mapM fun x=>(match x with | .tmp t=>pure (a.tmps.getD t undef)| .cell b t=>do loadVar t (←asAddr (a.tmps.getD b undef)):Sem Value)).run C.P w= .ok vs w∧∀O k,RepDs w h ρ ds O k vs
 | [],ds,e=>by simp only[manyD,Option.some.injEq]at e;subst e;exact⟨[],by simp,fun O k=>by simp only[RepDs]⟩
 | x::xs,ds,e=>by
  simp only[manyD]at e;split at e
  ·rename_i d ds' h1 h2;injection e with e;subst e
   obtain⟨v,g,z,q1,q2,_⟩:=oneD_ok r h1;obtain⟨vs,q3,q4⟩:=manyD_ok r h2;refine⟨v::vs,?_,fun O k=> ?_⟩
   ·simp only[List.mapM_cons,Sem.run_bind,q1,Result.andThen_ok,q3,Sem.run_pure]
   ·simp only[RepDs];exact⟨v,vs,rfl,RepD.fz _ _ _ _ q2,q4 O (k + 1)⟩
  ·cases e
theorem manyD_len {P:Program} {n0:Nat} {s:St}:∀{xs:List ResultVar} {ds:List DV},manyD P n0 s xs=some ds→ds.length=xs.length
 | [],ds,e=>by simp only[manyD,Option.some.injEq]at e;subst e;rfl
 | x::xs,ds,e=>by
  simp only[manyD]at e;split at e
  ·rename_i d ds' h1 h2;injection e with e;subst e
   simp[manyD_len h2]
  ·cases e
theorem results_run {P:Program} {fn:Func} {tmps:Array Value} {w:World} {vs:List Value}
  (q:(fn.results.toList.mapM fun x=>(match x with | .tmp t=>pure (tmps.getD t undef)| .cell b t=>do loadVar t (←asAddr (tmps.getD b undef)):Sem Value)).run P w= .ok vs w):
  (results fn tmps).run P w= .ok (if h:vs.toArray.size=1 then vs.toArray[0]else .tuple vs.toArray) w:=by
 unfold results;rw[Array.mapM_eq_mapM_toList];rw[Sem.run_bind,Sem.run_map]
 erw [q]
 simp only[Result.andThen_ok,Sem.run_pure]
theorem dcalls_of_body {C:Ctx} {f:FuncId} {fn:Func} {c:Code} (hf:C.P.funcs[f]? =some fn) (hb:fn.body=some c) (hname:(fn.name== "runtime.NumGoroutine")=false) {args:List DV} {bs:List (List DV)} {r:DV} {bs':List (List DV)}
  (hn:args.length≤fn.ntmps) (h:dwp C fn.ntmps c (fun e s=>(match e with | .norm=>True | .ret=>True | _=>False)∧fin C.P fn bs.length r bs' s) ⟨fun i=>args.getD i .un,bs⟩):DCalls C f args bs r bs':=by
 refine⟨⟨fn,hf,hname,by rw[hb];rfl⟩,fun w hm ow ρ vs ha hbx hg=> ?_⟩;have hvl:=ha.length;have r0:Rel C w hm ow ρ fn.ntmps ⟨fun i=>args.getD i .un,bs⟩ {tmps:=vs.toArray ++ Array.replicate (fn.ntmps - vs.toArray.size) undef,defers:= []} w hm ow ρ:=by
  refine⟨hg,Fr.refl _ _ _,hbx,rfl,?_,fun i=> ?_,fun i hi=> ?_,⟨[],by simp⟩⟩
  ·simp;omega
  ·simp only[]
   by_cases hi:i < args.length
   ·rw[List.getD_eq_getElem?_getD,List.getElem?_eq_getElem hi];obtain⟨v,q1,q2⟩:=ha.get i args[i] (List.getElem?_eq_getElem hi);have:(vs.toArray ++ Array.replicate (fn.ntmps - vs.toArray.size) undef).getD i undef=v:=by
     rw[Array.getD_eq_getD_getElem?,Array.getElem?_append_left (by simp;omega)];simp[q1]
    rw[this];simpa using q2
   ·rw[List.getD_eq_getElem?_getD,List.getElem?_eq_none (by omega)];simp only[Option.getD_none,RepD]
  ·show args.getD i .un= .un;rw[List.getD_eq_getElem?_getD,List.getElem?_eq_none (by omega)];rfl
 refine calls_of_wp hf hb (wp_mono (dwp_ok c _ _ h _ _ _ _ _ r0) ?_);rintro e a w' ⟨dx,s00,h00,ow00,ρ00,rfl,⟨hdx,s,hgh,rr,m,hres,hwk,hm1,hm2,hbs',hr1,hr2,hcell1⟩,rel00⟩;obtain⟨h',ow',ρ',rel⟩:=hgh C w hm ow ρ fn.ntmps a w' h00 ow00 ρ00 (by rw[hbx.len];exact Nat.le_refl _) rel00;obtain⟨ex,hex⟩:=rel.pre;have hρl:s.hp.length=ρ'.length:=rel.hr.len;have hbl:bs.length=ρ.length:=hbx.len;have main:a.defers= []∧∃v,(results fn a.tmps).run C.P w'= .ok v w'∧∃v0 h'' ow'' ex',Ending.returned v= .returned v0∧Fr w hm ow w' h'' ow''∧HR w' h'' (ρ ++ ex') ow'' bs'∧RepD w' h'' (ρ ++ ex') r (fun g p=>ow'' g=some (.res p)) v0:=by
  refine⟨rel.defers,?_⟩;have hex':ρ'.take m=ρ ++ ex.take (m - ρ.length):=by
   rw[hex,List.take_append,List.take_of_length_le (by omega)]
  have fin1 : ∀ (v : Value) (f : Pos → Pos), (∀ i, f (.box i) = .box i) → (∀ (i : Nat) (p : List Nat), i < m → (∃ bx, s.hp[i]? = some bx ∧ hasOwns bx = true) → f (.cell (i :: p)) = .cell (i :: p)) →
      RepD w' h' ρ' rr (fun q p=>(ow' q).map f=some (.res p)) v→
      ∃v0 h'' ow'' ex',Ending.returned v= .returned v0∧Fr w hm ow w' h'' ow''∧HR w' h'' (ρ ++ ex') ow'' bs'∧RepD w' h'' (ρ ++ ex') r (fun g p=>ow'' g=some (.res p)) v0:=by
    intro v f hfb hfc hrv
    refine⟨v,h',fun g=>(ow' g).map f,ex.take (m - ρ.length),rfl,?_,?_,?_⟩
    · refine⟨rel.fr.st,rel.fr.size,rel.fr.os,rel.fr.tape,rel.fr.output,fun b hb ho=> ?_⟩
      obtain⟨e1,e2,e3⟩:=rel.fr.keep b hb ho
      exact⟨e1,e2,by simp[e3]⟩
    · rw[←hex',hbs']
      exact rel.hr.take m hm2 f hfb hfc (by rw[←hbs'];exact hr2)
    · rw[←hex',←HR.take.mapRef_id r]
      exact RepD.mapRef _ _ _ _ (fun j hj=>by rw[List.getElem?_take,if_pos (hr1 j hj)]) (RepD.wk hwk hrv)
  have hresd:fn.results=fn.results.toList.toArray:=by simp
  rcases hrl:fn.results.toList with _ | ⟨x,_ | ⟨y,xs⟩⟩
  ·rw[hrl]at hres hresd;simp only[resD,manyD,Option.map_some,Option.some.injEq]at hres;subst hres;refine⟨.tuple #[],by simp[results,hresd],fin1 _ (fun p=>p) (fun _=>rfl) (fun _ _ _ _=>rfl) ?_⟩;simp only[RepD];exact⟨#[],rfl,by simp only[RepDs]⟩
  ·rw[hrl]at hres hresd;simp only[resD]at hres;obtain⟨v,g,z,q1,q2,q3⟩:=oneD_ok rel hres;refine⟨v,?_,fin1 v (mvRes x s g z) (fun i=>rfl) (fun i p hi hexx=> ?_) q2⟩
   ·rw[results_run (vs:= [v]) (by rw[hrl];simp only[List.mapM_cons,List.mapM_nil,Sem.run_bind,Sem.run_pure,q1,Result.andThen_ok])];simp
   ·cases x with
    | tmp t=>cases p <;> simp[mvRes]
    | cell b t=>
     have hm0:m=bs.length:=hcell1 (by rw[hrl];rfl);exact q3 i p (by omega) hexx
  ·rw[hrl]at hres hresd;simp only[resD]at hres;obtain⟨ds,h1,h2⟩:=Option.map_eq_some_iff.1 hres;subst h2;obtain⟨vs,q1,q2⟩:=manyD_ok rel h1;refine⟨.tuple vs.toArray,?_,fin1 _ (fun p=>p) (fun _=>rfl) (fun _ _ _ _=>rfl) ?_⟩
   ·have hl:vs.length=ds.length:=(q2 (fun _ _=>False) 0).length;have hdl:ds.length=(x::y::xs).length:=manyD_len h1;rw[results_run (vs:=vs) (by rw[hrl];exact q1)];rw[dif_neg (by simp at hdl⊢;omega)]
   ·simp only[RepD];exact⟨_,rfl,by simpa using q2 _ 0⟩
 cases dx with
 | norm=>exact main
 | ret=>exact main
 | exit i=>exact hdx.elim
 | goto l=>exact hdx.elim
def cwp (C:Ctx) (n:Nat):Code→(DX→St→Prop)→St→Prop
 | .skip,Q,s=>Q .norm s
 | .label _,Q,s=>Q .norm s
 | .region _ ops draw,Q,s=>if draw then drawWp C n ops.toList (Q .norm) s else opsWp C n ops.toList ops.toList (Q .norm) s
 | .seq a b,Q,s=>cwp C n a (fun e s'=>match e with
  | .norm=>cwp C n b Q s'
  | e=>Q e s') s
 | .cond c a b,Q,s=>match evalD s c with
  | some (.p (.bool t))=>IfGoal t (cwp C n a Q) (cwp C n b Q) s
  | _=>False
 | .block id c,Q,s=>cwp C n c (fun e s'=>match e with
  | .exit j=>if j=id then Q .norm s' else Q (.exit j) s'
  | e=>Q e s') s
 | .loop c,Q,s0=>∃(I:Nat→St→Prop) (m:Nat),Start I m s0∧∀m s,I m s→cwp C n c (fun e s'=>match e with
  | .norm=>RoundEnd I s0.hp.length m s'
  | e=>Q e s') s
 | .exit id,Q,s=>Q (.exit id) s
 | .goto l,Q,s=>Q (.goto l) s
 | .ret,Q,s=>Q .ret s
 | _,_,_=>False
theorem dwp_mono {C n}:∀(c:Code) {Q Q':DX→St→Prop} {s:St},(∀e s,Q e s→Q' e s)→dwp C n c Q s→dwp C n c Q' s
 | .skip,Q,Q',s,q,e=>q _ _ e
 | .label _,Q,Q',s,q,e=>q _ _ e
 | .exit id,Q,Q',s,q,e=>q _ _ e
 | .goto l,Q,Q',s,q,e=>q _ _ e
 | .ret,Q,Q',s,q,e=>q _ _ e
 | .region id ops draw,Q,Q',s,q,e=>by obtain⟨s',h1,h2⟩:=e;exact⟨s',h1,q _ _ h2⟩
 | .seq c d,Q,Q',s,q,e=>by
  simp only[dwp]at e⊢;refine dwp_mono c (fun x s' h=> ?_) e;cases x <;> first | exact dwp_mono d q h | exact q _ _ h
 | .cond c x y,Q,Q',s,q,e=>by
  simp only[dwp]at e⊢;split at e
  ·exact⟨fun t=>dwp_mono x q (e.1 t),fun t=>dwp_mono y q (e.2 t)⟩
  ·exact e.elim
 | .block id c,Q,Q',s,q,e=>by
  simp only[dwp]at e⊢;refine dwp_mono c (fun x s' h=> ?_) e;cases x with
  | exit i=>
   dsimp only at h⊢;split
   ·rename_i hi;rw[if_pos hi]at h;exact q _ _ h
   ·rename_i hi;rw[if_neg hi]at h;exact q _ _ h
  | _=>exact q _ _ h
 | .loop c,Q,Q',s,q,e=>by
  simp only[dwp]at e⊢;obtain⟨I,m,h1,h2⟩:=e;refine⟨I,m,h1,fun m s hI=>dwp_mono c (fun x s' h=> ?_) (h2 m s hI)⟩;cases x <;> first | exact h | exact q _ _ h
 | .rangeFunc _ _ _ _,Q,Q',s,q,e=>by simp[dwp]at e
 | .scope _,Q,Q',s,q,e=>by simp[dwp]at e
 | .refuse _,Q,Q',s,q,e=>by simp[dwp]at e
theorem cwp_to {C n}:∀(c:Code) {Q:DX→St→Prop} {s:St},cwp C n c Q s→dwp C n c Q s
 | .skip,Q,s,e=>e
 | .label _,Q,s,e=>e
 | .exit id,Q,s,e=>e
 | .goto l,Q,s,e=>e
 | .ret,Q,s,e=>e
 | .region id ops draw,Q,s,e=>by
  cases draw with
  | false=>
   simp only[cwp,Bool.false_eq_true,if_false]at e;obtain⟨s',h1,h2⟩:=opsWp_to e;exact⟨s',by simpa [regionTo]using h1,h2⟩
  | true=>
   simp only[cwp,if_true]at e;obtain⟨s',h1,h2⟩:=drawWp_to e;exact⟨s',by simpa [regionTo]using h1,h2⟩
 | .seq c d,Q,s,e=>by
  simp only[cwp]at e;simp only[dwp];refine dwp_mono c (fun x s' h=> ?_) (cwp_to c e);cases x <;> first | exact cwp_to d h | exact h
 | .cond c x y,Q,s,e=>by
  simp only[cwp]at e;simp only[dwp];split at e
  ·rename_i t hc;refine⟨fun h=> ?_,fun h=> ?_⟩
   ·rw[h,IfGoal_true]at e;exact cwp_to x e
   ·rw[h,IfGoal_false]at e;exact cwp_to y e
  ·exact e.elim
 | .block id c,Q,s,e=>by simp only[cwp]at e;simp only[dwp];exact cwp_to c e
 | .loop c,Q,s,e=>by
  simp only[cwp]at e;simp only[dwp];obtain⟨I,m,h1,h2⟩:=e;exact⟨I,m,h1,fun m s hI=>cwp_to c (h2 m s hI)⟩
 | .rangeFunc _ _ _ _,Q,s,e=>by simp[cwp]at e
 | .scope _,Q,s,e=>by simp[cwp]at e
 | .refuse _,Q,s,e=>by simp[cwp]at e
theorem dcalls_body {P:Program} {W0:World} {nb:Nat} {f:FuncId} {fn:Func} {c:Code} (hf:P.funcs[f]? =some fn) (hb:fn.body=some c) (hname:(fn.name== "runtime.NumGoroutine")=false) {args:List DV} {bs:List (List DV)} {r:DV} {bs':List (List DV)}
  (k:Nat) (hk:fn.ntmps=k) (rv:Array ResultVar) (hr:fn.results=rv) (hn:args.length≤k)
  (h:cwp ⟨P,W0,nb⟩ k c (fun e s=>match e with
   | .norm=>∃s1,Gh bs.length s s1∧∃rr m,resD P bs.length s1 rv.toList=some rr∧Wk rr r∧bs.length≤m∧m≤s1.hp.length∧bs'=s1.hp.take m∧(∀i∈refsD r,i < m)∧(∀b∈bs',∀i∈refsDs b,i < m)∧(isCell1 rv.toList=true→m=bs.length)
   | .ret=>∃s1,Gh bs.length s s1∧∃rr m,resD P bs.length s1 rv.toList=some rr∧Wk rr r∧bs.length≤m∧m≤s1.hp.length∧bs'=s1.hp.take m∧(∀i∈refsD r,i < m)∧(∀b∈bs',∀i∈refsDs b,i < m)∧(isCell1 rv.toList=true→m=bs.length)
   | _=>False) ⟨ini args,bs⟩):DCalls ⟨P,W0,nb⟩ f args bs r bs':=by
 subst hk;subst hr;refine dcalls_of_body hf hb hname hn ?_;rw[ini_eq];refine dwp_mono _ (fun e s h=> ?_) (cwp_to c h);cases e <;> first | exact⟨trivial,h⟩ | exact h.elim
theorem put_upd (s:St) (d:Nat) (v:DV):s.put (some d) v=⟨upd s.tm d v,s.hp⟩:=rfl
theorem put_none (s:St) (v:DV):s.put none v=s:=rfl
theorem kills_nil (s:St):s.kills []=s:=by simp[St.kills]
theorem kills_cons (s:St) (t:Nat) (ts:List Nat):s.kills (t::ts)=(s.kills ts).put (some t) .un:=by
 simp only[St.kills,St.put,St.mk.injEq,and_true]
 funext i
 by_cases h:i=t
 ·subst h;simp
 ·simp[h]
end Go.Proofs.Dm
namespace Go.Proofs.Dm
open Go Go.RowKit
def BindGoal (o:Option St) (k:St→Prop):Prop:=match o with
 | some s=>k s
 | none=>False
def TestGoal (d:Option DV) (a b:St→Prop) (s:St):Prop:=match d with
 | some (.p (.bool t))=>IfGoal t a b s
 | _=>False
def GuardGoal (d:Option DV) (want:Bool) (a b:St→Prop) (s:St):Prop:=match d with
 | some (.p (.bool t))=>IfGoal (t==want) a b s
 | some .ud=>b s
 | _=>False
def PrepGoal (C:Ctx) (p:Option (FuncId×List DV×List Nat×List (List DV)×List Tmp)) (k:St→Prop) (s:St) (dst:Option Tmp):Prop:=match p with
 | some (f,a,ids,sub,gone)=>CallGoal C f a sub k s dst gone ids
 | none=>False
def callV:Op→Option (Operand×List Operand)
 | .call c=>match c.callee with
  | .value x=>some (x,c.args.toList)
  | _=>none
 | _=>none
def WayGoal (C:Ctx) (n:Nat) (tk:Bool) (o:Oper) (k:St→Prop) (s:St) (w:Option (Operand×List Operand)):Prop:=match w with
 | some (x,as)=>PrepGoal C (callPrep s x as) k s o.dst
 | none=>BindGoal (stepD C.P n tk o s) k
def guardV (ops:List Oper) (j:Nat) (s:St):Option DV:=((ops[j]?).bind (·.dst)).map s.tm
def SeqK (K:St→Prop) (Q:DX→St→Prop):DX→St→Prop:=fun e s=>match e with
 | .norm=>K s
 | e=>Q e s
def BlockK (id:Nat) (Q:DX→St→Prop):DX→St→Prop:=fun e s=>match e with
 | .exit j=>if j=id then Q .norm s else Q (.exit j) s
 | e=>Q e s
def LoopK (I:Nat→St→Prop) (k0 m:Nat) (Q:DX→St→Prop):DX→St→Prop:=fun e s=>match e with
 | .norm=>RoundEnd I k0 m s
 | e=>Q e s
def LoopGoal (C:Ctx) (n:Nat) (c:Code) (Q:DX→St→Prop) (s0:St):Prop:=∃(I:Nat→St→Prop) (m:Nat),Start I m s0∧∀m s,I m s→cwp C n c (LoopK I s0.hp.length m Q) s
def EndGoal (P:Program) (n0:Nat) (rv:List ResultVar) (r:DV) (bs':List (List DV)) (s0:St):Prop:=
 ∃s,Gh n0 s0 s∧∃rr m,resD P n0 s rv=some rr∧Wk rr r∧n0≤m∧m≤s.hp.length∧bs'=s.hp.take m∧(∀i∈refsD r,i < m)∧(∀b∈bs',∀i∈refsDs b,i < m)∧(isCell1 rv=true→m=n0)
def EndK (P:Program) (n0:Nat) (rv:List ResultVar) (r:DV) (bs':List (List DV)):DX→St→Prop:=fun e s=>match e with
 | .norm=>EndGoal P n0 rv r bs' s
 | .ret=>EndGoal P n0 rv r bs' s
 | _=>False
@[congr] theorem cwp_congr {C n c Q s s'} (h:s=s'):cwp C n c Q s=cwp C n c Q s':=by rw[h]
@[congr] theorem opsWp_congr {C n a b k s s'} (h:s=s'):opsWp C n a b k s=opsWp C n a b k s':=by rw[h]
@[congr] theorem opWp_congr {C n a b k s s'} (h:s=s'):opWp C n a b k s=opWp C n a b k s':=by rw[h]
@[congr] theorem opsLab_congr {C n a b c k s s'} (h:s=s'):opsLab C n a b c k s=opsLab C n a b c k s':=by rw[h]
@[congr] theorem drawWp_congr {C n a k s s'} (h:s=s'):drawWp C n a k s=drawWp C n a k s':=by rw[h]
@[congr] theorem IfGoal_congr {t t':Bool} {a b s s'} (h:t=t') (hs:s=s'):IfGoal t a b s=IfGoal t' a b s':=by rw[h,hs]
@[congr] theorem TestGoal_congr {t t':Option DV} {a b s s'} (h:t=t') (hs:s=s'):TestGoal t a b s=TestGoal t' a b s':=by rw[h,hs]
@[congr] theorem GuardGoal_congr {t t':Option DV} {w a b s s'} (h:t=t') (hs:s=s'):GuardGoal t w a b s=GuardGoal t' w a b s':=by rw[h,hs]
@[congr] theorem BindGoal_congr {t t':Option St} {a} (h:t=t'):BindGoal t a=BindGoal t' a:=by rw[h]
@[congr] theorem PrepGoal_congr {C t t' a s s' d} (h:t=t') (hs:s=s'):PrepGoal C t a s d=PrepGoal C t' a s' d:=by rw[h,hs]
@[congr] theorem WayGoal_congr {C n tk o k s s' w w'} (h:s=s') (hw:w=w'):WayGoal C n tk o k s w=WayGoal C n tk o k s' w':=by rw[h,hw]
@[congr] theorem CallGoal_congr {C f a a' b b' k s s' dst gone gone' ids ids'} (ha:a=a') (hb:b=b') (h:s=s') (hg:gone=gone') (hi:ids=ids'):CallGoal C f a b k s dst gone ids=CallGoal C f a' b' k s' dst gone' ids':=by rw[ha,hb,h,hg,hi]
@[congr] theorem LabGoal_congr {ps ls m k labs s s'} (h:s=s'):LabGoal ps ls m k labs s=LabGoal ps ls m k labs s':=by rw[h]
@[congr] theorem LabGoal2_congr {ps ls m k labs s s'} (h:s=s'):LabGoal2 ps ls m k labs s=LabGoal2 ps ls m k labs s':=by rw[h]
@[congr] theorem LoopGoal_congr {C n c Q s s'} (h:s=s'):LoopGoal C n c Q s=LoopGoal C n c Q s':=by rw[h]
@[congr] theorem EndGoal_congr {P n0 rv r bs' s s'} (h:s=s'):EndGoal P n0 rv r bs' s=EndGoal P n0 rv r bs' s':=by rw[h]
@[congr] theorem takes_congr {ops o}:takes ops o=takes ops o:=rfl
@[congr] theorem stepD_congr {P n tk o s s'} (h:s=s'):stepD P n tk o s=stepD P n tk o s':=by rw[h]
@[congr] theorem guardV_congr {ops j s s'} (h:s=s'):guardV ops j s=guardV ops j s':=by rw[h]
@[congr] theorem SeqK_congr {K Q e e' s s'} (he:e=e') (h:s=s'):SeqK K Q e s=SeqK K Q e' s':=by rw[h,he]
@[congr] theorem BlockK_congr {i Q e e' s s'} (he:e=e') (h:s=s'):BlockK i Q e s=BlockK i Q e' s':=by rw[h,he]
@[congr] theorem LoopK_congr {I k0 m Q e e' s s'} (he:e=e') (h:s=s'):LoopK I k0 m Q e s=LoopK I k0 m Q e' s':=by rw[h,he]
@[congr] theorem RoundEnd_congr {I k0 m s s'} (h:s=s'):RoundEnd I k0 m s=RoundEnd I k0 m s':=by rw[h]
theorem RoundEnd.same {I:Nat→St→Prop} {k0 m:Nat} {s:St} (m':Nat) (h1:m' < m) (h2:I m' s):RoundEnd I k0 m s:=⟨m',s,h1,Gh.refl _ _,h2⟩
theorem RoundEnd.drop {I:Nat→St→Prop} {k0 m:Nat} {s:St} (m':Nat) (h1:m' < m) (k:Nat) (h3:k0≤k) (h4:k≤s.hp.length) (h5:((s.hp.take k).all fun b=>(refsDs b).all (· < k))=true) (h2:I m' (dropSt k s)):RoundEnd I k0 m s:=
 ⟨m',_,h1,Gh.drop k h3 h4 h5,h2⟩
theorem RoundEnd.by {I:Nat→St→Prop} {k0 m:Nat} {s s':St} (m':Nat) (h1:m' < m) (g:Gh k0 s s') (h2:I m' s'):RoundEnd I k0 m s:=⟨m',s',h1,g,h2⟩
@[congr] theorem EndK_congr {P n0 rv r bs' e e' s s'} (he:e=e') (h:s=s'):EndK P n0 rv r bs' e s=EndK P n0 rv r bs' e' s':=by rw[h,he]
@[simp] theorem BindGoal_some {s k}:BindGoal (some s) k=k s:=rfl
@[simp] theorem BindGoal_none {k}:BindGoal none k=False:=rfl
@[simp] theorem TestGoal_bool {t a b s}:TestGoal (some (.p (.bool t))) a b s=IfGoal t a b s:=rfl
@[simp] theorem GuardGoal_t {t a b s}:GuardGoal (some (.p (.bool t))) true a b s=IfGoal t a b s:=by cases t <;> rfl
@[simp] theorem GuardGoal_f {t a b s}:GuardGoal (some (.p (.bool t))) false a b s=IfGoal t b a s:=by cases t <;> rfl
@[simp] theorem GuardGoal_ud {w a b s}:GuardGoal (some .ud) w a b s=b s:=rfl
@[simp] theorem PrepGoal_some {C f a ids sub gone k s dst}:PrepGoal C (some (f,a,ids,sub,gone)) k s dst=CallGoal C f a sub k s dst gone ids:=rfl
@[simp] theorem PrepGoal_none {C k s dst}:PrepGoal C none k s dst=False:=rfl
@[simp] theorem WayGoal_some {C n tk o k s x as}:WayGoal C n tk o k s (some (x,as))=PrepGoal C (callPrep s x as) k s o.dst:=rfl
@[simp] theorem WayGoal_none {C n tk o k s}:WayGoal C n tk o k s none=BindGoal (stepD C.P n tk o s) k:=rfl
theorem IfGoal_not (t:Bool) (a b:St→Prop) (s:St):IfGoal (!t) a b s=IfGoal t b a s:=by cases t <;> simp[IfGoal]
@[simp] theorem SeqK_norm {K Q s}:SeqK K Q .norm s=K s:=rfl
@[simp] theorem SeqK_exit {K Q s i}:SeqK K Q (.exit i) s=Q (.exit i) s:=rfl
@[simp] theorem SeqK_goto {K Q s i}:SeqK K Q (.goto i) s=Q (.goto i) s:=rfl
@[simp] theorem SeqK_ret {K Q s}:SeqK K Q .ret s=Q .ret s:=rfl
@[simp] theorem BlockK_norm {i Q s}:BlockK i Q .norm s=Q .norm s:=rfl
@[simp] theorem BlockK_exit {i j Q s}:BlockK i Q (.exit j) s=if j=i then Q .norm s else Q (.exit j) s:=rfl
@[simp] theorem BlockK_goto {i j Q s}:BlockK i Q (.goto j) s=Q (.goto j) s:=rfl
@[simp] theorem BlockK_ret {i Q s}:BlockK i Q .ret s=Q .ret s:=rfl
@[simp] theorem LoopK_norm {I k0 m Q s}:LoopK I k0 m Q .norm s=RoundEnd I k0 m s:=rfl
@[simp] theorem LoopK_exit {I k0 m j Q s}:LoopK I k0 m Q (.exit j) s=Q (.exit j) s:=rfl
@[simp] theorem LoopK_ret {I k0 m Q s}:LoopK I k0 m Q .ret s=Q .ret s:=rfl
@[simp] theorem EndK_norm {P n0 rv r bs' s}:EndK P n0 rv r bs' .norm s=EndGoal P n0 rv r bs' s:=rfl
@[simp] theorem EndK_ret {P n0 rv r bs' s}:EndK P n0 rv r bs' .ret s=EndGoal P n0 rv r bs' s:=rfl
@[simp↓] theorem cwp_skip {C n Q s}:cwp C n .skip Q s=Q .norm s:=rfl
@[simp↓] theorem cwp_label {C n l Q s}:cwp C n (.label l) Q s=Q .norm s:=rfl
@[simp↓] theorem cwp_region {C n i ops Q s}:cwp C n (.region i ⟨ops⟩ false) Q s=opsWp C n ops ops (Q .norm) s:=rfl
@[simp↓] theorem cwp_draw {C n i ops Q s}:cwp C n (.region i ⟨ops⟩ true) Q s=drawWp C n ops (Q .norm) s:=rfl
@[simp↓] theorem cwp_seq {C n a b Q s}:cwp C n (.seq a b) Q s=cwp C n a (SeqK (cwp C n b Q) Q) s:=rfl
@[simp↓] theorem cwp_cond {C n c a b Q s}:cwp C n (.cond c a b) Q s=TestGoal (evalD s c) (cwp C n a Q) (cwp C n b Q) s:=rfl
@[simp↓] theorem cwp_block {C n i c Q s}:cwp C n (.block i c) Q s=cwp C n c (BlockK i Q) s:=rfl
@[simp↓] theorem cwp_loop {C n c Q s}:cwp C n (.loop c) Q s=LoopGoal C n c Q s:=rfl
@[simp↓] theorem cwp_exit {C n i Q s}:cwp C n (.exit i) Q s=Q (.exit i) s:=rfl
@[simp↓] theorem cwp_goto {C n i Q s}:cwp C n (.goto i) Q s=Q (.goto i) s:=rfl
@[simp↓] theorem cwp_ret {C n Q s}:cwp C n .ret Q s=Q .ret s:=rfl
@[simp↓] theorem opsWp_nil {C n ops k s}:opsWp C n ops [] k s=k s:=by simp only[opsWp]
theorem opWp_eq {C n tk o k s}:opWp C n tk o k s=WayGoal C n tk o k s (callV o.op):=by
 unfold opWp;cases h:o.op with
 | call c=>
  dsimp only[callV];cases h2:c.callee with
  | value x=>
   dsimp only[WayGoal,PrepGoal];cases callPrep s x c.args.toList with
   | none=>rfl
   | some p=>rfl
  | _=>dsimp only[WayGoal,BindGoal];cases stepD C.P n tk o s <;> rfl
 | _=>dsimp only[callV,WayGoal,BindGoal];cases stepD C.P n tk o s <;> rfl
@[simp↓] theorem opsWp_plain {C n ops dst op ty pos after rest k s}:opsWp C n ops (⟨dst,op,ty,pos,after,none⟩::rest) k s=(dstOk n dst=true∧WayGoal C n (takes ops ⟨dst,op,ty,pos,after,none⟩) ⟨dst,op,ty,pos,after,none⟩ (opsWp C n ops rest k) s (callV op)):=by
 simp only[opsWp,opWp_eq]
@[simp↓] theorem opsLab_plain {C n ops dst op ty pos after rest acc k s}:opsLab C n ops (⟨dst,op,ty,pos,after,none⟩::rest) acc k s=(dstOk n dst=true∧WayGoal C n (takes ops ⟨dst,op,ty,pos,after,none⟩) ⟨dst,op,ty,pos,after,none⟩ (opsLab C n ops rest (acc ++ [labD C.P ops ⟨dst,op,ty,pos,after,none⟩ s]) k) s (callV op)):=by
 simp only[opsLab,opWp_eq]
@[simp↓] theorem opsLab_nil {C n ops acc k s}:opsLab C n ops [] acc k s=k acc s:=by simp only[opsLab]
def NotGoal (K:St→Prop) (d:Option Tmp):St→Prop:=fun s=>K (s.put d .ud)
def DoGoal (C:Ctx) (n:Nat) (tk:Bool) (o:Oper) (k:St→Prop):St→Prop:=fun s=>WayGoal C n tk o k s (callV o.op)
@[simp↓] theorem opsWp_g {C n ops dst op ty pos after rest k s j want}:opsWp C n ops (⟨dst,op,ty,pos,after,some (j,want)⟩::rest) k s=
  (dstOk n dst=true∧GuardGoal (guardV ops j s) want (DoGoal C n (takes ops ⟨dst,op,ty,pos,after,some (j,want)⟩) ⟨dst,op,ty,pos,after,some (j,want)⟩ (opsWp C n ops rest k)) (NotGoal (opsWp C n ops rest k) dst) s):=by
 simp only[opsWp,guardV];cases h:ops[j]? with
 | none=>simp[GuardGoal]
 | some q=>
  cases hq:q.dst with
  | none=>simp[GuardGoal,hq]
  | some t=>
   simp only[Option.bind_some,hq,Option.map_some];cases ht:s.tm t <;> try (simp[GuardGoal,NotGoal];done)
   rename_i x;cases x <;> simp[GuardGoal,DoGoal,NotGoal,opWp_eq,IfGoal]
@[simp↓] theorem opsLab_g {C n ops dst op ty pos after rest acc k s j want}:opsLab C n ops (⟨dst,op,ty,pos,after,some (j,want)⟩::rest) acc k s=
  (dstOk n dst=true∧GuardGoal (guardV ops j s) want (DoGoal C n (takes ops ⟨dst,op,ty,pos,after,some (j,want)⟩) ⟨dst,op,ty,pos,after,some (j,want)⟩ (opsLab C n ops rest (acc ++ [labD C.P ops ⟨dst,op,ty,pos,after,some (j,want)⟩ s]) k)) (NotGoal (opsLab C n ops rest (acc ++ [labD C.P ops ⟨dst,op,ty,pos,after,some (j,want)⟩ s]) k) dst) s):=by
 simp only[opsLab,guardV];cases h:ops[j]? with
 | none=>simp[GuardGoal]
 | some q=>
  cases hq:q.dst with
  | none=>simp[GuardGoal,hq]
  | some t=>
   simp only[Option.bind_some,hq,Option.map_some];cases ht:s.tm t <;> try (simp[GuardGoal,NotGoal];done)
   rename_i x;cases x <;> simp[GuardGoal,DoGoal,NotGoal,opWp_eq,IfGoal]
@[congr] theorem NotGoal_congr {K d s s'} (h:s=s'):NotGoal K d s=NotGoal K d s':=by rw[h]
@[congr] theorem DoGoal_congr {C n tk o k s s'} (h:s=s'):DoGoal C n tk o k s=DoGoal C n tk o k s':=by rw[h]
@[simp] theorem NotGoal_eq {K d s}:NotGoal K d s=K (s.put d .ud):=rfl
@[simp] theorem DoGoal_eq {C n tk o k s}:DoGoal C n tk o k s=WayGoal C n tk o k s (callV o.op):=rfl
@[simp] theorem LabGoal_nil {m k labs s}:LabGoal [] [] m k labs s=k s:=by simp[LabGoal,pairsOK,lowOK,allLt]
theorem Wks.same:∀(ds:List DV),Wks ds ds
 | []=> .nil
 | d::ds=> .cons (.refl d) (Wks.same ds)
theorem CallGoal.same {C:Ctx} {f:FuncId} {a:List DV} {sub:List (List DV)} {k:St→Prop} {s:St} {dst:Option Tmp} {gone:List Tmp} {ids:List Nat} {r bs'}
  (hd:DCalls C f a sub r bs') (hk:k (afterCall s dst gone ids r bs')):CallGoal C f a sub k s dst gone ids:= .intro hd (Wks.same a) hk
theorem IfGoal.mono {t a b a' b' s} (h:IfGoal t a b s) (h1:a s→a' s) (h2:b s→b' s):IfGoal t a' b' s:=by
 cases t
 ·rw[IfGoal_false]at h⊢;exact h2 h
 ·rw[IfGoal_true]at h⊢;exact h1 h
theorem opWp_mono {C n tk o} {k k':St→Prop} {s:St} (hk:∀s,k s→k' s) (h:opWp C n tk o k s):opWp C n tk o k' s:=by
 rw[opWp_eq]at h⊢;unfold WayGoal at h⊢;split at h
 ·unfold PrepGoal at h⊢;split at h
  ·obtain⟨args,r,bs',h1,h2,h3⟩:=h;exact⟨args,r,bs',h1,h2,hk _ h3⟩
  ·exact h
 ·unfold BindGoal at h⊢;split at h
  ·exact hk _ h
  ·exact h
theorem opsWp_mono {C n ops}:∀{l:List Oper} {k k':St→Prop} {s:St},(∀s,k s→k' s)→opsWp C n ops l k s→opsWp C n ops l k' s
 | [],k,k',s,hk,h=>hk _ h
 | o::rest,k,k',s,hk,h=>by
  simp only[opsWp]at h⊢;split at h
  ·exact⟨h.1,opWp_mono (fun s q=>opsWp_mono hk q) h.2⟩
  ·split at h
   ·split at h
    ·exact⟨h.1,h.2.mono (fun q=>opWp_mono (fun s q=>opsWp_mono hk q) q) (fun q=>opsWp_mono hk q)⟩
    ·exact⟨h.1,opsWp_mono hk h.2⟩
    ·exact h
   ·exact h
theorem opsLab_mono {C n ops}:∀{l:List Oper} {acc:List Lab} {k k':List Lab→St→Prop} {s:St},(∀a s,k a s→k' a s)→opsLab C n ops l acc k s→opsLab C n ops l acc k' s
 | [],acc,k,k',s,hk,h=>hk _ _ h
 | o::rest,acc,k,k',s,hk,h=>by
  simp only[opsLab]at h⊢;split at h
  ·exact⟨h.1,opWp_mono (fun s q=>opsLab_mono hk q) h.2⟩
  ·split at h
   ·split at h
    ·exact⟨h.1,h.2.mono (fun q=>opWp_mono (fun s q=>opsLab_mono hk q) q) (fun q=>opsLab_mono hk q)⟩
    ·exact⟨h.1,opsLab_mono hk h.2⟩
    ·exact h
   ·exact h
theorem cwp_mono {C n}:∀(c:Code) {Q Q':DX→St→Prop} {s:St},(∀e s,Q e s→Q' e s)→cwp C n c Q s→cwp C n c Q' s
 | .skip,Q,Q',s,q,e=>q _ _ e
 | .label _,Q,Q',s,q,e=>q _ _ e
 | .exit id,Q,Q',s,q,e=>q _ _ e
 | .goto l,Q,Q',s,q,e=>q _ _ e
 | .ret,Q,Q',s,q,e=>q _ _ e
 | .region id ops draw,Q,Q',s,q,e=>by
  simp only[cwp]at e⊢;split at e
  ·rename_i hd;rw[if_pos hd];exact⟨e.1,e.2.1,e.2.2.imp (opsLab_mono fun a s h=>⟨h.1,h.2.1,q _ _ h.2.2⟩) (opsLab_mono fun a s h=>⟨h.1,h.2.1,h.2.2.1,q _ _ h.2.2.2⟩)⟩
  ·rename_i hd;rw[if_neg hd];exact opsWp_mono (q _) e
 | .seq c d,Q,Q',s,q,e=>by
  simp only[cwp]at e⊢;refine cwp_mono c (fun x s' h=> ?_) e;cases x <;> first | exact cwp_mono d q h | exact q _ _ h
 | .cond c x y,Q,Q',s,q,e=>by
  simp only[cwp]at e⊢;split at e
  ·exact e.mono (cwp_mono x q) (cwp_mono y q)
  ·exact e
 | .block id c,Q,Q',s,q,e=>by
  simp only[cwp]at e⊢;refine cwp_mono c (fun x s' h=> ?_) e;cases x with
  | exit i=>
   dsimp only at h⊢;split
   ·rename_i hi;rw[if_pos hi]at h;exact q _ _ h
   ·rename_i hi;rw[if_neg hi]at h;exact q _ _ h
  | _=>exact q _ _ h
 | .loop c,Q,Q',s,q,e=>by
  simp only[cwp]at e⊢;obtain⟨I,m,h1,h2⟩:=e;refine⟨I,m,h1,fun m s hI=>cwp_mono c (fun x s' h=> ?_) (h2 m s hI)⟩;cases x <;> first | exact h | exact q _ _ h
 | .rangeFunc _ _ _ _,Q,Q',s,q,e=>by simp[cwp]at e
 | .scope _,Q,Q',s,q,e=>by simp[cwp]at e
 | .refuse _,Q,Q',s,q,e=>by simp[cwp]at e
theorem SeqK_mono {K K':St→Prop} {Q:DX→St→Prop} (h:∀s,K s→K' s):∀e s,SeqK K Q e s→SeqK K' Q e s:=by
 intro e s q;cases e <;> first | exact h _ q | exact q
theorem BlockK_mono {i:Nat} {Q Q':DX→St→Prop} (h:∀e s,Q e s→Q' e s):∀e s,BlockK i Q e s→BlockK i Q' e s:=by
 intro e s q;cases e with
 | exit j=>
  simp only[BlockK]at q⊢;split
  ·rename_i hi;rw[if_pos hi]at q;exact h _ _ q
  ·rename_i hi;rw[if_neg hi]at q;exact h _ _ q
 | _=>exact h _ _ q
theorem cwp_cut {C n a b Q s} (J:St→Prop) (h1:cwp C n a (SeqK J Q) s) (h2:∀s,J s→cwp C n b Q s):cwp C n (.seq a b) Q s:=by
 rw[cwp_seq];exact cwp_mono a (SeqK_mono h2) h1
theorem LoopGoal.cut {C n c i Q s} {K:St→Prop} (J:St→Prop) (h1:LoopGoal C n c (BlockK i (SeqK J Q)) s) (h2:∀s,J s→K s):LoopGoal C n c (BlockK i (SeqK K Q)) s:=by
 obtain⟨I,m,g1,g2⟩:=h1;refine⟨I,m,g1,fun m s hI=>cwp_mono c (fun e s' q=> ?_) (g2 m s hI)⟩;cases e with
 | norm=>exact q
 | exit j=>exact(BlockK_mono (SeqK_mono h2) (.exit j) s' q:BlockK i (SeqK K Q) (.exit j) s')
 | goto j=>exact(BlockK_mono (SeqK_mono h2) (.goto j) s' q:BlockK i (SeqK K Q) (.goto j) s')
 | ret=>exact(BlockK_mono (SeqK_mono h2) .ret s' q:BlockK i (SeqK K Q) .ret s')
theorem IfGoal.cut {C n a b Q s} {t:Bool} {K:St→Prop} (J:St→Prop) (h1:IfGoal t (cwp C n a (SeqK J Q)) (cwp C n b (SeqK J Q)) s) (h2:∀s,J s→K s):IfGoal t (cwp C n a (SeqK K Q)) (cwp C n b (SeqK K Q)) s:=
 h1.mono (cwp_mono a (SeqK_mono h2)) (cwp_mono b (SeqK_mono h2))
theorem cwp_eqv {C n c Q Q' s} (h:∀e s,Q e s↔Q' e s):cwp C n c Q s→cwp C n c Q' s:=by
 have:Q=Q':=by funext e s;exact propext (h e s)
 rw[this];exact id
theorem EndGoal.keep {P n0 rv r bs' s rr} (h1:resD P n0 s rv=some rr) (h2:Wk rr r) (h3:n0≤s.hp.length) (h4:bs'=s.hp.take n0) (h5:(refsD r).all (· < n0)=true) (h6:(bs'.all fun b=>(refsDs b).all (· < n0))=true):EndGoal P n0 rv r bs' s:=
 ⟨s,Gh.refl _ _,rr,n0,h1,h2,Nat.le_refl _,h3,h4,by simpa using h5,by simpa using h6,fun _=>rfl⟩
theorem EndGoal.by {P n0 rv r bs' s s'} (g:Gh n0 s s') (h:EndGoal P n0 rv r bs' s'):EndGoal P n0 rv r bs' s:=by
 obtain⟨s2,g2,h⟩:=h;exact⟨s2,g.trans g2,h⟩
theorem EndGoal.all {P n0 rv r bs' s rr} (h1:resD P n0 s rv=some rr) (h2:Wk rr r) (h3:n0≤s.hp.length) (h4:bs'=s.hp) (h5:(refsD r).all (· < s.hp.length)=true) (h6:(bs'.all fun b=>(refsDs b).all (· < s.hp.length))=true) (h7:isCell1 rv=false):EndGoal P n0 rv r bs' s:=
 ⟨s,Gh.refl _ _,rr,s.hp.length,h1,h2,h3,Nat.le_refl _,by simpa using h4,by simpa using h5,by simpa using h6,fun h=>by rw[h7]at h;cases h⟩
theorem dcalls_end {P:Program} {W0:World} {nb:Nat} {f:FuncId} {fn:Func} {c:Code} (hf:P.funcs[f]? =some fn) (hb:fn.body=some c) (hname:(fn.name== "runtime.NumGoroutine")=false) {args:List DV} {bs:List (List DV)} {r:DV} {bs':List (List DV)}
  (k:Nat) (hk:fn.ntmps=k) (rv:Array ResultVar) (hr:fn.results=rv) (hn:args.length≤k)
  (h:cwp ⟨P,W0,nb⟩ k c (EndK P bs.length rv.toList r bs') ⟨ini args,bs⟩):DCalls ⟨P,W0,nb⟩ f args bs r bs':=by
 refine dcalls_body hf hb hname k hk rv hr hn (cwp_eqv (fun e s=> ?_) h);cases e <;> exact Iff.rfl
attribute [simp] lenOf ownD eqDs coerT zeroCellsT nilK makeSliceD appendA appendB copyD clearD solids solid srcC needA flatArg nilC argBoxes slice3D killB maxLen guardV callV dstOk stepD moveD allocD boxD patchB loadD storeD buildD buildSliceD appendD appBase appMore appMoreT fillD rowsD pds pureD callD lenD elems sliceD optInt convD mapD evalD constD constC constCs coerD coerCells hasOwn hasOwns binD intD strD asVal flat solid solids deown zeroCells put_upd put_none upd_same upd_ne fz fzs ini resD oneD manyD isCell1 refsD refsDs calleeD argsD subHp reach boxRefs addNew closedIn mapRef mapRefs afterCall writeBack given kills_nil kills_cons backId idxIn callPrep callPrep2 nodupB IfGoal_true IfGoal_false IfGoal_not
attribute [simp] pairsOK pairsOK2 compatAdd compatCA compatSt stoB callB adB compatDyn lowOK allLt labD skips guardD looksG guardSlot looksD goneD eatsT eats goneL rdD wrD simpleD anyOwn disj ldD ldOK mvD
theorem EndGoal.kk {P n0 rv r bs' s} (h1:resD P n0 s rv=some r:=by simp) (h3:n0≤s.hp.length:=by simp) (h4:bs'=s.hp.take n0:=by simp) (h5:(refsD r).all (· < n0)=true:=by simp) (h6:(bs'.all fun b=>(refsDs b).all (· < n0))=true:=by simp):EndGoal P n0 rv r bs' s:= .keep h1 (.refl _) h3 h4 h5 h6
end Go.Proofs.Dm
