/- Part of the proof: what the walked functions compute. No condition. -/
import Derived.Test.YtmlhdhpjcipcdaaGreatDoorCa
import Derived.Test.YtmlhdhpjcipcdaaGreatDoorHd
import Derived.Test.YtmlhdhpjcipcdaaGreatDoorVc
set_option linter.unusedSimpArgs false
set_option linter.unusedVariables false
set_option maxHeartbeats 4000000
namespace Go.Proofs.Dm
open Go Go.Proofs Go.Proofs.Dm.Sc
namespace Gr
variable {α β:Type} {l l':List Tok} {Ok P Q:Nat→Nat→Prop} {R:α→α→Prop} {R2:β→β→Prop}
def sameT (t u:Tok):Prop:=t.kind=u.kind∧(t.kind≠6→t.text=u.text)
theorem word_sameT {t u:Tok} {s:ByteArray} (h:sameT t u):Pp.word t s=Pp.word u s:=by
 unfold Pp.word
 by_cases q:t.kind=6
 ·rw[←h.1,q];rfl
 ·rw[h.1,h.2 q]
theorem word_semi {t:Tok} {s:ByteArray} (h:t.kind=6):Pp.word t s=false:=by
 unfold Pp.word;rw[h];rfl
theorem word_shut {t:Tok} {s:ByteArray} (h:Fo.isO t [125]=true) (hs:s.data.toList≠ [125]):Pp.word t s=false:=by
 unfold Fo.isO at h;rw[Bool.and_eq_true,beq_iff_eq,beq_iff_eq]at h;unfold Pp.word;rw[h.2,Lib.toList_data,Bool.and_eq_false_iff];right;rw[beq_eq_false_iff_ne];exact fun q=>hs q.symm
def Run (l:List Tok) (a b:Nat):Prop:=a≤b∧(∀k,a≤k→k < b→(tokAt l k).kind=6)∧(tokAt l b).kind≠6
theorem semis_run:∀(N d a:Nat) (x:Unit) (b:Nat),semisG l N d a= .ok x b→Run l a b
 | 0,d,a,x,b,h=>by cases h
 | n + 1,d,a,x,b,h=>by
  unfold semisG at h;split at h
  ·rename_i hk;have hk':(tokAt l a).kind=6:=by simpa using hk
   obtain⟨h1,h2,h3⟩:=semis_run n d (a + 1) x b h;refine⟨by omega,fun k q1 q2=> ?_,h3⟩;rcases Nat.eq_or_lt_of_le q1 with q | q
   ·subst q;exact hk'
   ·exact h2 k q q2
  ·rename_i hk;cases h;exact⟨Nat.le_refl _,fun k q1 q2=>by omega,by simpa using hk⟩
theorem run_semis:∀(N d a b:Nat),Run l a b→b < a + N→semisG l N d a= .ok () b
 | 0,d,a,b,h,g=>by have:=h.1;omega
 | n + 1,d,a,b,h,g=>by
  unfold semisG;rcases Nat.eq_or_lt_of_le h.1 with q | q
  ·subst q;rw[if_neg (by simpa using h.2.2)]
  ·rw[if_pos (by simpa using h.2.1 a (Nat.le_refl _) q)];exact run_semis n d (a + 1) b ⟨q,fun k q1 q2=>h.2.1 k (by omega) q2,h.2.2⟩ (by omega)
theorem tok_out {i:Nat} (h:l.length≤i):tokAt l i=endT:=by
 unfold tokAt;rw[List.getElem?_eq_none h];rfl
theorem run_big {N d a b:Nat} (h:Run l a b) (hN:l.length < N):semisG l N d a= .ok () b:=by
 refine run_semis N d a b h ?_;rcases Nat.lt_or_ge b (a + 1)with q | q
 ·omega
 ·have:=h.2.1 (b - 1) (by omega) (by omega);rcases Nat.lt_or_ge (b - 1) l.length with g | g
  ·omega
  ·rw[tok_out g]at this;exact absurd this (by decide)
def QT (t u:Tok):Prop:=sameT t u∨(Fo.isO t [125]=true∧u.kind=6)
structure Sm0 (l l':List Tok) (Ok:Nat→Nat→Prop):Prop where
 tok:∀{a a'},Ok a a'→QT (tokAt l a) (tokAt l' a')
 step:∀{a a'},Ok a a'→sameT (tokAt l a) (tokAt l' a')→(tokAt l a).kind≠6→(tokAt l a).kind≠7→Fo.isO (tokAt l a) [123]=false→Ok (a + 1) (a' + 1)
 opn:∀{a a'},Ok a a'→sameT (tokAt l a) (tokAt l' a')→Fo.isO (tokAt l a) [123]=true→∀b,Run l (a + 1) b→∃b',Run l' (a' + 1) b'∧Ok b b'
 semi:∀{a a'},Ok a a'→(tokAt l a).kind=6→∀b,Run l (a + 1) b→∃b',Run l' (a' + 1) b'∧Ok b b'
 shut:∀{a a'},Ok a a'→Fo.isO (tokAt l a) [125]=true→(tokAt l' a').kind=6→∃b',Run l' (a' + 1) b'∧Ok a b'
def PSm (l l':List Tok) (Ok:Nat→Nat→Prop) (a a':Nat):Prop:=Ok a a'∧sameT (tokAt l a) (tokAt l' a')
def PQm (l l':List Tok) (Ok:Nat→Nat→Prop) (w:ByteArray) (a a':Nat):Prop:=PSm l l' Ok a a'∧Pp.word (tokAt l a) w=true
theorem QT.word {t u:Tok} {w:ByteArray} (h:QT t u) (hw:w.data.toList≠ [125]):Pp.word t w=Pp.word u w:=by
 rcases h with h | ⟨h1,h2⟩
 ·exact word_sameT h
 ·rw[word_semi h2,word_shut h1 hw]
theorem QT.same {t u:Tok} {w:ByteArray} (h:QT t u) (hw:w.data.toList≠ [125]) (q:Pp.word t w=true):sameT t u:=by
 rcases h with h | ⟨h1,h2⟩
 ·exact h
 ·rw[word_shut h1 hw]at q;cases q
theorem shut_kind {t:Tok} {x:List UInt8} (h:Fo.isO t x=true):t.kind=4:=by
 unfold Fo.isO at h;rw[Bool.and_eq_true,beq_iff_eq]at h;exact h.1
theorem QT.kind {t u:Tok} {k:Int} (h:QT t u) (h4:k≠4) (h6:k≠6):(t.kind==k)=(u.kind==k):=by
 rcases h with h | ⟨h1,h2⟩
 ·rw[h.1]
 ·rw[shut_kind h1,h2];have e1:((4:Int)==k)=false:=by rw[beq_eq_false_iff_ne];omega
  have e2:((6:Int)==k)=false:=by rw[beq_eq_false_iff_ne];omega
  rw[e1,e2]
theorem QT.kinds {t u:Tok} (h:QT t u) (h4:t.kind≠4):sameT t u:=by
 rcases h with h | ⟨h1,h2⟩
 ·exact h
 ·exact absurd (shut_kind h1) h4
def SimG (Ok P:Nat→Nat→Prop) (R:α→α→Prop) (s s':G α):Prop:=∀d a a',P a a'→∀x b,s d a= .ok x b→∃x' b',s' d a'= .ok x' b'∧Ok b b'∧R x x'
theorem SimG.bind {s s':G α} {t t':α→G β} (h:SimG Ok P R s s') (ht:∀x x',R x x'→SimG Ok Ok R2 (t x) (t' x')):SimG Ok P R2 (Gr.bind s t) (Gr.bind s' t'):=by
 intro d a a' hp x b q;obtain⟨y,c,h1,h2⟩:=bind_ok q;obtain⟨y',c',g1,g2,g3⟩:=h d a a' hp y c h1;obtain⟨x',b',k1,k2,k3⟩:=ht y y' g3 d c c' g2 x b h2;exact⟨x',b',by simp only[Gr.bind,g1,Res.andThen];exact k1,k2,k3⟩
theorem SimG.pre {s s':G α} (h:SimG Ok Q R s s') (hp:∀a a',P a a'→Q a a'):SimG Ok P R s s':=fun d a a' q=>h d a a' (hp a a' q)
theorem SimG.pure {x x':α} (hx:R x x') (hp:∀a a',P a a'→Ok a a'):SimG Ok P R (Gr.pure x) (Gr.pure x'):=fun d a a' h y b q=>by
 unfold Gr.pure at q;cases q;exact⟨x',a',rfl,hp _ a' h,hx⟩
theorem SimG.ret {x x':α} (hx:R x x'):SimG Ok Ok R (Gr.pure x) (Gr.pure x'):=SimG.pure hx fun _ _ h=>h
theorem SimG.fail {s':G α}:SimG Ok P R Gr.fail s':=fun d a a' h y b q=>by cases q
theorem SimG.stop {s':G α}:SimG Ok P R Gr.stop s':=fun d a a' h y b q=>by cases q
theorem SimG.nest {s s':G α} (h:SimG Ok P R s s'):SimG Ok P R (Gr.nest s) (Gr.nest s'):=fun d a a' hp y b q=>by
 unfold Gr.nest at q;split at q
 ·cases q
 ·rename_i hd;obtain⟨x',b',k1,k2,k3⟩:=h (d + 1) a a' hp y b q;exact⟨x',b',by unfold Gr.nest;rw[if_neg hd];exact k1,k2,k3⟩
theorem SimG.iteE {c c':Bool} {s s' t t':G α} (e:c=c') (h1:c=true→SimG Ok P R s s') (h2:c=false→SimG Ok P R t t'):SimG Ok P R (Gr.ite c s t) (Gr.ite c' s' t'):=by
 subst e;cases c
 ·exact h2 rfl
 ·exact h1 rfl
def TR (l l':List Tok) (i i':Int):Prop:=Sh.tokT l i=Sh.tokT l' i'
theorem tokT_at (a:Nat):Sh.tokT l (a:Int)=(tokAt l a).text:=by
 unfold Sh.tokT tokAt;rw[if_pos (by omega),Int.toNat_natCast];cases l[a]? <;> rfl
def AP (l l':List Tok) (Ok:Nat→Nat→Prop) (a a':Nat):Prop:=PSm l l' Ok a a'∧(tokAt l a).kind≠6∧Fo.isO (tokAt l a) [123]=false
theorem AP.tr {a a':Nat} (h:AP l l' Ok a a'):TR l l' (a:Int) (a':Int):=by
 unfold TR;rw[tokT_at,tokT_at];exact h.1.2.2 h.2.1
theorem adv_sim (H:Sm0 l l' Ok):SimG Ok (AP l l' Ok) (TR l l') (Gr.adv l) (Gr.adv l'):=fun d a a' h x b q=>by
 unfold Gr.adv at q;split at q
 ·cases q
 ·rename_i h7;cases q;have h7':(tokAt l a).kind≠7:=by simpa using h7
  refine⟨(a':Int),a' + 1,?_,H.step h.1.1 h.1.2 h.2.1 h7' h.2.2,h.tr⟩;unfold Gr.adv;rw[if_neg];rw[←h.1.2.1];exact h7
theorem SimG.adv (H:Sm0 l l' Ok) {t t':Int→G β} (hp:∀a a',P a a'→AP l l' Ok a a') (ht:∀x x',TR l l' x x'→SimG Ok Ok R2 (t x) (t' x')):SimG Ok P R2 (Gr.bind (Gr.adv l) t) (Gr.bind (Gr.adv l') t'):=SimG.bind ((adv_sim H).pre hp) ht
theorem not_open {t:Tok} {w:ByteArray} (h:Pp.word t w=true) (hw:w.data.toList≠ [123]):t.kind≠6∧Fo.isO t [123]=false:=by
 unfold Pp.word at h;rw[Bool.and_eq_true,Bool.or_eq_true,beq_iff_eq,beq_iff_eq,beq_iff_eq]at h;refine⟨by rcases h.1 with q | q <;> rw[q] <;> decide,?_⟩;unfold Fo.isO;rw[h.2,Lib.toList_data,Bool.and_eq_false_iff];right;rw[beq_eq_false_iff_ne];exact hw
theorem PQm.ap {w:ByteArray} (hw:w.data.toList≠ [123]) (a a':Nat) (h:PQm l l' Ok w a a'):AP l l' Ok a a':=⟨h.1,not_open h.2 hw⟩
theorem not_open_kind {t:Tok} {k:Int} (h:t.kind=k) (h4:k≠4):Fo.isO t [123]=false:=by
 unfold Fo.isO;rw[h,Bool.and_eq_false_iff];left;rw[beq_eq_false_iff_ne];exact h4
theorem SimG.kind (H:Sm0 l l' Ok) {k:Int} {t t':Int→G β} (h4:k≠4) (h6:k≠6) (hp:∀a a',P a a'→Ok a a') (ht:∀x x',TR l l' x x'→SimG Ok Ok R2 (t x) (t' x')):SimG Ok P R2 (Gr.bind (kindG l k) t) (Gr.bind (kindG l' k) t'):=by
 refine SimG.bind (R:=TR l l') (fun d a a' h x b q=> ?_) ht;have h1:=hp a a' h;unfold kindG at q;split at q
 ·rename_i hk;split at q
  ·cases q
  ·rename_i k7;cases q;have hk':(tokAt l a).kind=k:=by simpa using hk
   have hs:=(H.tok h1).kinds (by rw[hk'];exact h4);have ha:AP l l' Ok a a':=⟨⟨h1,hs⟩,by rw[hk'];exact h6,not_open_kind hk' h4⟩
   refine⟨(a':Int),a' + 1,?_,H.step h1 hs ha.2.1 (by rw[hk'];simpa using k7) ha.2.2,ha.tr⟩;unfold kindG;rw[←hs.1,if_pos hk,if_neg k7]
 ·cases q
theorem SimG.want (H:Sm0 l l' Ok) {w:ByteArray} {t t':Int→G β} (h3:w.data.toList≠ [123]) (h5:w.data.toList≠ [125]) (hp:∀a a',P a a'→Ok a a') (ht:∀x x',TR l l' x x'→SimG Ok Ok R2 (t x) (t' x')):SimG Ok P R2 (Gr.bind (wantG l w) t) (Gr.bind (wantG l' w) t'):=by
 refine SimG.bind (R:=TR l l') (fun d a a' h x b q=> ?_) ht;have h1:=hp a a' h;unfold wantG at q;split at q
 ·rename_i hk;cases q;have hs:=(H.tok h1).same h5 hk;have ha:AP l l' Ok a a':=⟨⟨h1,hs⟩,not_open hk h3⟩
  refine⟨(a':Int),a' + 1,?_,H.step h1 hs ha.2.1 ?_ ha.2.2,ha.tr⟩
  ·unfold wantG;rw[←word_sameT hs,if_pos hk]
  ·unfold Pp.word at hk;rw[Bool.and_eq_true,Bool.or_eq_true,beq_iff_eq,beq_iff_eq]at hk;rcases hk.1 with q | q <;> rw[q] <;> decide
 ·cases q
theorem SimG.isI (H:Sm0 l l' Ok) {w:ByteArray} {A A' B B':G α} (hw:w.data.toList≠ [125]) (hp:∀a a',P a a'→Ok a a') (h1:SimG Ok (PQm l l' Ok w) R A A') (h2:SimG Ok P R B B'):SimG Ok P R (Gr.bind (isG l w) fun b=>Gr.ite b A B) (Gr.bind (isG l' w) fun b=>Gr.ite b A' B'):=by
 intro d a a' h x b q;have e:=(H.tok (hp _ _ h)).word hw;rw[is_at]at q;simp only[is_at,←e];cases c:Pp.word (tokAt l a) w with
 | true=>
  rw[c]at q;exact h1 d a a' ⟨⟨hp _ _ h,(H.tok (hp _ _ h)).same hw c⟩,c⟩ x b q
 | false=>
  rw[c]at q;exact h2 d a a' h x b q
theorem SimG.look (H:Sm0 l l' Ok) {f f':Tok→G β} (hp:∀a a',P a a'→Ok a a') (ht:∀t t',QT t t'→SimG Ok (fun a a'=>P a a'∧tokAt l a=t∧tokAt l' a'=t') R2 (f t) (f' t')):SimG Ok P R2 (Gr.bind (Gr.look l 0) f) (Gr.bind (Gr.look l' 0) f'):=by
 intro d a a' h x b q;rw[look_at]at q;simp only[look_at];exact ht _ _ (H.tok (hp a a' h)) d a a' ⟨h,rfl,rfl⟩ x b q
def NdR (l l':List Tok) (x x':Nd):Prop:=Sh.shapeS l x=Sh.shapeS l' x'
def KR (l l':List Tok) (ks ks':List Nd):Prop:=∀s,Sh.kidsS l s ks=Sh.kidsS l' s ks'
theorem KR.nil:KR l l' [] []:=fun s=>rfl
theorem kids_snoc (l:List Tok) (x:Nd):∀(ks:List Nd) (s:ByteArray),Sh.kidsS l s (ks ++ [x])=Sh.kidsS l s ks ++(⟨#[32]⟩ ++ Sh.shapeS l x)
 | [],s=>by simp[Sh.kidsS]
 | k::ks,s=>by simp only[List.cons_append,Sh.kidsS];exact kids_snoc l x ks _
theorem KR.snoc {ks ks':List Nd} {x x':Nd} (h:KR l l' ks ks') (hx:NdR l l' x x'):KR l l' (ks ++ [x]) (ks' ++ [x']):=fun s=>by
 rw[kids_snoc,kids_snoc,h s];unfold NdR at hx;rw[hx]
theorem KR.one {x x':Nd} (hx:NdR l l' x x'):KR l l' [x] [x']:=KR.snoc (ks:= []) (ks':= []) KR.nil hx
theorem KR.two {x x' y y':Nd} (hx:NdR l l' x x') (hy:NdR l l' y y'):KR l l' [x,y] [x',y']:=KR.snoc (ks:= [x]) (ks':= [x']) (KR.one hx) hy
theorem KR.three {x x' y y' z z':Nd} (hx:NdR l l' x x') (hy:NdR l l' y y') (hz:NdR l l' z z'):KR l l' [x,y,z] [x',y',z']:=KR.snoc (ks:= [x,y]) (ks':= [x',y']) (KR.two hx hy) hz
theorem nd1 {k t t':Int} {ks ks':List Nd} (ht:TR l l' t t') (h:KR l l' ks ks'):NdR l l' (.mk k t ks) (.mk k t' ks'):=by
 unfold NdR;simp only[Sh.shapeS];have e:Sh.headS l k t=Sh.headS l' k t':=by unfold Sh.headS;rw[ht]
 rw[e,h]
theorem ndb {k t t':Int} {ks ks':List Nd} (hb:Sh.bare k=true) (h:KR l l' ks ks'):NdR l l' (.mk k t ks) (.mk k t' ks'):=by
 unfold NdR;simp only[Sh.shapeS];have e:Sh.headS l k t=Sh.headS l' k t':=by unfold Sh.headS;rw[hb];rfl
 rw[e,h]
end Gr
end Go.Proofs.Dm
set_option maxHeartbeats 4000000
namespace Go.Proofs.Dm
open Go Go.Proofs Go.Proofs.Dm.Sc
namespace Gr
variable {α β:Type} {l l':List Tok} {Ok P Q:Nat→Nat→Prop} {R:α→α→Prop} {R2:β→β→Prop}
abbrev SX (l l':List Tok) (Ok:Nat→Nat→Prop) (s s':GN):Prop:=SimG Ok Ok (NdR l l') s s'
theorem I2 (a a':Nat) (h:Ok a a'):Ok a a':=h
theorem bind_run {s:G α} {t:α→G β} {d a:Nat} {y:α} {b:Nat} (h:s d a= .ok y b):Gr.bind s t d a=t y d b:=by
 unfold Gr.bind;rw[h];rfl
theorem kind_run {d a:Nat} (h:(tokAt l a).kind=6):kindG l 6 d a= .ok (a:Int) (a + 1):=by
 unfold kindG;rw[if_pos (by simpa using h),if_neg (by decide)]
theorem want_run {d a:Nat} {w:ByteArray} (h:Pp.word (tokAt l a) w=true):wantG l w d a= .ok (a:Int) (a + 1):=by
 unfold wantG;rw[if_pos h]
theorem adv_run {d a:Nat} (h:(tokAt l a).kind≠7):Gr.adv l d a= .ok (a:Int) (a + 1):=by
 unfold Gr.adv;rw[if_neg (by simpa using h)]
theorem Sm0.same (H:Sm0 l l' Ok) {a a' c:Nat} (h:Ok a a') (r:Run l' c a'):sameT (tokAt l a) (tokAt l' a'):=by
 rcases H.tok h with s | ⟨_,s⟩
 ·exact s
 ·exact absurd s r.2.2
theorem sim_typ (H:Sm0 l l' Ok):SX l l' Ok (typG l) (typG l'):=SimG.kind H (by decide) (by decide) I2 fun t t' ht=>SimG.isI H (by decide) I2 (SimG.adv H (PQm.ap (by decide)) fun _ _ _=>SimG.kind H (by decide) (by decide) I2 fun u u' hu=>SimG.ret (nd1 hu (KR.one (nd1 ht KR.nil)))) (SimG.ret (nd1 ht KR.nil))
theorem sim_variable (H:Sm0 l l' Ok) {E E':GN} (hE:SX l l' Ok E E'):SimG Ok (PQm l l' Ok ⟨#[118,97,114]⟩) (NdR l l') (variableG l E) (variableG l' E'):=
 SimG.adv H (PQm.ap (by decide)) fun _ _ _=>SimG.kind H (by decide) (by decide) I2 fun t t' ht=>SimG.bind (sim_typ H) fun y y' hy=>SimG.isI H (by decide) I2 (SimG.adv H (PQm.ap (by decide)) fun _ _ _=>SimG.bind hE fun e e' he=>SimG.ret (nd1 ht (KR.two hy he))) (SimG.ret (nd1 ht (KR.one hy)))
theorem sim_constant (H:Sm0 l l' Ok) {E E':GN} (hE:SX l l' Ok E E'):SimG Ok (PQm l l' Ok ⟨#[99,111,110,115,116]⟩) (NdR l l') (constantG l E) (constantG l' E'):=
 SimG.adv H (PQm.ap (by decide)) fun _ _ _=>SimG.kind H (by decide) (by decide) I2 fun t t' ht=>SimG.want H (by decide) (by decide) I2 fun _ _ _=>SimG.bind hE fun e e' he=>SimG.ret (nd1 ht (KR.one he))
theorem sim_curlyL (H:Sm0 l l' Ok) {S S':GN} (hS:SX l l' Ok S S') {N N':Nat} (hN:l'.length < N'):∀(n m:Nat) (ks ks':List Nd),n≤m→KR l l' ks ks'→∀d a a' x b,PSm l l' Ok a a'→curlyLG l S N n ks d a= .ok x b→∃x' b',curlyLG l' S' N' m ks' d a'= .ok x' b'∧PSm l l' Ok b b'∧Pp.word (tokAt l b) ⟨#[125]⟩=true∧KR l l' x x'
 | 0,m,ks,ks',hm,hk,d,a,a',x,b,hp,q=>by cases q
 | n + 1,0,ks,ks',hm,hk,d,a,a',x,b,hp,q=>by omega
 | n + 1,m + 1,ks,ks',hm,hk,d,a,a',x,b,hp,q=>by
  unfold curlyLG at q;rw[is_at]at q;have e:=word_sameT (s:=⟨#[125]⟩) hp.2;cases c:Pp.word (tokAt l a) ⟨#[125]⟩with
  | true=>
   rw[c]at q
   replace q:Gr.pure ks d a= .ok x b:=q
   unfold Gr.pure at q;cases q;refine⟨ks',a',?_,hp,c,hk⟩;unfold curlyLG;rw[is_at,←e,c];rfl
  | false=>
   rw[c]at q
   replace q:Gr.bind S _ d a= .ok x b:=q
   obtain⟨y,c1,h1,h2⟩:=bind_ok q;obtain⟨y',c1',g1,g2,g3⟩:=hS d a a' hp.1 y c1 h1;rw[is_at]at h2;have hks:=hk.snoc g3;cases c2:Pp.word (tokAt l c1) ⟨#[125]⟩with
   | true=>
    rw[c2]at h2
    replace h2:curlyLG l S N n (ks ++ [y]) d c1= .ok x b:=h2
    rcases H.tok g2 with s | ⟨s1,s2⟩
    ·obtain⟨x',b',k1,k2⟩:=sim_curlyL H hS hN n m _ _ (by omega) hks d c1 c1' x b ⟨g2,s⟩ h2;refine⟨x',b',?_,k2⟩;unfold curlyLG;rw[is_at,←e,c];show Gr.bind S' _ d a'=_;rw[bind_run g1,is_at,←word_sameT s,c2];exact k1
    ·obtain⟨b2,r1,r2⟩:=H.shut g2 s1 s2;obtain⟨x',b',k1,k2⟩:=sim_curlyL H hS hN n m _ _ (by omega) hks d c1 b2 x b ⟨r2,H.same r2 r1⟩ h2;refine⟨x',b',?_,k2⟩;unfold curlyLG;rw[is_at,←e,c];show Gr.bind S' _ d a'=_;rw[bind_run g1,is_at,word_semi s2];show Gr.bind (kindG l' 6) _ d c1'=_;rw[bind_run (kind_run s2),bind_run (run_big r1 hN)];exact k1
   | false=>
    rw[c2]at h2
    replace h2:Gr.bind (kindG l 6) _ d c1= .ok x b:=h2
    obtain⟨u,c3,h3,h4⟩:=bind_ok h2;obtain⟨rfl,k6⟩:=kind_ok h3;obtain⟨z,c4,h5,h6⟩:=bind_ok h4;have s6:(tokAt l' c1').kind=6:=by
     rcases H.tok g2 with s | ⟨s1,s2⟩
     ·rw[←s.1];exact k6
     ·exact s2
    obtain⟨b2,r1,r2⟩:=H.semi g2 k6 c4 (semis_run _ _ _ _ _ h5);obtain⟨x',b',k1,k2⟩:=sim_curlyL H hS hN n m _ _ (by omega) hks d c4 b2 x b ⟨r2,H.same r2 r1⟩ h6;refine⟨x',b',?_,k2⟩;unfold curlyLG;rw[is_at,←e,c];show Gr.bind S' _ d a'=_;rw[bind_run g1,is_at,word_semi s6];show Gr.bind (kindG l' 6) _ d c1'=_;rw[bind_run (kind_run s6),bind_run (run_big r1 hN)];exact k1
theorem sim_curly (H:Sm0 l l' Ok) (hK:KTs l) {S S':GN} (hS:SX l l' Ok S S') {N N':Nat} (hN:l'.length < N') (hM:N≤N'):SimG Ok Ok (fun r r'=>TR l l' r.1 r'.1∧KR l l' r.2 r'.2) (curlyG l S N) (curlyG l' S' N'):=by
 refine SimG.isI H (by decide) I2 (SimG.nest fun d a a' hp x b q=> ?_) SimG.fail;obtain⟨t,c0,h1,q⟩:=bind_ok q;unfold Gr.adv at h1;split at h1
 ·cases h1
 rename_i h7;cases h1;obtain⟨z,c,h2,q⟩:=bind_ok q;obtain⟨ks,e,h3,q⟩:=bind_ok q;obtain⟨w,f,h4,q⟩:=bind_ok q;unfold Gr.pure at q;cases q;have o:=brace_word (hK a) (.inl rfl) hp.2;obtain⟨c',r1,r2⟩:=H.opn hp.1.1 hp.1.2 o c (semis_run _ _ _ _ _ h2);obtain⟨ks',e',k1,k2,k3,k4⟩:=sim_curlyL H hS hN N N' [] [] hM KR.nil _ c c' ks e ⟨r2,H.same r2 r1⟩ h3;obtain⟨rfl,hw⟩:=want_ok h4;have hn:=not_open hw (by decide);have hs:=hp.1.2;have n6:=shut_kind o;refine⟨((a':Int),ks'),e' + 1,?_,H.step k2.1 k2.2 hn.1 ?_ hn.2,?_,k4⟩
 ·rw[bind_run (adv_run (by rw[←hs.1];simpa using h7)),bind_run (run_big r1 hN),bind_run k1,bind_run (want_run (by rw[←word_sameT k2.2];exact hw))];rfl
 ·have:=word_ne7 hw;simpa using this
 ·show TR l l' (a:Int) (a':Int);unfold TR;rw[tokT_at,tokT_at];exact hs.2 (by rw[n6];decide)
theorem sim_block (H:Sm0 l l' Ok) (hK:KTs l) {S S':GN} (hS:SX l l' Ok S S') {N N':Nat} (hN:l'.length < N') (hM:N≤N'):SX l l' Ok (blockG l S N) (blockG l' S' N'):=SimG.bind (sim_curly H hK hS hN hM) fun r r' hr=>SimG.ret (nd1 hr.1 hr.2)
theorem sim_field (H:Sm0 l l' Ok):SX l l' Ok (fieldG l) (fieldG l'):=SimG.kind H (by decide) (by decide) I2 fun t t' ht=>SimG.bind (sim_typ H) fun y y' hy=>SimG.ret (nd1 ht (KR.one hy))
theorem sim_structure (H:Sm0 l l' Ok) (hK:KTs l) {N N':Nat} (hN:l'.length < N') (hM:N≤N'):SimG Ok (PQm l l' Ok ⟨#[116,121,112,101]⟩) (NdR l l') (structureG l N) (structureG l' N'):=
 SimG.adv H (PQm.ap (by decide)) fun _ _ _=>SimG.kind H (by decide) (by decide) I2 fun t t' ht=>SimG.want H (by decide) (by decide) I2 fun _ _ _=>SimG.bind (sim_curly H hK (sim_field H) hN hM) fun r r' hr=>SimG.ret (nd1 ht hr.2)
theorem sim_funcL (H:Sm0 l l' Ok):∀(n m:Nat) (ks ks':List Nd),n≤m→KR l l' ks ks'→SimG Ok Ok (KR l l') (funcLG l n ks) (funcLG l' m ks')
 | 0,m,ks,ks',hm,hk=>SimG.stop
 | n + 1,0,ks,ks',hm,hk=>by omega
 | n + 1,m + 1,ks,ks',hm,hk=>SimG.isI H (by decide) I2 (SimG.pure hk fun _ _ h=>h.1.1) (SimG.kind H (by decide) (by decide) I2 fun t t' ht=>SimG.bind (sim_typ H) fun y y' hy=>
   SimG.isI H (by decide) I2 ((sim_funcL H n m _ _ (by omega) (hk.snoc (nd1 ht (KR.one hy)))).pre fun _ _ h=>h.1.1) (SimG.want H (by decide) (by decide) I2 fun _ _ _=>SimG.isI H (by decide) I2 SimG.fail (sim_funcL H n m _ _ (by omega) (hk.snoc (nd1 ht (KR.one hy))))))
theorem sim_function (H:Sm0 l l' Ok) {C C':GN} (hC:SX l l' Ok C C') {N N':Nat} (hM:N≤N'):SimG Ok (PQm l l' Ok ⟨#[102,117,110,99]⟩) (NdR l l') (functionG l C N) (functionG l' C' N'):=
 SimG.adv H (PQm.ap (by decide)) fun _ _ _=>SimG.kind H (by decide) (by decide) I2 fun t t' ht=>SimG.want H (by decide) (by decide) I2 fun _ _ _=>SimG.bind (sim_funcL H N N' [] [] hM KR.nil) fun ks ks' hk=>SimG.want H (by decide) (by decide) I2 fun _ _ _=>
  SimG.look H I2 fun k k' q=>SimG.iteE (q.kind (by decide) (by decide)) (fun _=>(SimG.bind (sim_typ H) fun y y' hy=>SimG.bind hC fun b b' hb=>SimG.ret (nd1 ht ((hk.snoc hy).snoc hb))).pre fun _ _ h=>h.1) (fun _=>(SimG.bind hC fun b b' hb=>SimG.ret (nd1 ht (hk.snoc hb))).pre fun _ _ h=>h.1)
theorem AP.look {t t':Tok} {k:Int} (q:QT t t') (hc:(t.kind==k)=true) (h4:k≠4) (h6:k≠6) (a a':Nat) (h:Ok a a'∧tokAt l a=t∧tokAt l' a'=t'):AP l l' Ok a a':=by
 have hk:t.kind=k:=by simpa using hc
 obtain⟨h1,h2,h3⟩:=h;exact⟨⟨h1,by rw[h2,h3];exact q.kinds (by rw[hk];exact h4)⟩,by rw[h2,hk];exact h6,by rw[h2];exact not_open_kind hk h4⟩
theorem sim_leave (H:Sm0 l l' Ok) {w:ByteArray} (hw:w.data.toList≠ [123]) (k:Int):SimG Ok (PQm l l' Ok w) (NdR l l') (leaveG l k) (leaveG l' k):=
 SimG.adv H (PQm.ap hw) fun t t' ht=>SimG.look H I2 fun x x' q=>SimG.iteE (q.kind (by decide) (by decide)) (fun hc=>SimG.adv H (AP.look q hc (by decide) (by decide)) fun u u' hu=>SimG.ret (nd1 ht (KR.one (nd1 hu KR.nil)))) (fun _=>SimG.pure (nd1 ht KR.nil) fun _ _ h=>h.1)
theorem sim_branch (H:Sm0 l l' Ok) {E E' C C' K K':GN} (hE:SX l l' Ok E E') (hC:SX l l' Ok C C') (hK:SimG Ok (PQm l l' Ok ⟨#[105,102]⟩) (NdR l l') K K'):SimG Ok (PQm l l' Ok ⟨#[105,102]⟩) (NdR l l') (branchG l E C K) (branchG l' E' C' K'):=
 SimG.adv H (PQm.ap (by decide)) fun t t' ht=>SimG.bind hE fun e e' he=>SimG.bind hC fun b b' hb=>SimG.isI H (by decide) I2
  (SimG.adv H (PQm.ap (by decide)) fun _ _ _=>SimG.isI H (by decide) I2 (SimG.bind (SimG.nest hK) fun r r' hr=>SimG.ret (nd1 ht (KR.three he hb hr))) (SimG.bind hC fun r r' hr=>SimG.ret (nd1 ht (KR.three he hb hr)))) (SimG.ret (nd1 ht (KR.two he hb)))
theorem sim_loop (H:Sm0 l l' Ok) {E E' C C':GN} (hE:SX l l' Ok E E') (hC:SX l l' Ok C C'):SimG Ok (PQm l l' Ok ⟨#[102,111,114]⟩) (NdR l l') (loopG l E C) (loopG l' E' C'):=
 SimG.adv H (PQm.ap (by decide)) fun t t' ht=>SimG.bind hE fun e e' he=>SimG.bind hC fun b b' hb=>SimG.ret (nd1 ht (KR.two he hb))
theorem word_of_shut {t:Tok} (h:Fo.isO t [125]=true):Pp.word t ⟨#[125]⟩=true:=by
 unfold Fo.isO at h;rw[Bool.and_eq_true,beq_iff_eq,beq_iff_eq]at h;unfold Pp.word;rw[h.1,h.2,Lib.toList_data];rfl
theorem SimG.isS {w:ByteArray} {A A' B B':G α} (hp:∀a a',P a a'→PSm l l' Ok a a') (h1:SimG Ok (PQm l l' Ok w) R A A') (h2:SimG Ok P R B B'):SimG Ok P R (Gr.bind (isG l w) fun b=>Gr.ite b A B) (Gr.bind (isG l' w) fun b=>Gr.ite b A' B'):=by
 intro d a a' h x b q;have e:=word_sameT (s:=w) (hp _ _ h).2;rw[is_at]at q;simp only[is_at,←e];cases c:Pp.word (tokAt l a) w with
 | true=>
  rw[c]at q;exact h1 d a a' ⟨hp _ _ h,c⟩ x b q
 | false=>
  rw[c]at q;exact h2 d a a' h x b q
theorem sim_back (H:Sm0 l l' Ok) {E E':GN} (hE:SX l l' Ok E E'):SimG Ok (PQm l l' Ok ⟨#[114,101,116,117,114,110]⟩) (NdR l l') (backG l E) (backG l' E'):=
 SimG.adv H (PQm.ap (by decide)) fun t t' ht=>SimG.look H I2 fun k k' q=>by
  rcases q with s | ⟨s1,s2⟩
  ·refine SimG.iteE (by rw[s.1]) (fun _=>SimG.pure (nd1 ht KR.nil) fun _ _ h=>h.1) fun _=> ?_
   exact SimG.isS (fun a a' h=>⟨h.1,by rw[h.2.1,h.2.2];exact s⟩) (SimG.pure (nd1 ht KR.nil) fun _ _ h=>h.1.1) ((SimG.bind hE fun e e' he=>SimG.ret (nd1 ht (KR.one he))).pre fun _ _ h=>h.1)
  ·intro d a a' h x b q;have h6:(k.kind==6)=false:=by rw[shut_kind s1];rfl
   have h6':(k'.kind==6)=true:=by rw[s2];rfl
   rw[ite_f h6,is_at,h.2.1,word_of_shut s1]at q
   replace q:Gr.pure (.mk 16 t []:Nd) d a= .ok x b:=q
   unfold Gr.pure at q;cases q;exact⟨.mk 16 t' [],a',by rw[ite_t h6'];rfl,h.1,nd1 ht KR.nil⟩
theorem here_sim (hp:∀a a',P a a'→Ok a a'):SimG Ok P (fun _ _=>True) Gr.here Gr.here:=fun d a a' h x b q=>by
 unfold Gr.here at q;cases q;exact⟨(a':Int),a',rfl,hp _ _ h,True.intro⟩
theorem sim_rest (H:Sm0 l l' Ok) {E E':GN} (hE:SX l l' Ok E E'):SX l l' Ok (restG l E) (restG l' E'):=
 SimG.bind (here_sim I2) fun f f' _=>SimG.bind hE fun x x' hx=>SimG.isI H (by decide) I2 (SimG.adv H (PQm.ap (by decide)) fun t t' ht=>SimG.bind hE fun y y' hy=>SimG.ret (nd1 ht (KR.two hx hy))) (SimG.ret (ndb rfl (KR.one hx)))
theorem SimG.look1 (H:Sm0 l l' Ok) {f f':Tok→G β} (hp:∀a a',P a a'→Ok (a + 1) (a' + 1)) (ht:∀t t',QT t t'→SimG Ok (fun a a'=>P a a'∧tokAt l (a + 1)=t∧tokAt l' (a' + 1)=t') R2 (f t) (f' t')):SimG Ok P R2 (Gr.bind (Gr.look l 1) f) (Gr.bind (Gr.look l' 1) f'):=by
 intro d a a' h x b q;rw[look_at]at q;simp only[look_at];exact ht _ _ (H.tok (hp a a' h)) d a a' ⟨h,rfl,rfl⟩ x b q
theorem SimG.adv2 (H:Sm0 l l' Ok) {t t':Int→G β} (hp:∀a a',P a a'→AP l l' Ok a a'∧AP l l' Ok (a + 1) (a' + 1)) (ht:∀x x',TR l l' x x'→SimG Ok Ok R2 (t x) (t' x')):SimG Ok P R2 (Gr.bind (Gr.adv l) fun x=>Gr.bind (Gr.adv l) fun _=>t x) (Gr.bind (Gr.adv l') fun x=>Gr.bind (Gr.adv l') fun _=>t' x):=by
 intro d a a' h x b q0;obtain⟨y,c,h1,q1⟩:=bind_ok q0;obtain⟨z,c2,h2,q⟩:=bind_ok q1;obtain⟨k1,k2⟩:=hp a a' h;obtain⟨y',c',g1,g2,g3⟩:=adv_sim H d a a' k1 y c h1;obtain⟨rfl,_⟩:=adv_ok h1;obtain⟨rfl,_⟩:=adv_ok g1;obtain⟨z',c2',f1,f2,f3⟩:=adv_sim H d _ _ k2 z c2 h2;obtain⟨x',b',e1,e2⟩:=ht y y' g3 d c2 c2' f2 x b q;exact⟨x',b',by rw[bind_run g1,bind_run f1];exact e1,e2⟩
theorem sim_simple (H:Sm0 l l' Ok) {E E' L L':GN} (hE:SX l l' Ok E E') (hL:SimG Ok (PQm l l' Ok ⟨#[102,111,114]⟩) (NdR l l') L L'):SX l l' Ok (simpleG l E L) (simpleG l' E' L'):=
 SimG.look H I2 fun t t' q=>SimG.iteE (q.kind (by decide) (by decide)) (fun hc=>by
  have hk:t.kind=1:=by simpa using hc
  have ap:∀a a',(Ok a a'∧tokAt l a=t∧tokAt l' a'=t')→AP l l' Ok a a':=AP.look q hc (by decide) (by decide);have nx:∀a a',(Ok a a'∧tokAt l a=t∧tokAt l' a'=t')→Ok (a + 1) (a' + 1):=fun a a' h=>by
   have g:=ap a a' h;exact H.step g.1.1 g.1.2 g.2.1 (by rw[h.2.1,hk];decide) g.2.2
  refine SimG.look1 H nx fun n n' r=> ?_
  have ap2:∀w:ByteArray,w.data.toList≠ [123]→w.data.toList≠ [125]→Pp.word n w=true→∀a a',((Ok a a'∧tokAt l a=t∧tokAt l' a'=t')∧tokAt l (a + 1)=n∧tokAt l' (a' + 1)=n')→AP l l' Ok a a'∧AP l l' Ok (a + 1) (a' + 1):=fun w w1 w2 hw a a' h=>by
   refine⟨ap a a' h.1,⟨nx a a' h.1,?_⟩,?_⟩
   ·rw[h.2.1,h.2.2];exact r.same w2 hw
   ·rw[h.2.1];exact not_open hw w1
  refine SimG.iteE (r.word (by decide)) (fun hw=>SimG.adv2 H (ap2 _ (by decide) (by decide) hw) fun t t' ht=>SimG.bind hE fun e e' he=>SimG.ret (nd1 ht (KR.one he))) fun _=> ?_
  refine SimG.iteE (r.word (by decide)) (fun hw=>SimG.adv2 H (ap2 _ (by decide) (by decide) hw) fun t t' ht=>SimG.isI H (by decide) I2 (SimG.bind hL fun x x' hx=>SimG.ret (nd1 ht (KR.one hx))) SimG.fail) fun _=> ?_
  exact(sim_rest H hE).pre fun _ _ h=>h.1.1) (fun _=>(sim_rest H hE).pre fun _ _ h=>h.1)
theorem sim_stmt (H:Sm0 l l' Ok) {V V' C C' B B' I I' L L' K K' M M':GN} (hV:SimG Ok (PQm l l' Ok ⟨#[118,97,114]⟩) (NdR l l') V V') (hC:SimG Ok (PQm l l' Ok ⟨#[99,111,110,115,116]⟩) (NdR l l') C C') (hB:SX l l' Ok B B') (hI:SimG Ok (PQm l l' Ok ⟨#[105,102]⟩) (NdR l l') I I')
  (hL:SimG Ok (PQm l l' Ok ⟨#[102,111,114]⟩) (NdR l l') L L') (hK:SimG Ok (PQm l l' Ok ⟨#[114,101,116,117,114,110]⟩) (NdR l l') K K') (hM:SX l l' Ok M M'):SX l l' Ok (stmtG l V C B I L K M) (stmtG l' V' C' B' I' L' K' M'):=
 SimG.isI H (by decide) I2 hV (SimG.isI H (by decide) I2 hC (SimG.isI H (by decide) I2 (hB.pre fun _ _ h=>h.1.1) (SimG.isI H (by decide) I2 hI (SimG.isI H (by decide) I2 hL (SimG.isI H (by decide) I2 hK (SimG.isI H (by decide) I2 (sim_leave H (by decide) 17) (SimG.isI H (by decide) I2 (sim_leave H (by decide) 18) hM)))))))
theorem sim_decl (H:Sm0 l l' Ok) {V V' C C' S S' F F':GN} (hV:SimG Ok (PQm l l' Ok ⟨#[118,97,114]⟩) (NdR l l') V V') (hC:SimG Ok (PQm l l' Ok ⟨#[99,111,110,115,116]⟩) (NdR l l') C C') (hS:SimG Ok (PQm l l' Ok ⟨#[116,121,112,101]⟩) (NdR l l') S S') (hF:SimG Ok (PQm l l' Ok ⟨#[102,117,110,99]⟩) (NdR l l') F F'):SX l l' Ok (declG l V C S F) (declG l' V' C' S' F'):=
 SimG.isI H (by decide) I2 hV (SimG.isI H (by decide) I2 hC (SimG.isI H (by decide) I2 hS (SimG.isI H (by decide) I2 hF SimG.fail)))
theorem rank_shut {t:Tok} (h:Fo.isO t [125]=true):Pp.rank t.text=0:=by
 unfold Fo.isO at h;rw[Bool.and_eq_true,beq_iff_eq,beq_iff_eq]at h;unfold Pp.rank;rw[h.2];rfl
theorem rank_open {t:Tok} (h:Fo.isO t [123]=true):Pp.rank t.text=0:=by
 unfold Fo.isO at h;rw[Bool.and_eq_true,beq_iff_eq,beq_iff_eq]at h;unfold Pp.rank;rw[h.2];rfl
theorem ite_same {c:Bool} {s:G α}:Gr.ite c s s=s:=by cases c <;> rfl
theorem sim_binaryL (H:Sm0 l l' Ok) {Y Y':Int→GN} (hY:∀r,SX l l' Ok (Y r) (Y' r)):∀(n m:Nat) (rk:Int) (x x':Nd),n≤m→NdR l l' x x'→SX l l' Ok (binaryLG l Y n rk x) (binaryLG l' Y' m rk x')
 | 0,m,rk,x,x',hm,hx=>SimG.stop
 | n + 1,0,rk,x,x',hm,hx=>by omega
 | n + 1,m + 1,rk,x,x',hm,hx=>SimG.look H I2 fun t t' q=>by
  rcases q with s | ⟨s1,s2⟩
  ·refine SimG.iteE (by rw[s.1]) (fun _=>SimG.pure hx fun _ _ h=>h.1) fun h4=> ?_
   have k4:t.kind=4:=by simpa using h4
   have e:=s.2 (by rw[k4];decide);rw[←e];refine SimG.iteE rfl (fun _=>SimG.pure hx fun _ _ h=>h.1) fun _=>SimG.iteE rfl (fun _=>SimG.pure hx fun _ _ h=>h.1) fun hr=> ?_
   refine SimG.adv H (fun a a' h=>⟨⟨h.1,by rw[h.2.1,h.2.2];exact s⟩,by rw[h.2.1,k4];decide,?_⟩) fun o o' ho=>SimG.bind (hY _) fun y y' hy=>sim_binaryL H hY n m rk _ _ (by omega) (nd1 ho (KR.two hx hy))
   rw[h.2.1,Bool.eq_false_iff];intro g;rw[rank_open g]at hr;exact absurd hr (by decide)
  ·intro d a a' h y b q;have h4:(t.kind !=4)=false:=by rw[shut_kind s1];rfl
   have h4':(t'.kind !=4)=true:=by rw[s2];rfl
   have h0:(Pp.rank t.text==0)=true:=by rw[rank_shut s1];rfl
   rw[ite_f h4,ite_t h0,ite_same]at q;unfold Gr.pure at q;cases q;exact⟨x',a',by rw[ite_t h4'];rfl,h.1,hx⟩
theorem sim_binary (H:Sm0 l l' Ok) {U U':GN} {Y Y':Int→GN} (hU:SX l l' Ok U U') (hY:∀r,SX l l' Ok (Y r) (Y' r)) {N N':Nat} (hM:N≤N') (rk:Int):SX l l' Ok (binaryG l U Y N rk) (binaryG l' U' Y' N' rk):=SimG.bind hU fun x x' hx=>sim_binaryL H hY N N' rk x x' hM hx
theorem sim_unary (H:Sm0 l l' Ok) {U U' F F':GN} (hU:SX l l' Ok U U') (hF:SX l l' Ok F F'):SX l l' Ok (unaryG l U F) (unaryG l' U' F'):=
 SimG.look H I2 fun t t' q=>by
  rcases q with s | ⟨s1,s2⟩
  ·refine SimG.iteE (by rw[s.1]) (fun _=>hF.pre fun _ _ h=>h.1) fun h4=> ?_
   have k4:t.kind=4:=by simpa using h4
   have e:=s.2 (by rw[k4];decide);rw[←e];refine SimG.iteE rfl (fun hu=>SimG.nest ?_) (fun _=>hF.pre fun _ _ h=>h.1);refine SimG.adv H (fun a a' h=>⟨⟨h.1,by rw[h.2.1,h.2.2];exact s⟩,by rw[h.2.1,k4];decide,?_⟩) fun o o' ho=>SimG.bind hU fun x x' hx=>SimG.ret (nd1 ho (KR.one hx))
   rw[h.2.1];unfold Pp.unaryS at hu;rw[Bool.or_eq_true,beq_iff_eq,beq_iff_eq]at hu;unfold Fo.isO;rcases hu with q | q <;> rw[q,Bool.and_eq_false_iff] <;> exact .inr rfl
  ·intro d a a' h y b q;have h4:(t.kind !=4)=false:=by rw[shut_kind s1];rfl
   have h4':(t'.kind !=4)=true:=by rw[s2];rfl
   have hu:Pp.unaryS t.text=false:=by
    unfold Fo.isO at s1;rw[Bool.and_eq_true,beq_iff_eq,beq_iff_eq]at s1;unfold Pp.unaryS;rw[s1.2];rfl
   rw[ite_f h4,ite_f hu]at q;rw[ite_t h4'];exact hF d a a' h.1 y b q
theorem sim_first (H:Sm0 l l' Ok) {E E':GN} (hE:SX l l' Ok E E'):SX l l' Ok (firstG l E) (firstG l' E'):=
 SimG.look H I2 fun t t' q=>SimG.iteE (q.kind (by decide) (by decide)) (fun hc=>SimG.adv H (AP.look q hc (by decide) (by decide)) fun o o' ho=>SimG.ret (nd1 ho KR.nil)) fun _=>
  SimG.iteE (q.kind (by decide) (by decide)) (fun hc=>SimG.adv H (AP.look q hc (by decide) (by decide)) fun o o' ho=>SimG.ret (nd1 ho KR.nil)) fun _=>
  SimG.iteE (q.kind (by decide) (by decide)) (fun hc=>SimG.adv H (AP.look q hc (by decide) (by decide)) fun o o' ho=>SimG.ret (nd1 ho KR.nil)) fun _=>
  (SimG.isI H (by decide) I2 (SimG.nest (SimG.adv H (PQm.ap (by decide)) fun o o' ho=>SimG.bind hE fun x x' hx=>SimG.want H (by decide) (by decide) I2 fun _ _ _=>SimG.ret (nd1 ho (KR.one hx)))) SimG.fail).pre fun _ _ h=>h.1
theorem sim_primL (H:Sm0 l l' Ok) {K K':Nd→GN} (hK:∀x x',NdR l l' x x'→SimG Ok (PQm l l' Ok ⟨#[40]⟩) (NdR l l') (K x) (K' x')):∀(n m:Nat) (x x':Nd),n≤m→NdR l l' x x'→SX l l' Ok (primLG l K n x) (primLG l' K' m x')
 | 0,m,x,x',hm,hx=>SimG.stop
 | n + 1,0,x,x',hm,hx=>by omega
 | n + 1,m + 1,x,x',hm,hx=>SimG.isI H (by decide) I2 (SimG.bind (hK x x' hx) fun y y' hy=>sim_primL H hK n m y y' (by omega) hy) (SimG.isI H (by decide) I2 (SimG.adv H (PQm.ap (by decide)) fun _ _ _=>SimG.kind H (by decide) (by decide) I2 fun t t' ht=>sim_primL H hK n m _ _ (by omega) (nd1 ht (KR.one hx))) (SimG.ret hx))
theorem sim_callL (H:Sm0 l l' Ok) {E E':GN} (hE:SX l l' Ok E E'):∀(n m:Nat) (ks ks':List Nd),n≤m→KR l l' ks ks'→SimG Ok Ok (KR l l') (callLG l E n ks) (callLG l' E' m ks')
 | 0,m,ks,ks',hm,hk=>SimG.stop
 | n + 1,0,ks,ks',hm,hk=>by omega
 | n + 1,m + 1,ks,ks',hm,hk=>SimG.isI H (by decide) I2 (SimG.pure hk fun _ _ h=>h.1.1) (SimG.bind hE fun e e' he=>SimG.isI H (by decide) I2 ((sim_callL H hE n m _ _ (by omega) (hk.snoc he)).pre fun _ _ h=>h.1.1)
   (SimG.want H (by decide) (by decide) I2 fun _ _ _=>SimG.isI H (by decide) I2 SimG.fail (sim_callL H hE n m _ _ (by omega) (hk.snoc he))))
theorem sim_call (H:Sm0 l l' Ok) {E E':GN} (hE:SX l l' Ok E E') {N N':Nat} (hM:N≤N') (x x':Nd) (hx:NdR l l' x x'):SimG Ok (PQm l l' Ok ⟨#[40]⟩) (NdR l l') (callG l E N x) (callG l' E' N' x'):=
 SimG.nest (SimG.adv H (PQm.ap (by decide)) fun o o' ho=>SimG.bind (sim_callL H hE N N' [x] [x'] hM (KR.one hx)) fun ks ks' hk=>SimG.want H (by decide) (by decide) I2 fun _ _ _=>SimG.ret (nd1 ho hk))
theorem sim_prim (H:Sm0 l l' Ok) {E E':GN} (hE:SX l l' Ok E E') {N N':Nat} (hM:N≤N'):SX l l' Ok (primG l (firstG l E) (callG l E N) N) (primG l' (firstG l' E') (callG l' E' N') N'):=
 SimG.bind (sim_first H hE) fun x x' hx=>sim_primL H (fun y y' hy=>sim_call H hE hM y y' hy) N N' x x' hM hx
theorem SimG.semi (H:Sm0 l l' Ok) {N N':Nat} (hN:l'.length < N') {s s':G β} (h:SimG Ok Ok R2 s s'):SimG Ok Ok R2 (Gr.bind (kindG l 6) fun _=>Gr.bind (semisG l N) fun _=>s) (Gr.bind (kindG l' 6) fun _=>Gr.bind (semisG l' N') fun _=>s'):=by
 intro d a a' hp x b q;obtain⟨u,c,h3,h4⟩:=bind_ok q;obtain⟨rfl,k6⟩:=kind_ok h3;obtain⟨z,e,h5,h6⟩:=bind_ok h4;have s6:(tokAt l' a').kind=6:=by
  rcases H.tok hp with s | ⟨s1,s2⟩
  ·rw[←s.1];exact k6
  ·exact s2
 obtain⟨b2,r1,r2⟩:=H.semi hp k6 e (semis_run _ _ _ _ _ h5);obtain⟨x',b',k1,k2⟩:=h d e b2 r2 x b h6;exact⟨x',b',by rw[bind_run (kind_run s6),bind_run (run_big r1 hN)];exact k1,k2⟩
theorem sim_fileI (H:Sm0 l l' Ok) {N N':Nat} (hN:l'.length < N'):∀(n m:Nat) (ks ks':List Nd),n≤m→KR l l' ks ks'→SimG Ok Ok (KR l l') (fileIG l N n ks) (fileIG l' N' m ks')
 | 0,m,ks,ks',hm,hk=>SimG.stop
 | n + 1,0,ks,ks',hm,hk=>by omega
 | n + 1,m + 1,ks,ks',hm,hk=>SimG.isI H (by decide) I2 (SimG.adv H (PQm.ap (by decide)) fun _ _ _=>SimG.kind H (by decide) (by decide) I2 fun t t' ht=>SimG.semi H hN (sim_fileI H hN n m _ _ (by omega) (hk.snoc (nd1 ht KR.nil)))) (SimG.ret hk)
theorem sim_fileD (H:Sm0 l l' Ok) {D D':GN} (hD:SX l l' Ok D D') {N N':Nat} (hN:l'.length < N'):∀(n m:Nat) (ks ks':List Nd),n≤m→KR l l' ks ks'→SimG Ok Ok (KR l l') (fileDG l D N n ks) (fileDG l' D' N' m ks')
 | 0,m,ks,ks',hm,hk=>SimG.stop
 | n + 1,0,ks,ks',hm,hk=>by omega
 | n + 1,m + 1,ks,ks',hm,hk=>SimG.look H I2 fun t t' q=>SimG.iteE (by simp only[bne,q.kind (k:=7) (by decide) (by decide)]) (fun _=>(SimG.bind hD fun x x' hx=>SimG.semi H hN (sim_fileD H hD hN n m _ _ (by omega) (hk.snoc hx))).pre fun _ _ h=>h.1) (fun _=>SimG.pure hk fun _ _ h=>h.1)
theorem sim_file (H:Sm0 l l' Ok) {D D':GN} (hD:SX l l' Ok D D') {N N':Nat} (hN:l'.length < N') (hM:N≤N'):SX l l' Ok (fileG l D N) (fileG l' D' N'):=
 SimG.want H (by decide) (by decide) I2 fun _ _ _=>SimG.kind H (by decide) (by decide) I2 fun t t' ht=>SimG.semi H hN (SimG.bind (sim_fileI H hN N N' _ _ hM (KR.one (nd1 ht KR.nil))) fun ks ks' hk=>SimG.bind (sim_fileD H hD hN N N' _ _ hM hk) fun ks2 ks2' hk2=>SimG.ret (ndb rfl hk2))
structure SimF (l l':List Tok) (Ok:Nat→Nat→Prop) (F F':SF):Prop where
 binary:∀r,SX l l' Ok (F.binary r) (F'.binary r)
 unary:SX l l' Ok F.unary F'.unary
 block:SX l l' Ok F.block F'.block
 branch:SimG Ok (PQm l l' Ok ⟨#[105,102]⟩) (NdR l l') F.branch F'.branch
 stmt:SX l l' Ok F.stmt F'.stmt
theorem sf_sim (H:Sm0 l l' Ok) (hK:KTs l) {N N':Nat} (hN:l'.length < N') (hM:N≤N'):∀n,SimF l l' Ok (sf l N n) (sf l' N' n)
 | 0=>⟨fun _=>SimG.stop,SimG.stop,SimG.stop,SimG.stop,SimG.stop⟩
 | n + 1=>by
  have h:=sf_sim H hK hN hM n;exact⟨fun r=>sim_binary H h.unary h.binary hM r,sim_unary H h.unary (sim_prim H (h.binary 1) hM),sim_block H hK h.stmt hN hM,sim_branch H (h.binary 1) h.block h.branch,
   sim_stmt H (sim_variable H (h.binary 1)) (sim_constant H (h.binary 1)) h.block h.branch (sim_loop H (h.binary 1) h.block) (sim_back H (h.binary 1)) (sim_simple H (h.binary 1) (sim_loop H (h.binary 1) h.block))⟩
theorem fileS_sim (H:Sm0 l l' Ok) (hK:KTs l) {N N':Nat} (hN:l'.length < N') (hM:N≤N') (n:Nat):SX l l' Ok (fileS l N (sf l N n)) (fileS l' N' (sf l' N' n)):=by
 have q:=sf_sim H hK hN hM n;exact sim_file H (sim_decl H (sim_variable H (q.binary 1)) (sim_constant H (q.binary 1)) (sim_structure H hK hN hM) (sim_function H q.block hM)) hN hM
theorem answer_sim (H:Sm0 l l' Ok) (h0:Ok 0 0) (hK:KTs l) (hg:Good l') {x:Nd} {b:Nat} (h:answer l= .ok x b):∃x' b',answer l'= .ok x' b'∧NdR l l' x x':=by
 obtain⟨x',b',k1,_,k3⟩:=fileS_sim H hK (N:=l.length + 2) (N':=l.length + l'.length + 2) (by omega) (by omega) (3 * l.length + 4) 0 0 0 h0 x b h;refine⟨x',b',?_,k3⟩;have f1:=fileS_fu (l:=l') (P:=Al) (N:=l.length + l'.length + 2) (M:=l.length + l'.length + 2) (n:=3 * l.length + 4) (m:=3 *(l.length + l'.length)+ 4) (by omega) (by omega) 0 0 True.intro;have f2:=fileS_fu (l:=l') (P:=Al) (N:=l'.length + 2) (M:=l.length + l'.length + 2) (n:=3 * l'.length + 4) (m:=3 *(l.length + l'.length)+ 4) (by omega) (by omega) 0 0 True.intro;have hfin:=answer_fin hg;unfold answer at hfin⊢;rw[k1]at f1;rcases f1 with f1 | f1
 ·cases f1
 ·rcases f2 with f2 | f2
  ·rw[f2]at hfin;exact absurd hfin (fun h=>h)
  ·rw[←f2,f1]
end Gr
end Go.Proofs.Dm
set_option maxHeartbeats 4000000
namespace Go.Proofs.Dm
open Go Go.Proofs Go.Proofs.Dm.Sc
namespace Gr
variable {l l':List Tok}
def keyT (t:Tok):Int×ByteArray:=(t.kind,if t.kind=6 then⟨#[]⟩else t.text)
theorem sameT_key {t u:Tok} (h:keyT t=keyT u):sameT t u:=by
 unfold keyT at h;simp only[Prod.mk.injEq]at h;refine⟨h.1,fun q=> ?_⟩;have h2:=h.2;rw[if_neg q,if_neg (by rw[←h.1];exact q)]at h2;exact h2
theorem sameT_rfl {t:Tok}:sameT t t:=⟨rfl,fun _=>rfl⟩
theorem key_at (h:l.map keyT=l'.map keyT) (i:Nat):sameT (tokAt l i) (tokAt l' i):=by
 have e:=congrArg (fun x=>x[i]?) h;simp only[List.getElem?_map]at e;unfold tokAt;cases h1:l[i]? with
 | none=>
  rw[h1]at e;cases h2:l'[i]? with
  | none=>exact sameT_rfl
  | some u=>rw[h2]at e;cases e
 | some t=>
  rw[h1]at e;cases h2:l'[i]? with
  | none=>rw[h2]at e;cases e
  | some u=>
   rw[h2]at e;simp only[Option.map_some,Option.some.injEq]at e;exact sameT_key e
theorem run_key (h:l.map keyT=l'.map keyT) {a b:Nat} (r:Run l a b):Run l' a b:=
 ⟨r.1,fun k q1 q2=>by rw[←(key_at h k).1];exact r.2.1 k q1 q2,by rw[←(key_at h b).1];exact r.2.2⟩
theorem sm_key (h:l.map keyT=l'.map keyT):Sm0 l l' (fun a a'=>a=a') where
 tok:=by rintro a _ rfl;exact .inl (key_at h a)
 step:=by rintro a _ rfl _ _ _ _;rfl
 opn:=by rintro a _ rfl _ _ b r;exact⟨b,run_key h r,rfl⟩
 semi:=by rintro a _ rfl _ b r;exact⟨b,run_key h r,rfl⟩
 shut:=by
  rintro a _ rfl h1 h2
  exfalso
  have e:=(key_at h a).1;rw[shut_kind h1,h2]at e;exact absurd e (by decide)
def canR:Bool→List Tok→List (Int×ByteArray)
 | _,[]=> []
 | e,t::r=>if t.kind=6 then(if e then(6,⟨#[]⟩)::canR false r else canR false r)
  else if Fo.isO t [125]&&e then(6,⟨#[]⟩)::keyT t::canR (ends t) r else keyT t::canR (ends t) r
def OkC (l l':List Tok) (a a':Nat):Prop:=∃e,(l'.drop a').map keyT=canR e (l.drop a)∧((tokAt l a).kind=6→e=true)
theorem drop_one {α:Type} {l:List α} {a:Nat} {t:α} {r:List α} (h:l.drop a=t::r):l[a]? =some t∧l.drop (a + 1)=r:=by
 have h1:=congrArg List.head? h;rw[List.head?_drop]at h1;exact⟨h1,by rw[←List.tail_drop,h,List.tail_cons]⟩
theorem tok_some {a:Nat} {t:Tok} (h:l[a]? =some t):tokAt l a=t:=by unfold tokAt;rw[h];rfl
theorem tok_nil {a:Nat} (h:l.drop a= []):tokAt l a=endT:=by
 refine tok_out ?_;have:=congrArg List.length h;simp only[List.length_drop,List.length_nil]at this;omega
theorem map_one {a:Nat} {k:Int×ByteArray} {ks:List (Int×ByteArray)} (h:(l.drop a).map keyT=k::ks):keyT (tokAt l a)=k∧(l.drop (a + 1)).map keyT=ks:=by
 cases hd:l.drop a with
 | nil=>rw[hd]at h;cases h
 | cons t r=>
  obtain⟨h1,h2⟩:=drop_one hd;rw[hd,List.map_cons]at h;simp only[List.cons.injEq]at h;rw[tok_some h1,h2];exact h
theorem map_none {a:Nat} (h:(l.drop a).map keyT= []):tokAt l a=endT:=by
 rw[List.map_eq_nil_iff]at h;exact tok_nil h
theorem can_skip:∀(n a b:Nat),b=a + n→Run l a b→canR false (l.drop a)=canR false (l.drop b)
 | 0,a,b,hn,r=>by rw[hn];rfl
 | n + 1,a,b,hn,r=>by
  have hk:=r.2.1 a (Nat.le_refl _) (by omega);rw[←can_skip n (a + 1) b (by omega) ⟨by omega,fun k q1 q2=>r.2.1 k (by omega) q2,r.2.2⟩];cases hd:l.drop a with
  | nil=>rw[tok_nil hd]at hk;exact absurd hk (by decide)
  | cons t r2=>
   obtain⟨h1,h2⟩:=drop_one hd;rw[tok_some h1]at hk;rw[h2]
   conv=>lhs;unfold canR
   rw[if_pos hk];rfl
theorem can_head {b c:Nat} (hk:(tokAt l b).kind≠6) (h:(l'.drop c).map keyT=canR false (l.drop b)):Run l' c c:=by
 refine⟨Nat.le_refl _,fun k q1 q2=>by omega,?_⟩;cases hd:l.drop b with
 | nil=>
  rw[hd]at h;rw[map_none h];decide
 | cons t r=>
  obtain⟨h1,h2⟩:=drop_one hd;rw[tok_some h1]at hk;rw[hd]at h;unfold canR at h;rw[if_neg hk,Bool.and_false,if_neg (by decide)]at h;have e:=(map_one h).1;have:=(sameT_key e).1;rw[this];exact hk
theorem can_step {e:Bool} {a a':Nat} {t:Tok} (ht:l[a]? =some t) (h:(l'.drop a').map keyT=canR e (l.drop a)) (hs:sameT t (tokAt l' a')) (h6:t.kind≠6):(l'.drop (a' + 1)).map keyT=canR (ends t) (l.drop (a + 1)):=by
 cases hd:l.drop a with
 | nil=>
  have:=congrArg List.head? hd;rw[List.head?_drop,ht]at this;cases this
 | cons u r=>
  obtain⟨h1,h2⟩:=drop_one hd;rw[ht]at h1;cases h1;rw[hd]at h;unfold canR at h;rw[if_neg h6]at h;rw[h2];split at h
  ·have q:=(sameT_key (u:=⟨6,⟨#[]⟩,0,0,false⟩) ((map_one h).1)).1;rw[←hs.1]at q;exact absurd q h6
  ·exact(map_one h).2
theorem ends_open {t:Tok} (h:Fo.isO t [123]=true):ends t=false:=by
 unfold Fo.isO at h;rw[Bool.and_eq_true,beq_iff_eq,beq_iff_eq]at h;unfold ends isIn endO eqB;rw[h.1];simp only[List.any_cons,List.any_nil,h.2];rw[Lib.toList_data ⟨#[41]⟩,Lib.toList_data ⟨#[125]⟩];rfl
theorem sm_can (hc:l'.map keyT=canR false l) (hsem:∀i,SemAt l 0 i):Sm0 l l' (OkC l l') where
 tok:=by
  rintro a a' ⟨e,h,he⟩;cases hd:l.drop a with
  | nil=>
   rw[hd]at h;rw[tok_nil hd,map_none h];exact .inl sameT_rfl
  | cons t r=>
   obtain⟨h1,h2⟩:=drop_one hd;rw[tok_some h1]at he⊢;rw[hd]at h;unfold canR at h;split at h
   ·rename_i h6;rw[he h6,if_pos rfl]at h;have q:=(sameT_key (u:=⟨6,⟨#[]⟩,0,0,false⟩) ((map_one h).1)).1;exact .inl ⟨by rw[h6,q],fun k=>absurd h6 k⟩
   ·rename_i h6;split at h
    ·rename_i hb;rw[Bool.and_eq_true]at hb;exact .inr ⟨hb.1,(sameT_key (u:=⟨6,⟨#[]⟩,0,0,false⟩) ((map_one h).1)).1⟩
    ·exact .inl (sameT_key (map_one h).1.symm)
 step:=by
  rintro a a' ⟨e,h,he⟩ hs h6 h7 ho;cases hg:l[a]? with
  | none=>
   unfold tokAt at h7;rw[hg]at h7;exact absurd rfl h7
  | some t=>
   rw[tok_some hg]at hs h6 ho;refine⟨ends t,can_step hg h hs h6,fun q=> ?_⟩;obtain⟨j,q1,q2,q3,q4,q5⟩:=hsem (a + 1) q;rcases Nat.lt_or_ge j a with g | g
   ·have:=q3 a g (by omega);rw[tok_some hg]at this;exact absurd this h6
   ·have:j=a:=by omega
    subst this;rw[tok_some hg]at q5;rcases q5 with q5 | q5
    ·exact q5
    ·rw[ho]at q5;cases q5
 opn:=by
  rintro a a' ⟨e,h,he⟩ hs ho b r;cases hg:l[a]? with
  | none=>
   unfold tokAt at ho;rw[hg]at ho;exact absurd ho (by decide)
  | some t=>
   rw[tok_some hg]at hs ho;have h1:=can_step hg h hs (by rw[shut_kind ho];decide);rw[ends_open ho,can_skip (b -(a + 1)) (a + 1) b (by have:=r.1;omega) r]at h1;exact⟨a' + 1,can_head r.2.2 h1,false,h1,fun q=>absurd q r.2.2⟩
 semi:=by
  rintro a a' ⟨e,h,he⟩ h6 b r;cases hd:l.drop a with
  | nil=>rw[tok_nil hd]at h6;exact absurd h6 (by decide)
  | cons t r2=>
   obtain⟨h1,h2⟩:=drop_one hd;have e1:=he h6;rw[tok_some h1]at h6;rw[hd]at h;unfold canR at h;rw[if_pos h6,e1,if_pos rfl]at h;have h3:=(map_one h).2;rw[←h2,can_skip (b -(a + 1)) (a + 1) b (by have:=r.1;omega) r]at h3;exact⟨a' + 1,can_head r.2.2 h3,false,h3,fun q=>absurd q r.2.2⟩
 shut:=by
  rintro a a' ⟨e,h,he⟩ ho h6;cases hd:l.drop a with
  | nil=>rw[tok_nil hd]at ho;exact absurd ho (by decide)
  | cons t r2=>
   obtain⟨h1,h2⟩:=drop_one hd;rw[tok_some h1]at ho;have k6:t.kind≠6:=by rw[shut_kind ho];decide
   have h':=h;rw[hd]at h;unfold canR at h;rw[if_neg k6,ho]at h;cases e with
   | false=>
    rw[Bool.and_false,if_neg (by decide)]at h;have q:=(sameT_key (map_one h).1).1;rw[h6]at q;exact absurd q.symm k6
   | true=>
    rw[Bool.and_true,if_pos rfl]at h;have h3:=(map_one h).2;have e2:canR false (l.drop a)=keyT t::canR (ends t) r2:=by
     rw[hd]
     conv=>lhs;unfold canR
     rw[if_neg k6,Bool.and_false,if_neg (by decide)]
    rw[←e2]at h3;have hk:(tokAt l a).kind≠6:=by rw[tok_some h1];exact k6
    exact⟨a' + 1,can_head hk h3,false,h3,fun q=>absurd q hk⟩
structure Parsed (s:ByteArray):Prop where
 scan:(scanP s).2.2 < 0
 toks:(textP s).2.1=(scanP s).1
 sem:∀i,SemAt (scanP s).1 0 i
 bang:∀i,isBang (tokAt (scanP s).1 i)=true→noEq (tokAt (scanP s).1 (i + 1))=true
 ans:∃x b,answer (scanP s).1= .ok x b∧(textP s).1=x
theorem parsed {s:ByteArray} (hs:s.size < 10000000) (h:(textP s).2.2 < 0):Parsed s:=by
 obtain⟨hf,ht,_⟩:=text_bal hs h;obtain⟨hK,h7⟩:=scan_kinds hf;have hO:KOs (scanP s).1:=fun i q=>scan_ops hf i q
 obtain⟨hg,_,_⟩:=scan_good hs hf;have hd:decide (0≤(scanP s).2.2)=false:=by simp;omega
 have ha:∃x b,answer (scanP s).1= .ok x b∧(textP s).1=x:=by
  have hfin:=answer_fin hg;unfold textP at h⊢;simp only[hd,Bool.false_eq_true,if_false]at h⊢;cases ha:answer (scanP s).1 with
  | ok x b=>exact⟨x,b,rfl,rfl⟩
  | bad k=>
   rw[ha]at h;simp only at h;have:=(scan_tb (s:=s) (tokAt (scanP s).1 k) (by
    rw[ha]at hfin;have hk':k <(scanP s).1.length:=hfin;unfold tokAt;rw[List.getElem?_eq_getElem hk'];exact List.getElem_mem hk')).1
   omega
  | out=>rw[ha]at hfin;exact absurd hfin (fun h=>h)
 obtain⟨x,b,h1,h2⟩:=ha;have hr:=fileS_rd hK hO h1;have he:=h7 b (file_end7 h1);have beyond:∀i,b≤i→(tokAt (scanP s).1 i).kind=7:=fun i q=>by
  rcases Nat.eq_or_lt_of_le q with g | g
  ·rw[←g];exact file_end7 h1
  ·rw[tok_out (by omega)];rfl
 refine⟨hf,ht,fun i=> ?_,fun i q=> ?_,x,b,h1,h2⟩
 ·rcases Nat.lt_or_ge i b with q | q
  ·exact hr.sem i (Nat.zero_le _) q
  ·intro g;rw[beyond i q]at g;exact absurd g (by decide)
 ·rcases Nat.lt_or_ge i b with g | g
  ·exact(hr.bang i (Nat.zero_le _) g q).2
  ·unfold isBang at q;rw[beyond i g]at q;cases q
theorem parsed_same {s t:ByteArray} (hs:s.size < 10000000) (ht:t.size < 10000000) (h:(textP s).2.2 < 0) (hf:(scanP t).2.2 < 0)
  (hk:(scanP t).1.map keyT=(scanP s).1.map keyT∨(scanP t).1.map keyT=canR false (scanP s).1):
  (textP t).2.2= -1∧(textP t).2.1=(scanP t).1∧Sh.shapeS (textP s).2.1 (textP s).1=Sh.shapeS (textP t).2.1 (textP t).1:=by
 have p:=parsed hs h;obtain⟨x,b,h1,h2⟩:=p.ans;obtain⟨hK,_⟩:=scan_kinds p.scan;obtain⟨hg,_,_⟩:=scan_good ht hf;have key:∃x' b',answer (scanP t).1= .ok x' b'∧NdR (scanP s).1 (scanP t).1 x x':=by
  rcases hk with q | q
  ·exact answer_sim (sm_key q.symm) rfl hK hg h1
  ·refine answer_sim (sm_can q p.sem) ⟨false,q,fun k=> ?_⟩ hK hg h1;obtain⟨j,_,q2,_⟩:=p.sem 0 k;omega
 obtain⟨x',b',k1,k2⟩:=key;have hd:decide (0≤(scanP t).2.2)=false:=by simp;omega
 have e:textP t=(x',(scanP t).1,-1):=by
  unfold textP;simp only[hd,Bool.false_eq_true,if_false,k1]
 rw[e,p.toks,h2];exact⟨rfl,rfl,k2⟩
end Gr
end Go.Proofs.Dm
