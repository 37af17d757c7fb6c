/- Part of the proof: contracts of the functions, walked by the D-machine. No condition. -/
import Derived.Test.YtmlhdhpjcipcdaaGreatDoorGbx
import Derived.Test.YtmlhdhpjcipcdaaGreatDoorPh
set_option linter.unusedSimpArgs false
set_option linter.unusedVariables false
set_option maxHeartbeats 4000000
namespace Go.Proofs.Dm
open Go Go.Proofs Go.Proofs.Dm.Sc
namespace Gr
variable {l:List Tok}
def QL (B:Nat):List Nd→Prop:=fun r=>r.length≤B
theorem Agr.ifbadQ {α:Type} {Q:α→Prop} {d:Nat} {s:G α} {m:M Pp.PS α} {b:Bool} (h:Agr Yp l.length d Q s m) (ht:Tame Yp Q m):Agr Yp l.length d Q (Gr.ite b fail s) (fun p=>m (if b then Pp.bad p else p)):=by
 cases b with
 | true=>exact badP_agr ht
 | false=>exact h
theorem Tame.ifbadQ {α:Type} {Q:α→Prop} {m:M Pp.PS α} {b:Bool} (ht:Tame Yp Q m):Tame Yp Q (fun p=>m (if b then Pp.bad p else p)):=by
 cases b with
 | true=>exact badP_tame ht
 | false=>exact ht
theorem Agr.app {β:Type} {R:β→Prop} {d:Nat} {ks:List Nd} {x:Nd} {t:G β} {f:List Nd→M Pp.PS β} (h:ks.length < 4294967296) (ha:Agr Yp l.length d R t (f (ks ++ [x]))):Agr Yp l.length d R t (mb (appM ks x) f):=by
 rw[mb_app];simp only[app_ok h,Option.bind_some];exact ha
theorem Tame.app {β:Type} {R:β→Prop} {ks:List Nd} {x:Nd} {f:List Nd→M Pp.PS β} (h:ks.length < 4294967296) (ha:Tame Yp R (f (ks ++ [x]))):Tame Yp R (mb (appM ks x) f):=by
 rw[mb_app];simp only[app_ok h,Option.bind_some];exact ha
theorem funcL_eq (n:Nat) (ks:List Nd) (hk:ks.length < 4294967296):Pp.funcL l (n + 1) ks=fltP (mb (isP l ⟨#[41]⟩) fun b=>mi b (mp ks) (mb (kindM l 1) fun t=>mb (Pp.typ l) fun y=>mb (isP l ⟨#[41]⟩) fun c=>mi c (Pp.funcL l n (ks ++ [Nd.mk 9 t [y]])) (mb (wantM l ⟨#[44]⟩) fun _=>mb (isP l ⟨#[41]⟩) fun d=>fun p=>Pp.funcL l n (ks ++ [Nd.mk 9 t [y]]) (if d then Pp.bad p else p)))) (mp ks):=by
 funext p
 simp only[mb_adv,mb_is,mb_look,mb_here,mb_kind,mb_want,mb_semis,mb_nest,mb_app];simp only[Pp.funcL,app_ok hk,Option.bind_some];rfl
theorem funcL_tame {B:Nat} (n:Nat) (ks:List Nd) (hk:ks.length≤B):Tame Yp (QL B) (Pp.funcL l (n + 1) ks):=by
 intro p hp;have hp':0≤p.fault:=hp;have:decide (p.fault < 0)=false:=by simp;omega
 exact⟨ks,p,by simp only[Pp.funcL,this];rfl,rfl,hk⟩
theorem funcL_agr (hg:Good l) {B:Nat} (hB:B < 4294967296):∀(n:Nat) (ks:List Nd),ks.length + n≤B→∀d,d≤40→Agr Yp l.length d (QL B) (funcLG l n ks) (Pp.funcL l (n + 1) ks)
 | 0,ks,hk=>fun d hd=>Agr.out
 | n + 1,ks,hk=>by
  intro d hd;have ih:=fun x:Nd=>funcL_agr hg hB n (ks ++ [x]) (by simp;omega) d hd
  have tih:=fun x:Nd=> @funcL_tame l B n (ks ++ [x]) (by simp;omega)
  have hT:= @typ_tame l;have hT2:= @typ_agr l hg;rw[funcL_eq (n + 1) ks (by omega)];refine Agr.flt ?_;unfold funcLG
  repeat' first | exact adv_agr hg | exact is_agr hg _ | exact want_agr hg _ | exact kind_agr hg _ | exact look_agr hg 0 (by decide)| exact semis_agr hg _ | exact ih _ | exact AgA.at hT2 (by omega)| exact AgA.at hD (by omega)| exact tih _ | assumption | exact Agr.pure (show _≤_ by omega)| refine Agr.ifbadQ ?_ ?_ | refine Agr.ite ?_ ?_ | refine Agr.bind (Q:=T) ?_ (fun _ _=> ?_) (fun _ _=> ?_)| exact adv_tame | exact is_tame _ | exact want_tame _ | exact kind_tame _ | exact look_tame _ | exact semis_tame _ | exact Tame.mp (show _≤_ by omega)| refine Tame.ifbadQ ?_ | refine Tame.mi ?_ ?_ | refine Tame.bind (Q:=T) ?_ (fun _ _=> ?_)
theorem function_eq (Bm:M Pp.PS Nd) (N:Nat):Pp.functionB l Bm N=mb advP fun _=>mb (kindM l 1) fun t=>mb (wantM l ⟨#[40]⟩) fun _=>mb (Pp.funcL l N []) fun ks=>mb (wantM l ⟨#[41]⟩) fun _=>mb (lookP l 0) fun k=>
  mi (k.kind==1) (mb (Pp.typ l) fun y=>mb (appM ks y) fun k1=>mb Bm fun b=>mb (appM k1 b) fun k2=>mp (Nd.mk 8 t k2)) (mb Bm fun b=>mb (appM ks b) fun k2=>mp (Nd.mk 8 t k2)):=by
 funext p
 simp only[mb_adv,mb_is,mb_look,mb_here,mb_kind,mb_want,mb_semis,mb_nest,mb_app];rfl
theorem function_agr (hg:Good l) {S:GN} {Bm:M Pp.PS Nd} (hB:AgA l S Bm) (tB:Tame Yp T Bm) (N:Nat) (hN:N < 4000000000):AgA l (functionG l S N) (Pp.functionB l Bm (N + 1)):=by
 intro d hd;have hT:= @typ_tame l;have hT2:= @typ_agr l hg;have h1:=funcL_agr hg (B:=N) (by omega) N [] (by simp) d hd;have h2:= @funcL_tame l N N [] (by simp);have two:∀(ks:List Nd) (t:Int),QL N ks→Tame Yp T (mb (Pp.typ l) fun y=>mb (appM ks y) fun k1=>mb Bm fun b=>mb (appM k1 b) fun k2=>mp (Nd.mk 8 t k2)):=fun ks t hk=>Tame.bind hT fun y _=>Tame.app (by simp only[QL]at hk;omega) (Tame.bind tB fun b _=>Tame.app (by simp only[QL]at hk;simp;omega) (Tame.mp True.intro))
 have one:∀(ks:List Nd) (t:Int),QL N ks→Tame Yp T (mb Bm fun b=>mb (appM ks b) fun k2=>mp (Nd.mk 8 t k2)):=fun ks t hk=>Tame.bind tB fun b _=>Tame.app (by simp only[QL]at hk;omega) (Tame.mp True.intro)
 have fin:∀(ks:List Nd) (t:Int),QL N ks→Tame Yp T (mb (wantM l ⟨#[41]⟩) fun _=>mb (lookP l 0) fun k=>mi (k.kind==1) (mb (Pp.typ l) fun y=>mb (appM ks y) fun k1=>mb Bm fun b=>mb (appM k1 b) fun k2=>mp (Nd.mk 8 t k2)) (mb Bm fun b=>mb (appM ks b) fun k2=>mp (Nd.mk 8 t k2))):=
  fun ks t hk=>Tame.bind (want_tame _) fun _ _=>Tame.bind (look_tame _) fun k _=>Tame.mi (two ks t hk) (one ks t hk)
 rw[function_eq];unfold functionG;refine Agr.bind (Q:=T) (adv_agr hg) (fun _ _=> ?_) (fun _ _=>Tame.bind (kind_tame _) fun t _=>Tame.bind (want_tame _) fun _ _=>Tame.bind h2 fun ks hk=>fin ks t hk);refine Agr.bind (Q:=T) (kind_agr hg _) (fun t _=> ?_) (fun t _=>Tame.bind (want_tame _) fun _ _=>Tame.bind h2 fun ks hk=>fin ks t hk);refine Agr.bind (Q:=T) (want_agr hg _) (fun _ _=> ?_) (fun _ _=>Tame.bind h2 fun ks hk=>fin ks t hk);refine Agr.bind h1 (fun ks hk=> ?_) (fun ks hk=>fin ks t hk);refine Agr.bind (Q:=T) (want_agr hg _) (fun _ _=> ?_) (fun _ _=>Tame.bind (look_tame _) fun k _=>Tame.mi (two ks t hk) (one ks t hk));refine Agr.bind (Q:=T) (look_agr hg 0 (by decide)) (fun k _=> ?_) (fun k _=>Tame.mi (two ks t hk) (one ks t hk));simp only[QL]at hk;refine Agr.ite ?_ ?_
 ·exact Agr.bind (hT2 d hd) (fun y _=>Agr.app (by omega) (Agr.bind (hB d hd) (fun b _=>Agr.app (by simp;omega) (Agr.pure True.intro)) (fun b _=>Tame.app (by simp;omega) (Tame.mp True.intro)))) (fun y _=>Tame.app (by omega) (Tame.bind tB fun b _=>Tame.app (by simp;omega) (Tame.mp True.intro)))
 ·exact Agr.bind (hB d hd) (fun b _=>Agr.app (by omega) (Agr.pure True.intro)) (fun b _=>Tame.app (by omega) (Tame.mp True.intro))
theorem function_tame {Bm:M Pp.PS Nd} (tB:Tame Yp T Bm) (N:Nat) (hN:N < 4000000000):Tame Yp T (Pp.functionB l Bm (N + 1)):=by
 rw[function_eq];refine Tame.bind (Q:=T) adv_tame fun _ _=>Tame.bind (Q:=T) (kind_tame _) fun t _=>Tame.bind (Q:=T) (want_tame _) fun _ _=>Tame.bind (funcL_tame (B:=N) N [] (by simp)) fun ks hk=> ?_
 simp only[QL]at hk;refine Tame.bind (Q:=T) (want_tame _) fun _ _=>Tame.bind (look_tame' _) ?_
 rintro _ rfl;refine Tame.miF (by decide) ?_;exact Tame.bind tB fun b _=>Tame.app (by omega) (Tame.mp True.intro)
theorem fileI_eq (N n:Nat) (ks:List Nd) (hk:ks.length < 4294967296):Pp.fileI l N (n + 1) ks=mb (isP l ⟨#[105,109,112,111,114,116]⟩) fun b=>mi b (mb advP fun _=>mb (kindM l 1) fun t=>mb (kindM l 6) fun _=>mb (semisM l N) fun _=>Pp.fileI l N n (ks ++ [Nd.mk 3 t []])) (mp ks):=by
 funext p
 simp only[mb_adv,mb_is,mb_look,mb_here,mb_kind,mb_want,mb_semis,mb_nest,mb_app];simp only[Pp.fileI,app_ok hk,Option.bind_some];rfl
theorem fileI_tame {B:Nat} (N n:Nat) (ks:List Nd) (hk:ks.length≤B):Tame Yp (QL B) (Pp.fileI l N (n + 1) ks):=by
 intro p hp;have hp':0≤p.fault:=hp;exact⟨ks,p,by simp only[Pp.fileI,isW_flt _ p hp',Option.bind_some];rfl,rfl,hk⟩
theorem fileI_agr (hg:Good l) {B:Nat} (hB:B < 4294967296) (N:Nat):∀(n:Nat) (ks:List Nd),ks.length + n≤B→∀d,d≤40→Agr Yp l.length d (QL B) (fileIG l N n ks) (Pp.fileI l (N + 1) (n + 1) ks)
 | 0,ks,hk=>fun d hd=>Agr.out
 | n + 1,ks,hk=>by
  intro d hd;have ih:=fun x:Nd=>fileI_agr hg hB N n (ks ++ [x]) (by simp;omega) d hd
  have tih:=fun x:Nd=> @fileI_tame l B (N + 1) n (ks ++ [x]) (by simp;omega)
  rw[fileI_eq (N + 1) (n + 1) ks (by omega)];unfold fileIG
  repeat' first | exact adv_agr hg | exact is_agr hg _ | exact want_agr hg _ | exact kind_agr hg _ | exact look_agr hg 0 (by decide)| exact semis_agr hg _ | exact ih _ | exact AgA.at hT2 (by omega)| exact AgA.at hD (by omega)| exact tih _ | assumption | exact Agr.pure (show _≤_ by omega)| refine Agr.ifbadQ ?_ ?_ | refine Agr.ite ?_ ?_ | refine Agr.bind (Q:=T) ?_ (fun _ _=> ?_) (fun _ _=> ?_)| exact adv_tame | exact is_tame _ | exact want_tame _ | exact kind_tame _ | exact look_tame _ | exact semis_tame _ | exact Tame.mp (show _≤_ by omega)| refine Tame.ifbadQ ?_ | refine Tame.mi ?_ ?_ | refine Tame.bind (Q:=T) ?_ (fun _ _=> ?_)
theorem fileD_eq (Dm:M Pp.PS Nd) (N n:Nat) (ks:List Nd) (hk:ks.length < 4294967296):Pp.fileD l Dm N (n + 1) ks=fltP (mb (lookP l 0) fun t=>mi (t.kind !=7) (mb Dm fun x=>mb (kindM l 6) fun _=>mb (semisM l N) fun _=>Pp.fileD l Dm N n (ks ++ [x])) (mp ks)) (mp ks):=by
 funext p
 simp only[mb_adv,mb_is,mb_look,mb_here,mb_kind,mb_want,mb_semis,mb_nest,mb_app];simp only[Pp.fileD,app_ok hk,Option.bind_some];rfl
theorem fileD_tame {Dm:M Pp.PS Nd} {B:Nat} (N n:Nat) (ks:List Nd) (hk:ks.length≤B):Tame Yp (QL B) (Pp.fileD l Dm N (n + 1) ks):=by
 intro p hp;have hp':0≤p.fault:=hp;have:decide (p.fault < 0)=false:=by simp;omega
 exact⟨ks,p,by simp only[Pp.fileD,this];rfl,rfl,hk⟩
theorem fileD_agr (hg:Good l) {D:GN} {Dm:M Pp.PS Nd} (hD:AgA l D Dm) (tD:Tame Yp T Dm) {B:Nat} (hB:B < 4294967296) (N:Nat):∀(n:Nat) (ks:List Nd),ks.length + n≤B→∀d,d≤40→Agr Yp l.length d (QL B) (fileDG l D N n ks) (Pp.fileD l Dm (N + 1) (n + 1) ks)
 | 0,ks,hk=>fun d hd=>Agr.out
 | n + 1,ks,hk=>by
  intro d hd;have ih:=fun x:Nd=>fileD_agr hg hD tD hB N n (ks ++ [x]) (by simp;omega) d hd
  have tih:=fun x:Nd=> @fileD_tame l Dm B (N + 1) n (ks ++ [x]) (by simp;omega)
  rw[fileD_eq Dm (N + 1) (n + 1) ks (by omega)];refine Agr.flt ?_;unfold fileDG
  repeat' first | exact adv_agr hg | exact is_agr hg _ | exact want_agr hg _ | exact kind_agr hg _ | exact look_agr hg 0 (by decide)| exact semis_agr hg _ | exact ih _ | exact AgA.at hT2 (by omega)| exact AgA.at hD (by omega)| exact tih _ | assumption | exact Agr.pure (show _≤_ by omega)| refine Agr.ifbadQ ?_ ?_ | refine Agr.ite ?_ ?_ | refine Agr.bind (Q:=T) ?_ (fun _ _=> ?_) (fun _ _=> ?_)| exact adv_tame | exact is_tame _ | exact want_tame _ | exact kind_tame _ | exact look_tame _ | exact semis_tame _ | exact Tame.mp (show _≤_ by omega)| refine Tame.ifbadQ ?_ | refine Tame.mi ?_ ?_ | refine Tame.bind (Q:=T) ?_ (fun _ _=> ?_)
def fileM (l:List Tok) (Dm:M Pp.PS Nd) (N:Nat):M Pp.PS Nd:=mb (wantM l ⟨#[112,97,99,107,97,103,101]⟩) fun _=>mb (kindM l 1) fun t=>mb (kindM l 6) fun _=>mb (semisM l N) fun _=>mb (Pp.fileI l N N [Nd.mk 2 t []]) fun ks=>mb (Pp.fileD l Dm N N ks) fun k2=>mp (Nd.mk 1 0 k2)
theorem file_eq (Dm:M Pp.PS Nd) (N:Nat):Pp.fileB l Dm N=mb (fileM l Dm N) fun r=>mb (kindM l 7) fun _=>mp r:=by
 funext p
 unfold fileM;simp only[mb_adv,mb_is,mb_look,mb_here,mb_kind,mb_want,mb_semis,mb_nest,mb_app];simp only[mb,mp,Pp.fileB,Option.bind_assoc,Option.bind_some]
theorem file_agr (hg:Good l) {D:GN} {Dm:M Pp.PS Nd} (hD:AgA l D Dm) (tD:Tame Yp T Dm) (N:Nat) (hN:N < 1000000000):Agr Yp l.length 0 T (fileG l D N) (fileM l Dm (N + 1)):=by
 have h1:=fun t=>fileI_agr hg (B:=N + 1) (by omega) N N [Nd.mk 2 t []] (by simp;omega) 0 (by omega)
 have t1:=fun t=> @fileI_tame l (N + 1) (N + 1) N [Nd.mk 2 t []] (by simp)
 have h2:=fun(ks:List Nd) (hk:QL (N + 1) ks)=>fileD_agr hg hD tD (B:=N + 1 + N) (by omega) N N ks (by simp only[QL]at hk;omega) 0 (by omega)
 have t2:=fun(ks:List Nd) (hk:QL (N + 1) ks)=> @fileD_tame l Dm (N + 1 + N) (N + 1) N ks (by simp only[QL]at hk;omega)
 have e2:∀ks,QL (N + 1) ks→Tame Yp T (mb (Pp.fileD l Dm (N + 1) (N + 1) ks) fun k2=>mp (Nd.mk 1 0 k2)):=fun ks hk=>Tame.bind (t2 ks hk) fun _ _=>Tame.mp True.intro
 have e1:∀t,Tame Yp T (mb (Pp.fileI l (N + 1) (N + 1) [Nd.mk 2 t []]) fun ks=>mb (Pp.fileD l Dm (N + 1) (N + 1) ks) fun k2=>mp (Nd.mk 1 0 k2)):=fun t=>Tame.bind (t1 t) fun ks hk=>e2 ks hk
 unfold fileG fileM;refine Agr.bind (Q:=T) (want_agr hg _) (fun _ _=> ?_) (fun _ _=>Tame.bind (kind_tame _) fun t _=>Tame.bind (kind_tame _) fun _ _=>Tame.bind (semis_tame _) fun _ _=>e1 t);refine Agr.bind (Q:=T) (kind_agr hg _) (fun t _=> ?_) (fun t _=>Tame.bind (kind_tame _) fun _ _=>Tame.bind (semis_tame _) fun _ _=>e1 t);refine Agr.bind (Q:=T) (kind_agr hg _) (fun _ _=> ?_) (fun _ _=>Tame.bind (semis_tame _) fun _ _=>e1 t);refine Agr.bind (Q:=T) (semis_agr hg _) (fun _ _=> ?_) (fun _ _=>e1 t);refine Agr.bind (h1 t) (fun ks hk=> ?_) (fun ks hk=>e2 ks hk);exact Agr.bind (h2 ks hk) (fun _ _=>Agr.pure True.intro) (fun _ _=>Tame.mp True.intro)
theorem fileD_end {D:GN} (N:Nat):∀(n:Nat) (ks:List Nd) (d a:Nat) (r:List Nd) (a':Nat),fileDG l D N n ks d a= .ok r a'→(tokAt l a').kind=7
 | 0,ks,d,a,r,a',h=>by simp[fileDG,stop]at h
 | n + 1,ks,d,a,r,a',h=>by
  simp only[fileDG,Gr.bind,look,Res.andThen,Gr.ite,Nat.add_zero]at h;split at h
  ·split at h
   ·split at h
    ·split at h
     ·exact fileD_end N n _ d _ r a' h
     ·cases h
     ·cases h
    ·cases h
    ·cases h
   ·cases h
   ·cases h
  ·rename_i hk;simp only[pure]at h;injection h with h1 h2
   subst h2;simpa using hk
theorem file_end {D:GN} (N:Nat) {a:Nat} {r:Nd} {a':Nat} (h:fileG l D N 0 a= .ok r a'):(tokAt l a').kind=7:=by
 unfold fileG at h;have step:∀{α β:Type} (s:G α) (f:α→G β) (d a:Nat) (r:β) (a':Nat),Gr.bind s f d a= .ok r a'→∃x a1,f x d a1= .ok r a':=by
  intro α β s f d a r a' h;simp only[Gr.bind]at h;cases hs:s d a with
  | ok x a1=>rw[hs]at h;exact⟨x,a1,h⟩
  | bad k=>rw[hs]at h;cases h
  | out=>rw[hs]at h;cases h
 obtain⟨_,a1,h⟩:=step _ _ _ _ _ _ h;obtain⟨_,a1,h⟩:=step _ _ _ _ _ _ h;obtain⟨_,a1,h⟩:=step _ _ _ _ _ _ h;obtain⟨_,a1,h⟩:=step _ _ _ _ _ _ h;obtain⟨ks,a1,h⟩:=step _ _ _ _ _ _ h;simp only[Gr.bind]at h;cases hs:fileDG l D N N ks 0 a1 with
 | ok x a2=>
  rw[hs]at h;simp only[Res.andThen,pure]at h;injection h with h1 h2
  subst h2;exact fileD_end N N ks 0 a1 x _ hs
 | bad k=>rw[hs]at h;cases h
 | out=>rw[hs]at h;cases h
end Gr
end Go.Proofs.Dm
set_option maxHeartbeats 4000000
namespace Go.Proofs.Dm
open Go Go.Proofs Go.Proofs.Tryz Go.Proofs.Dm.Sc
namespace Gr
variable {l:List Tok}
structure TameF (F:Pp.PF):Prop where
 binary:∀rk,Tame Yp T (F.binary rk)
 unary:Tame Yp T F.unary
 block:Tame Yp T F.block
 branch:Tame Yp T F.branch
 stmt:Tame Yp T F.stmt
theorem t1u (N k:Nat):Tame Yp T (Pp.pf l (N + 1) (k + 1)).unary:=unary_tame (prim_tame first_tame N)
theorem t1b (N k:Nat):Tame Yp T (Pp.pf l (N + 1) (k + 1)).block:=block_tame N
theorem t2 (N k:Nat) (rk:Int):Tame Yp T ((Pp.pf l (N + 1) (k + 2)).binary rk):=binary_tame (t1u N k) N rk
theorem pf_tame (N k:Nat):TameF (Pp.pf l (N + 1) (k + 3)) where
 binary:=t2 N (k + 1)
 unary:=t1u N (k + 2)
 block:=t1b N (k + 2)
 branch:=branch_tame (t2 N k 1) (t1b N (k + 1))
 stmt:=stmt_tame (simple_tame (t2 N k 1))
structure AgF (l:List Tok) (G:SF) (F:Pp.PF):Prop where
 binary:∀rk,AgA l (G.binary rk) (F.binary rk)
 unary:AgA l G.unary F.unary
 block:AgA l G.block F.block
 branch:AgA l G.branch F.branch
 stmt:AgA l G.stmt F.stmt
theorem AgF.step (hg:Good l) {N:Nat} (hN:N < 1000000000) {G:SF} {F:Pp.PF} (h:AgF l G F) (t:TameF F):AgF l (stepS l N G) (Pp.stepF l (N + 1) F) where
 binary:=binary_agr hg h.unary h.binary t.binary N
 unary:=unary_agr hg h.unary t.unary (prim_agr hg (first_agr hg (h.binary 1) (t.binary 1)) (fun x=>call_agr hg (h.binary 1) (t.binary 1) N (by omega) x) (fun x=>call_tame N x) N) (prim_tame first_tame N)
 block:=block_agr hg h.stmt t.stmt N (by omega)
 branch:=branch_agr hg (h.binary 1) (t.binary 1) h.block t.block h.branch t.branch
 stmt:=stmt_agr hg (variable_agr hg (h.binary 1) (t.binary 1)) (variable_tame (t.binary 1)) (constant_agr hg (h.binary 1) (t.binary 1)) (constant_tame (t.binary 1)) h.block t.block h.branch t.branch
  (loop_agr hg (h.binary 1) (t.binary 1) h.block t.block) (loop_tame (t.binary 1) t.block) (back_agr hg (h.binary 1) (t.binary 1)) (back_tame (t.binary 1))
  (simple_agr hg (h.binary 1) (t.binary 1) (loop_agr hg (h.binary 1) (t.binary 1) h.block t.block) (loop_tame (t.binary 1) t.block)) (simple_tame (t.binary 1))
theorem knot (hg:Good l) {N:Nat} (hN:N < 1000000000):∀n,AgF l (sf l N n) (Pp.pf l (N + 1) (n + 3))
 | 0=>⟨fun _ d hd=>Agr.out,fun d hd=>Agr.out,fun d hd=>Agr.out,fun d hd=>Agr.out,fun d hd=>Agr.out⟩
 | n + 1=>(knot hg hN n).step hg hN (pf_tame N n)
def tokensA (r:Res Nd):Option (Nd×Int):=match r with
 | .ok nd _=>some (nd,-1)
 | .bad k=>some (.mk 0 0 [],k)
 | .out=>none
theorem tokens_of (hg:Good l) {N:Nat} (hN:N < 1000000000) (n:Nat) {r:Nd×Int} (h:tokensA (fileS l N (sf l N n) 0 0)=some r):Pp.tokensB (Pp.fileF l (N + 1) (Pp.pf l (N + 1) (n + 3)))=some r:=by
 have a:=knot hg hN n;have t:= @pf_tame l N n;have hd:AgA l (declG l (variableG l ((sf l N n).binary 1)) (constantG l ((sf l N n).binary 1)) (structureG l N) (functionG l (sf l N n).block N)) (Pp.declB l (Pp.variableB l ((Pp.pf l (N + 1) (n + 3)).binary 1)) (Pp.constantB l ((Pp.pf l (N + 1) (n + 3)).binary 1)) (Pp.structureB l (N + 1)) (Pp.functionB l (Pp.pf l (N + 1) (n + 3)).block (N + 1))):=
  decl_agr hg (variable_agr hg (a.binary 1) (t.binary 1)) (variable_tame (t.binary 1)) (constant_agr hg (a.binary 1) (t.binary 1)) (constant_tame (t.binary 1)) (structure_agr hg N (by omega)) (structure_tame N) (function_agr hg a.block t.block N (by omega)) (function_tame t.block N (by omega))
 have hf:=file_agr hg hd decl_tame N hN 0 hg.pos;unfold Pp.tokensB Pp.fileF;rw[file_eq];show((mb _ _) (Yp.emb 0 0)).bind _=_;unfold fileS at h;cases hs:fileG l (declG l (variableG l ((sf l N n).binary 1)) (constantG l ((sf l N n).binary 1)) (structureG l N) (functionG l (sf l N n).block N)) N 0 0 with
 | ok nd a'=>
  rw[hs]at h hf;simp only[tokensA,Option.some.injEq]at h;obtain⟨h1,h2,_⟩:=hf;have hk:=file_end N hs;have hp:=peek_emb (d:=0) hg a' 0 h1 (by decide);rw[show((0:Nat):Int)=0 from rfl,Nat.add_zero]at hp;simp only[mb,h2,Option.bind_some,kindM,Pp.kindP,hp,Option.map_some,mp];have e:((tokAt l a').kind !=7 || decide (0≤(Yp.emb 0 a').fault))=false:=by simp[hk,Yp]
  rw[e];subst h;rfl
 | bad k=>
  rw[hs]at h hf;simp only[tokensA,Option.some.injEq]at h;obtain⟨x,p,h2,h3,_⟩:=hf;have hp0:0≤Yp.flt p:=by rw[h3];omega
  obtain⟨y,q,h4,h5,_⟩:=kind_tame (l:=l) 7 p hp0;simp only[mb,h2,Option.bind_some,h4,mp]
  have h6 : q.fault = k := by have : Yp.flt q = k := by rw [h5, h3]
                              exact this
  have:decide (0≤q.fault)=true:=by rw[h6];simp
  rw[this,h6];subst h;rfl
 | out=>rw[hs]at h;cases h
def goodB (l:List Tok):Bool:=decide (0 < l.length)&&decide (l.length < 100000000)&&((tokAt l (l.length - 1)).kind==7)
theorem goodB_ok {l:List Tok} (h:goodB l=true):Good l:=by
 simp only[goodB,Bool.and_eq_true,decide_eq_true_eq,beq_iff_eq]at h;exact⟨h.1.1,h.1.2,h.2⟩
def evalText (s:ByteArray) (N n:Nat):Option (Nd×List Tok×Int):=
 if decide (0≤(scanP s).2.2)then some (.mk 0 0 [],[],(scanP s).2.2)
 else if goodB (scanP s).1 then Pp.textOf (scanP s).1 (scanP s).2.2 (tokensA (fileS (scanP s).1 N (sf (scanP s).1 N n) 0 0))else none
theorem text_eval {W0 nb} {s:ByteArray} (h2:2≤nb) (hT:Lib.Utf8Tabs 0 1 W0) (hs:s.size < 10000000) {N n:Nat} (hN:N < 1000000000) (hl:(scanP s).1.length < 100000000) {nd l k} (h:evalText s N n=some (nd,l,k)):
  DCalls ⟨Tryz.prog,W0,nb⟩ 46 [.p (.str s)] [] (.tup [.agg ((encN nd).map .p),.p (.sl 5 (l.map encT)),i64 k]) []:=by
 unfold evalText at h;split at h
 ·rename_i hf;refine Pp.text_ok (F:=fun _=>none) h2 hT hs (fun{_ _ _} h=>by cases h) hl ?_;simp only[Pp.textOf,hf,if_true];exact h
 ·rename_i hf;split at h
  ·rename_i hg;have hg:=goodB_ok hg;refine Pp.text_ok h2 hT hs (Pp.fileF_ok (N:=N + 1) (n:=n + 3)) hl ?_;simp only[Pp.textOf,hf]at h⊢;cases ht:tokensA (fileS (scanP s).1 N (sf (scanP s).1 N n) 0 0)with
   | none=>rw[ht]at h;cases h
   | some r=>rw[ht]at h;rw[tokens_of hg hN n ht];exact h
  ·cases h
end Gr
end Go.Proofs.Dm
