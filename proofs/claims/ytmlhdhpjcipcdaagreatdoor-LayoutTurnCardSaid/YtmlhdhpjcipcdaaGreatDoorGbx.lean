/- Part of the proof: contracts of the functions, walked by the D-machine. No condition. -/
import Derived.Test.YtmlhdhpjcipcdaaGreatDoorGax
import Derived.Test.YtmlhdhpjcipcdaaGreatDoorPf
set_option linter.unusedSimpArgs false
set_option linter.unusedVariables false
set_option maxHeartbeats 4000000
namespace Go.Proofs.Dm
open Go Go.Proofs Go.Proofs.Dm.Sc
namespace Gr
theorem Tame.miF {σ α:Type} {Y:Sty σ} {Q:α→Prop} {b:Bool} {s t:M σ α} (hb:b=false) (h:Tame Y Q t):Tame Y Q (Gr.mi b s t):=by subst hb;exact h
theorem Tame.miT {σ α:Type} {Y:Sty σ} {Q:α→Prop} {b:Bool} {s t:M σ α} (hb:b=true) (h:Tame Y Q s):Tame Y Q (Gr.mi b s t):=by subst hb;exact h
def appM {σ:Type} (ks:List Nd) (x:Nd):M σ (List Nd):=fun p=>(app ks x).map fun r=>(r,p)
theorem app_ok {ks:List Nd} {x:Nd} (h:ks.length < 4294967296):app ks x=some (ks ++ [x]):=by unfold app;rw[if_pos h]
theorem mb_app {σ β:Type} (ks:List Nd) (x:Nd) (f:List Nd→M σ β):mb (appM ks x) f=fun p=>(app ks x).bind fun q=>f q p:=by
 funext p;simp only[mb,appM];cases app ks x <;> rfl
variable {l:List Tok}
def AgA {α:Type} (l:List Tok) (s:G α) (m:M Pp.PS α):Prop:=∀d,d≤40→Agr Yp l.length d T s m
theorem AgA.at {α:Type} {s:G α} {m:M Pp.PS α} (h:AgA l s m) {d:Nat} (hd:d≤40):Agr Yp l.length d T s m:=h d hd
theorem typ_eq:Pp.typ l=mb (kindM l 1) fun t=>mb (isP l ⟨#[46]⟩) fun b=>mi b (mb advP fun _=>mb (kindM l 1) fun u=>mp (.mk 28 u [.mk 20 t []])) (mp (.mk 28 t [])):=by
 funext p
 simp only[mb_adv,mb_is,mb_look,mb_here,mb_kind,mb_want,mb_semis,mb_nest,mb_app];rfl
theorem typ_tame:Tame Yp T (Pp.typ l):=by
 rw[typ_eq]
 repeat' first | exact adv_tame | exact kind_tame _ | exact want_tame _ | exact here_tame | assumption | exact Tame.mp True.intro | refine Tame.miF (by decide) ?_ | refine Tame.miT (by decide) ?_ |(refine Tame.bind (is_tame' _) ?_;rintro _ rfl)|(refine Tame.bind (look_tame' _) ?_;rintro _ rfl)| refine nest_tame ?_ | refine badP_tame ?_ | refine Tame.bind (Q:=T) ?_ (fun _ _=> ?_)
theorem typ_agr (hg:Good l):AgA l (typG l) (Pp.typ l):=by
 intro d hd;rw[typ_eq];unfold typG
 repeat' first | exact adv_agr hg | exact is_agr hg _ | exact kind_agr hg _ | exact want_agr hg _ | exact look_agr hg 0 (by decide)| exact look_agr hg 1 (by decide)| exact here_agr | assumption | exact AgA.at (by assumption) (by omega)| refine nest_agr (by omega) (fun _=> ?_) ?_ | exact Agr.pure True.intro | refine Agr.ite ?_ ?_ | refine Agr.bind (Q:=T) ?_ (fun _ _=> ?_) (fun _ _=> ?_)| exact adv_tame | exact is_tame _ | exact kind_tame _ | exact want_tame _ | exact look_tame _ | exact here_tame | exact Tame.mp True.intro | refine Tame.mi ?_ ?_ | refine nest_tame ?_ | refine badP_agr ?_ | refine badP_tame ?_ | refine Tame.bind (Q:=T) ?_ (fun _ _=> ?_)
theorem variable_eq (Em:M Pp.PS Nd):Pp.variableB l Em=mb advP fun _=>mb (kindM l 1) fun t=>mb (Pp.typ l) fun y=>mb (isP l ⟨#[61]⟩) fun b=>mi b (mb advP fun _=>mb Em fun e=>mp (.mk 4 t [y,e])) (mp (.mk 4 t [y])):=by
 funext p
 simp only[mb_adv,mb_is,mb_look,mb_here,mb_kind,mb_want,mb_semis,mb_nest,mb_app];rfl
theorem variable_tame {Em:M Pp.PS Nd} (tE:Tame Yp T Em):Tame Yp T (Pp.variableB l Em):=by
 have hT:= @typ_tame l;rw[variable_eq]
 repeat' first | exact adv_tame | exact kind_tame _ | exact want_tame _ | exact here_tame | assumption | exact Tame.mp True.intro | refine Tame.miF (by decide) ?_ | refine Tame.miT (by decide) ?_ |(refine Tame.bind (is_tame' _) ?_;rintro _ rfl)|(refine Tame.bind (look_tame' _) ?_;rintro _ rfl)| refine nest_tame ?_ | refine badP_tame ?_ | refine Tame.bind (Q:=T) ?_ (fun _ _=> ?_)
theorem variable_agr (hg:Good l) {E:GN} {Em:M Pp.PS Nd} (hE:AgA l E Em) (tE:Tame Yp T Em):AgA l (variableG l E) (Pp.variableB l Em):=by
 intro d hd;have hT:= @typ_tame l;have hT2:= @typ_agr l hg;rw[variable_eq];unfold variableG
 repeat' first | exact adv_agr hg | exact is_agr hg _ | exact kind_agr hg _ | exact want_agr hg _ | exact look_agr hg 0 (by decide)| exact look_agr hg 1 (by decide)| exact here_agr | assumption | exact AgA.at (by assumption) (by omega)| refine nest_agr (by omega) (fun _=> ?_) ?_ | exact Agr.pure True.intro | refine Agr.ite ?_ ?_ | refine Agr.bind (Q:=T) ?_ (fun _ _=> ?_) (fun _ _=> ?_)| exact adv_tame | exact is_tame _ | exact kind_tame _ | exact want_tame _ | exact look_tame _ | exact here_tame | exact Tame.mp True.intro | refine Tame.mi ?_ ?_ | refine nest_tame ?_ | refine badP_agr ?_ | refine badP_tame ?_ | refine Tame.bind (Q:=T) ?_ (fun _ _=> ?_)
theorem constant_eq (Em:M Pp.PS Nd):Pp.constantB l Em=mb advP fun _=>mb (kindM l 1) fun t=>mb (wantM l ⟨#[61]⟩) fun _=>mb Em fun e=>mp (.mk 5 t [e]):=by
 funext p
 simp only[mb_adv,mb_is,mb_look,mb_here,mb_kind,mb_want,mb_semis,mb_nest,mb_app];rfl
theorem constant_tame {Em:M Pp.PS Nd} (tE:Tame Yp T Em):Tame Yp T (Pp.constantB l Em):=by
 rw[constant_eq]
 repeat' first | exact adv_tame | exact kind_tame _ | exact want_tame _ | exact here_tame | assumption | exact Tame.mp True.intro | refine Tame.miF (by decide) ?_ | refine Tame.miT (by decide) ?_ |(refine Tame.bind (is_tame' _) ?_;rintro _ rfl)|(refine Tame.bind (look_tame' _) ?_;rintro _ rfl)| refine nest_tame ?_ | refine badP_tame ?_ | refine Tame.bind (Q:=T) ?_ (fun _ _=> ?_)
theorem constant_agr (hg:Good l) {E:GN} {Em:M Pp.PS Nd} (hE:AgA l E Em) (tE:Tame Yp T Em):AgA l (constantG l E) (Pp.constantB l Em):=by
 intro d hd;rw[constant_eq];unfold constantG
 repeat' first | exact adv_agr hg | exact is_agr hg _ | exact kind_agr hg _ | exact want_agr hg _ | exact look_agr hg 0 (by decide)| exact look_agr hg 1 (by decide)| exact here_agr | assumption | exact AgA.at (by assumption) (by omega)| refine nest_agr (by omega) (fun _=> ?_) ?_ | exact Agr.pure True.intro | refine Agr.ite ?_ ?_ | refine Agr.bind (Q:=T) ?_ (fun _ _=> ?_) (fun _ _=> ?_)| exact adv_tame | exact is_tame _ | exact kind_tame _ | exact want_tame _ | exact look_tame _ | exact here_tame | exact Tame.mp True.intro | refine Tame.mi ?_ ?_ | refine nest_tame ?_ | refine badP_agr ?_ | refine badP_tame ?_ | refine Tame.bind (Q:=T) ?_ (fun _ _=> ?_)
theorem loop_eq (Em Bm:M Pp.PS Nd):Pp.loopB l Em Bm=mb advP fun t=>mb Em fun e=>mb Bm fun b=>mp (.mk 15 t [e,b]):=by
 funext p
 simp only[mb_adv,mb_is,mb_look,mb_here,mb_kind,mb_want,mb_semis,mb_nest,mb_app];rfl
theorem loop_tame {Em Bm:M Pp.PS Nd} (tE:Tame Yp T Em) (tB:Tame Yp T Bm):Tame Yp T (Pp.loopB l Em Bm):=by
 rw[loop_eq]
 repeat' first | exact adv_tame | exact kind_tame _ | exact want_tame _ | exact here_tame | assumption | exact Tame.mp True.intro | refine Tame.miF (by decide) ?_ | refine Tame.miT (by decide) ?_ |(refine Tame.bind (is_tame' _) ?_;rintro _ rfl)|(refine Tame.bind (look_tame' _) ?_;rintro _ rfl)| refine nest_tame ?_ | refine badP_tame ?_ | refine Tame.bind (Q:=T) ?_ (fun _ _=> ?_)
theorem loop_agr (hg:Good l) {E:GN} {B:GN} {Em Bm:M Pp.PS Nd} (hE:AgA l E Em) (tE:Tame Yp T Em) (hB:AgA l B Bm) (tB:Tame Yp T Bm):AgA l (loopG l E B) (Pp.loopB l Em Bm):=by
 intro d hd;rw[loop_eq];unfold loopG
 repeat' first | exact adv_agr hg | exact is_agr hg _ | exact kind_agr hg _ | exact want_agr hg _ | exact look_agr hg 0 (by decide)| exact look_agr hg 1 (by decide)| exact here_agr | assumption | exact AgA.at (by assumption) (by omega)| refine nest_agr (by omega) (fun _=> ?_) ?_ | exact Agr.pure True.intro | refine Agr.ite ?_ ?_ | refine Agr.bind (Q:=T) ?_ (fun _ _=> ?_) (fun _ _=> ?_)| exact adv_tame | exact is_tame _ | exact kind_tame _ | exact want_tame _ | exact look_tame _ | exact here_tame | exact Tame.mp True.intro | refine Tame.mi ?_ ?_ | refine nest_tame ?_ | refine badP_agr ?_ | refine badP_tame ?_ | refine Tame.bind (Q:=T) ?_ (fun _ _=> ?_)
theorem back_eq (Em:M Pp.PS Nd):Pp.backB l Em=mb advP fun t=>mb (lookP l 0) fun k=>mi (k.kind==6) (mp (.mk 16 t [])) (mb (isP l ⟨#[125]⟩) fun b=>mi b (mp (.mk 16 t [])) (mb Em fun e=>mp (.mk 16 t [e]))):=by
 funext p
 simp only[mb_adv,mb_is,mb_look,mb_here,mb_kind,mb_want,mb_semis,mb_nest,mb_app];rfl
theorem back_tame {Em:M Pp.PS Nd} (tE:Tame Yp T Em):Tame Yp T (Pp.backB l Em):=by
 rw[back_eq]
 repeat' first | exact adv_tame | exact kind_tame _ | exact want_tame _ | exact here_tame | assumption | exact Tame.mp True.intro | refine Tame.miF (by decide) ?_ | refine Tame.miT (by decide) ?_ |(refine Tame.bind (is_tame' _) ?_;rintro _ rfl)|(refine Tame.bind (look_tame' _) ?_;rintro _ rfl)| refine nest_tame ?_ | refine badP_tame ?_ | refine Tame.bind (Q:=T) ?_ (fun _ _=> ?_)
theorem back_agr (hg:Good l) {E:GN} {Em:M Pp.PS Nd} (hE:AgA l E Em) (tE:Tame Yp T Em):AgA l (backG l E) (Pp.backB l Em):=by
 intro d hd;rw[back_eq];unfold backG
 repeat' first | exact adv_agr hg | exact is_agr hg _ | exact kind_agr hg _ | exact want_agr hg _ | exact look_agr hg 0 (by decide)| exact look_agr hg 1 (by decide)| exact here_agr | assumption | exact AgA.at (by assumption) (by omega)| refine nest_agr (by omega) (fun _=> ?_) ?_ | exact Agr.pure True.intro | refine Agr.ite ?_ ?_ | refine Agr.bind (Q:=T) ?_ (fun _ _=> ?_) (fun _ _=> ?_)| exact adv_tame | exact is_tame _ | exact kind_tame _ | exact want_tame _ | exact look_tame _ | exact here_tame | exact Tame.mp True.intro | refine Tame.mi ?_ ?_ | refine nest_tame ?_ | refine badP_agr ?_ | refine badP_tame ?_ | refine Tame.bind (Q:=T) ?_ (fun _ _=> ?_)
theorem field_eq:Pp.fieldB l=mb (kindM l 1) fun t=>mb (Pp.typ l) fun y=>mp (.mk 7 t [y]):=by
 funext p
 simp only[mb_adv,mb_is,mb_look,mb_here,mb_kind,mb_want,mb_semis,mb_nest,mb_app];rfl
theorem field_tame:Tame Yp T (Pp.fieldB l):=by
 have hT:= @typ_tame l;rw[field_eq]
 repeat' first | exact adv_tame | exact kind_tame _ | exact want_tame _ | exact here_tame | assumption | exact Tame.mp True.intro | refine Tame.miF (by decide) ?_ | refine Tame.miT (by decide) ?_ |(refine Tame.bind (is_tame' _) ?_;rintro _ rfl)|(refine Tame.bind (look_tame' _) ?_;rintro _ rfl)| refine nest_tame ?_ | refine badP_tame ?_ | refine Tame.bind (Q:=T) ?_ (fun _ _=> ?_)
theorem field_agr (hg:Good l):AgA l (fieldG l) (Pp.fieldB l):=by
 intro d hd;have hT:= @typ_tame l;have hT2:= @typ_agr l hg;rw[field_eq];unfold fieldG
 repeat' first | exact adv_agr hg | exact is_agr hg _ | exact kind_agr hg _ | exact want_agr hg _ | exact look_agr hg 0 (by decide)| exact look_agr hg 1 (by decide)| exact here_agr | assumption | exact AgA.at (by assumption) (by omega)| refine nest_agr (by omega) (fun _=> ?_) ?_ | exact Agr.pure True.intro | refine Agr.ite ?_ ?_ | refine Agr.bind (Q:=T) ?_ (fun _ _=> ?_) (fun _ _=> ?_)| exact adv_tame | exact is_tame _ | exact kind_tame _ | exact want_tame _ | exact look_tame _ | exact here_tame | exact Tame.mp True.intro | refine Tame.mi ?_ ?_ | refine nest_tame ?_ | refine badP_agr ?_ | refine badP_tame ?_ | refine Tame.bind (Q:=T) ?_ (fun _ _=> ?_)
theorem branch_eq (Em Bm Rm:M Pp.PS Nd):Pp.branchB l Em Bm Rm=mb advP fun t=>mb Em fun e=>mb Bm fun b=>mb (isP l ⟨#[101,108,115,101]⟩) fun c=>mi c (mb advP fun _=>mb (isP l ⟨#[105,102]⟩) fun i=>mi i (mb (nestP Rm) fun r=>mp (.mk 14 t [e,b,r])) (mb Bm fun r=>mp (.mk 14 t [e,b,r]))) (mp (.mk 14 t [e,b])):=by
 funext p
 simp only[mb_adv,mb_is,mb_look,mb_here,mb_kind,mb_want,mb_semis,mb_nest,mb_app];rfl
theorem branch_tame {Em Bm Rm:M Pp.PS Nd} (tE:Tame Yp T Em) (tB:Tame Yp T Bm):Tame Yp T (Pp.branchB l Em Bm Rm):=by
 rw[branch_eq]
 repeat' first | exact adv_tame | exact kind_tame _ | exact want_tame _ | exact here_tame | assumption | exact Tame.mp True.intro | refine Tame.miF (by decide) ?_ | refine Tame.miT (by decide) ?_ |(refine Tame.bind (is_tame' _) ?_;rintro _ rfl)|(refine Tame.bind (look_tame' _) ?_;rintro _ rfl)| refine nest_tame ?_ | refine badP_tame ?_ | refine Tame.bind (Q:=T) ?_ (fun _ _=> ?_)
theorem branch_agr (hg:Good l) {E:GN} {B:GN} {R:GN} {Em Bm Rm:M Pp.PS Nd} (hE:AgA l E Em) (tE:Tame Yp T Em) (hB:AgA l B Bm) (tB:Tame Yp T Bm) (hR:AgA l R Rm) (tR:Tame Yp T Rm):AgA l (branchG l E B R) (Pp.branchB l Em Bm Rm):=by
 intro d hd;rw[branch_eq];unfold branchG
 repeat' first | exact adv_agr hg | exact is_agr hg _ | exact kind_agr hg _ | exact want_agr hg _ | exact look_agr hg 0 (by decide)| exact look_agr hg 1 (by decide)| exact here_agr | assumption | exact AgA.at (by assumption) (by omega)| refine nest_agr (by omega) (fun _=> ?_) ?_ | exact Agr.pure True.intro | refine Agr.ite ?_ ?_ | refine Agr.bind (Q:=T) ?_ (fun _ _=> ?_) (fun _ _=> ?_)| exact adv_tame | exact is_tame _ | exact kind_tame _ | exact want_tame _ | exact look_tame _ | exact here_tame | exact Tame.mp True.intro | refine Tame.mi ?_ ?_ | refine nest_tame ?_ | refine badP_agr ?_ | refine badP_tame ?_ | refine Tame.bind (Q:=T) ?_ (fun _ _=> ?_)
end Gr
end Go.Proofs.Dm
set_option maxHeartbeats 4000000
namespace Go.Proofs.Dm
open Go Go.Proofs Go.Proofs.Dm.Sc
namespace Gr
def ib {α:Type} (b:Bool) (m:M Pp.PS α):M Pp.PS α:=fun p=>m (if b then p else Pp.bad p)
def fltP {α:Type} (m n:M Pp.PS α):M Pp.PS α:=fun p=>if decide (p.fault < 0)then m p else n p
variable {l:List Tok}
theorem Agr.ib {α:Type} {d:Nat} {Q:α→Prop} {b:Bool} {s:G α} {m:M Pp.PS α} (h:Agr Yp l.length d Q s m) (ht:Tame Yp Q m):Agr Yp l.length d Q (Gr.ite b s fail) (Gr.ib b m):=by
 cases b with
 | true=>exact h
 | false=>exact badP_agr ht
theorem Tame.ib {α:Type} {Q:α→Prop} {b:Bool} {m:M Pp.PS α} (ht:Tame Yp Q m):Tame Yp Q (Gr.ib b m):=by
 cases b with
 | true=>exact ht
 | false=>exact badP_tame ht
theorem Agr.flt {α:Type} {d:Nat} {Q:α→Prop} {s:G α} {m n:M Pp.PS α} (h:Agr Yp l.length d Q s m):Agr Yp l.length d Q s (fltP m n):=fun a ha=>h a ha
theorem Tame.flt {α:Type} {Q:α→Prop} {m n:M Pp.PS α} (h:Tame Yp Q n):Tame Yp Q (fltP m n):=by
 intro p hp;have hp':0≤p.fault:=hp;have:decide (p.fault < 0)=false:=by simp;omega
 simp only[fltP,this];exact h p hp
theorem leave_eq (k:Int):(fun p=>Pp.leaveB l p k)=mb advP fun t=>mb (lookP l 0) fun x=>mi (x.kind==1) (mb advP fun u=>mp (.mk k t [.mk 19 u []])) (mp (.mk k t [])):=by
 funext p
 simp only[mb_adv,mb_is,mb_look,mb_here,mb_kind,mb_want,mb_semis,mb_nest];rfl
theorem leave_tame (k:Int):Tame Yp T (fun p=>Pp.leaveB l p k):=by
 rw[leave_eq]
 repeat' first | exact adv_tame | exact kind_tame _ | exact want_tame _ | exact here_tame | exact semis_tame _ | assumption | exact tih _ | exact Tame.mp True.intro | refine Tame.miF (by decide) ?_ | refine Tame.miT (by decide) ?_ |(refine Tame.bind (is_tame' _) ?_;rintro _ rfl)|(refine Tame.bind (look_tame' _) ?_;rintro _ rfl)| refine Tame.ib ?_ | refine nest_tame ?_ | refine badP_tame ?_ | refine Tame.bind (Q:=T) ?_ (fun _ _=> ?_)
theorem leave_agr (hg:Good l) (k:Int):AgA l (leaveG l k) (fun p=>Pp.leaveB l p k):=by
 intro d hd;rw[leave_eq];unfold leaveG
 repeat' first | exact adv_agr hg | exact is_agr hg _ | exact kind_agr hg _ | exact want_agr hg _ | exact look_agr hg 0 (by decide)| exact look_agr hg 1 (by decide)| exact here_agr | exact semis_agr hg _ | assumption | exact AgA.at (by assumption) (by omega)| exact AgA.at (ih _) (by omega)| exact AgA.at (hY _) (by omega)| exact AgA.at (hK _) (by omega)| exact tY _ | exact tK _ | exact tih _ | exact semis_tame _ | refine nest_agr (by omega) (fun _=> ?_) ?_ | exact Agr.pure True.intro | refine Agr.ib ?_ ?_ | refine Agr.ite ?_ ?_ | refine Agr.bind (Q:=T) ?_ (fun _ _=> ?_) (fun _ _=> ?_)| exact adv_tame | exact is_tame _ | exact kind_tame _ | exact want_tame _ | exact look_tame _ | exact here_tame | exact Tame.mp True.intro | refine Tame.mi ?_ ?_ | refine Tame.ib ?_ | refine nest_tame ?_ | refine badP_agr ?_ | refine badP_tame ?_ | refine Tame.bind (Q:=T) ?_ (fun _ _=> ?_)
theorem simple_eq (Em Lm:M Pp.PS Nd):Pp.simpleB l Em Lm=mb (lookP l 0) fun t=>mi (t.kind==1) (mb (lookP l 1) fun n=>mi (Pp.word n ⟨#[58,61]⟩) (mb advP fun t=>mb advP fun _=>mb Em fun e=>mp (.mk 11 t [e])) (mi (Pp.word n ⟨#[58]⟩) (mb advP fun t=>mb advP fun _=>mb (isP l ⟨#[102,111,114]⟩) fun b=>ib b (mb Lm fun x=>mp (.mk 19 t [x]))) (mb hereP fun f=>mb Em fun x=>mb (isP l ⟨#[61]⟩) fun b=>mi b (mb advP fun t=>mb Em fun y=>mp (.mk 13 t [x,y])) (mp (.mk 12 f [x]))))) (mb hereP fun f=>mb Em fun x=>mb (isP l ⟨#[61]⟩) fun b=>mi b (mb advP fun t=>mb Em fun y=>mp (.mk 13 t [x,y])) (mp (.mk 12 f [x]))):=by
 funext p
 simp only[mb_adv,mb_is,mb_look,mb_here,mb_kind,mb_want,mb_semis,mb_nest];rfl
theorem simple_tame {Em Lm:M Pp.PS Nd} (tE:Tame Yp T Em):Tame Yp T (Pp.simpleB l Em Lm):=by
 rw[simple_eq]
 repeat' first | exact adv_tame | exact kind_tame _ | exact want_tame _ | exact here_tame | exact semis_tame _ | assumption | exact tih _ | exact Tame.mp True.intro | refine Tame.miF (by decide) ?_ | refine Tame.miT (by decide) ?_ |(refine Tame.bind (is_tame' _) ?_;rintro _ rfl)|(refine Tame.bind (look_tame' _) ?_;rintro _ rfl)| refine Tame.ib ?_ | refine nest_tame ?_ | refine badP_tame ?_ | refine Tame.bind (Q:=T) ?_ (fun _ _=> ?_)
theorem simple_agr (hg:Good l) {E:GN} {L:GN} {Em Lm:M Pp.PS Nd} (hE:AgA l E Em) (tE:Tame Yp T Em) (hL:AgA l L Lm) (tL:Tame Yp T Lm):AgA l (simpleG l E L) (Pp.simpleB l Em Lm):=by
 intro d hd;rw[simple_eq];unfold simpleG restG
 repeat' first | exact adv_agr hg | exact is_agr hg _ | exact kind_agr hg _ | exact want_agr hg _ | exact look_agr hg 0 (by decide)| exact look_agr hg 1 (by decide)| exact here_agr | exact semis_agr hg _ | assumption | exact AgA.at (by assumption) (by omega)| exact AgA.at (ih _) (by omega)| exact AgA.at (hY _) (by omega)| exact AgA.at (hK _) (by omega)| exact tY _ | exact tK _ | exact tih _ | exact semis_tame _ | refine nest_agr (by omega) (fun _=> ?_) ?_ | exact Agr.pure True.intro | refine Agr.ib ?_ ?_ | refine Agr.ite ?_ ?_ | refine Agr.bind (Q:=T) ?_ (fun _ _=> ?_) (fun _ _=> ?_)| exact adv_tame | exact is_tame _ | exact kind_tame _ | exact want_tame _ | exact look_tame _ | exact here_tame | exact Tame.mp True.intro | refine Tame.mi ?_ ?_ | refine Tame.ib ?_ | refine nest_tame ?_ | refine badP_agr ?_ | refine badP_tame ?_ | refine Tame.bind (Q:=T) ?_ (fun _ _=> ?_)
theorem stmt_eq (Vm Cm Bm Im Lm Rm Mxm:M Pp.PS Nd):Pp.stmtB l Vm Cm Bm Im Lm Rm Mxm=mb (isP l ⟨#[118,97,114]⟩) fun b=>mi b (Vm) (mb (isP l ⟨#[99,111,110,115,116]⟩) fun b=>mi b (Cm) (mb (isP l ⟨#[123]⟩) fun b=>mi b (Bm) (mb (isP l ⟨#[105,102]⟩) fun b=>mi b (Im) (mb (isP l ⟨#[102,111,114]⟩) fun b=>mi b (Lm) (mb (isP l ⟨#[114,101,116,117,114,110]⟩) fun b=>mi b (Rm) (mb (isP l ⟨#[98,114,101,97,107]⟩) fun b=>mi b (fun p=>Pp.leaveB l p 17) (mb (isP l ⟨#[99,111,110,116,105,110,117,101]⟩) fun b=>mi b (fun p=>Pp.leaveB l p 18) (Mxm)))))))):=by
 funext p
 simp only[mb_adv,mb_is,mb_look,mb_here,mb_kind,mb_want,mb_semis,mb_nest];rfl
theorem stmt_tame {Vm Cm Bm Im Lm Rm Mxm:M Pp.PS Nd} (tMx:Tame Yp T Mxm):Tame Yp T (Pp.stmtB l Vm Cm Bm Im Lm Rm Mxm):=by
 have h17:= @leave_tame l 17;have h18:= @leave_tame l 18;rw[stmt_eq]
 repeat' first | exact adv_tame | exact kind_tame _ | exact want_tame _ | exact here_tame | exact semis_tame _ | assumption | exact tih _ | exact Tame.mp True.intro | refine Tame.miF (by decide) ?_ | refine Tame.miT (by decide) ?_ |(refine Tame.bind (is_tame' _) ?_;rintro _ rfl)|(refine Tame.bind (look_tame' _) ?_;rintro _ rfl)| refine Tame.ib ?_ | refine nest_tame ?_ | refine badP_tame ?_ | refine Tame.bind (Q:=T) ?_ (fun _ _=> ?_)
theorem stmt_agr (hg:Good l) {V:GN} {C:GN} {B:GN} {I:GN} {L:GN} {R:GN} {Mx:GN} {Vm Cm Bm Im Lm Rm Mxm:M Pp.PS Nd} (hV:AgA l V Vm) (tV:Tame Yp T Vm) (hC:AgA l C Cm) (tC:Tame Yp T Cm) (hB:AgA l B Bm) (tB:Tame Yp T Bm) (hI:AgA l I Im) (tI:Tame Yp T Im) (hL:AgA l L Lm) (tL:Tame Yp T Lm) (hR:AgA l R Rm) (tR:Tame Yp T Rm) (hMx:AgA l Mx Mxm) (tMx:Tame Yp T Mxm):AgA l (stmtG l V C B I L R Mx) (Pp.stmtB l Vm Cm Bm Im Lm Rm Mxm):=by
 intro d hd;have h17:= @leave_tame l 17;have h18:= @leave_tame l 18;have h19:= @leave_agr l hg 17;have h20:= @leave_agr l hg 18;rw[stmt_eq];unfold stmtG
 repeat' first | exact adv_agr hg | exact is_agr hg _ | exact kind_agr hg _ | exact want_agr hg _ | exact look_agr hg 0 (by decide)| exact look_agr hg 1 (by decide)| exact here_agr | exact semis_agr hg _ | assumption | exact AgA.at (by assumption) (by omega)| exact AgA.at (ih _) (by omega)| exact AgA.at (hY _) (by omega)| exact AgA.at (hK _) (by omega)| exact tY _ | exact tK _ | exact tih _ | exact semis_tame _ | refine nest_agr (by omega) (fun _=> ?_) ?_ | exact Agr.pure True.intro | refine Agr.ib ?_ ?_ | refine Agr.ite ?_ ?_ | refine Agr.bind (Q:=T) ?_ (fun _ _=> ?_) (fun _ _=> ?_)| exact adv_tame | exact is_tame _ | exact kind_tame _ | exact want_tame _ | exact look_tame _ | exact here_tame | exact Tame.mp True.intro | refine Tame.mi ?_ ?_ | refine Tame.ib ?_ | refine nest_tame ?_ | refine badP_agr ?_ | refine badP_tame ?_ | refine Tame.bind (Q:=T) ?_ (fun _ _=> ?_)
theorem decl_eq (Vm Cm Sm Fm:M Pp.PS Nd):Pp.declB l Vm Cm Sm Fm=mb (isP l ⟨#[118,97,114]⟩) fun b=>mi b (Vm) (mb (isP l ⟨#[99,111,110,115,116]⟩) fun b=>mi b (Cm) (mb (isP l ⟨#[116,121,112,101]⟩) fun b=>mi b (Sm) (mb (isP l ⟨#[102,117,110,99]⟩) fun b=>mi b (Fm) (badP (mp (.mk 0 0 [])))))):=by
 funext p
 simp only[mb_adv,mb_is,mb_look,mb_here,mb_kind,mb_want,mb_semis,mb_nest];rfl
theorem decl_tame {Vm Cm Sm Fm:M Pp.PS Nd}:Tame Yp T (Pp.declB l Vm Cm Sm Fm):=by
 rw[decl_eq]
 repeat' first | exact adv_tame | exact kind_tame _ | exact want_tame _ | exact here_tame | exact semis_tame _ | assumption | exact tih _ | exact Tame.mp True.intro | refine Tame.miF (by decide) ?_ | refine Tame.miT (by decide) ?_ |(refine Tame.bind (is_tame' _) ?_;rintro _ rfl)|(refine Tame.bind (look_tame' _) ?_;rintro _ rfl)| refine Tame.ib ?_ | refine nest_tame ?_ | refine badP_tame ?_ | refine Tame.bind (Q:=T) ?_ (fun _ _=> ?_)
theorem decl_agr (hg:Good l) {V:GN} {C:GN} {S:GN} {F:GN} {Vm Cm Sm Fm:M Pp.PS Nd} (hV:AgA l V Vm) (tV:Tame Yp T Vm) (hC:AgA l C Cm) (tC:Tame Yp T Cm) (hS:AgA l S Sm) (tS:Tame Yp T Sm) (hF:AgA l F Fm) (tF:Tame Yp T Fm):AgA l (declG l V C S F) (Pp.declB l Vm Cm Sm Fm):=by
 intro d hd;rw[decl_eq];unfold declG
 repeat' first | exact adv_agr hg | exact is_agr hg _ | exact kind_agr hg _ | exact want_agr hg _ | exact look_agr hg 0 (by decide)| exact look_agr hg 1 (by decide)| exact here_agr | exact semis_agr hg _ | assumption | exact AgA.at (by assumption) (by omega)| exact AgA.at (ih _) (by omega)| exact AgA.at (hY _) (by omega)| exact AgA.at (hK _) (by omega)| exact tY _ | exact tK _ | exact tih _ | exact semis_tame _ | refine nest_agr (by omega) (fun _=> ?_) ?_ | exact Agr.pure True.intro | refine Agr.ib ?_ ?_ | refine Agr.ite ?_ ?_ | refine Agr.bind (Q:=T) ?_ (fun _ _=> ?_) (fun _ _=> ?_)| exact adv_tame | exact is_tame _ | exact kind_tame _ | exact want_tame _ | exact look_tame _ | exact here_tame | exact Tame.mp True.intro | refine Tame.mi ?_ ?_ | refine Tame.ib ?_ | refine nest_tame ?_ | refine badP_agr ?_ | refine badP_tame ?_ | refine Tame.bind (Q:=T) ?_ (fun _ _=> ?_)
theorem unary_eq (Um Pm:M Pp.PS Nd):Pp.unaryB l Um Pm=mb (lookP l 0) fun t=>mi (t.kind !=4) Pm (mi (Pp.unaryS t.text) (nestP (mb advP fun o=>mb Um fun x=>mp (.mk 23 o [x]))) Pm):=by
 funext p
 simp only[mb_adv,mb_is,mb_look,mb_here,mb_kind,mb_want,mb_semis,mb_nest];simp only[nestP,mi,mb,mp,advP,Pp.unaryB,Option.bind_assoc,Option.bind_some]
theorem unary_tame {Um Pm:M Pp.PS Nd} (tP:Tame Yp T Pm):Tame Yp T (Pp.unaryB l Um Pm):=by
 rw[unary_eq]
 repeat' first | exact adv_tame | exact kind_tame _ | exact want_tame _ | exact here_tame | exact semis_tame _ | assumption | exact tih _ | exact Tame.mp True.intro | refine Tame.miF (by decide) ?_ | refine Tame.miT (by decide) ?_ |(refine Tame.bind (is_tame' _) ?_;rintro _ rfl)|(refine Tame.bind (look_tame' _) ?_;rintro _ rfl)| refine Tame.ib ?_ | refine nest_tame ?_ | refine badP_tame ?_ | refine Tame.bind (Q:=T) ?_ (fun _ _=> ?_)
theorem unary_agr (hg:Good l) {U:GN} {P:GN} {Um Pm:M Pp.PS Nd} (hU:AgA l U Um) (tU:Tame Yp T Um) (hP:AgA l P Pm) (tP:Tame Yp T Pm):AgA l (unaryG l U P) (Pp.unaryB l Um Pm):=by
 intro d hd;rw[unary_eq];unfold unaryG
 repeat' first | exact adv_agr hg | exact is_agr hg _ | exact kind_agr hg _ | exact want_agr hg _ | exact look_agr hg 0 (by decide)| exact look_agr hg 1 (by decide)| exact here_agr | exact semis_agr hg _ | assumption | exact AgA.at (by assumption) (by omega)| exact AgA.at (ih _) (by omega)| exact AgA.at (hY _) (by omega)| exact AgA.at (hK _) (by omega)| exact tY _ | exact tK _ | exact tih _ | exact semis_tame _ | refine nest_agr (by omega) (fun _=> ?_) ?_ | exact Agr.pure True.intro | refine Agr.ib ?_ ?_ | refine Agr.ite ?_ ?_ | refine Agr.bind (Q:=T) ?_ (fun _ _=> ?_) (fun _ _=> ?_)| exact adv_tame | exact is_tame _ | exact kind_tame _ | exact want_tame _ | exact look_tame _ | exact here_tame | exact Tame.mp True.intro | refine Tame.mi ?_ ?_ | refine Tame.ib ?_ | refine nest_tame ?_ | refine badP_agr ?_ | refine badP_tame ?_ | refine Tame.bind (Q:=T) ?_ (fun _ _=> ?_)
theorem first_eq (Em:M Pp.PS Nd):Pp.firstB l Em=mb (lookP l 0) fun t=>mi (t.kind==1) (mb advP fun o=>mp (.mk 20 o [])) (mi (t.kind==2) (mb advP fun o=>mp (.mk 21 o [])) (mi (t.kind==3) (mb advP fun o=>mp (.mk 22 o [])) (mb (isP l ⟨#[40]⟩) fun b=>mi b (nestP (mb advP fun o=>mb Em fun x=>mb (wantM l ⟨#[41]⟩) fun _=>mp (.mk 25 o [x]))) (badP (mp (.mk 0 0 [])))))):=by
 funext p
 simp only[mb_adv,mb_is,mb_look,mb_here,mb_kind,mb_want,mb_semis,mb_nest];simp only[nestP,badP,mi,mb,mp,mb_want,advP,Pp.firstB,Option.bind_assoc,Option.bind_some]
theorem first_tame {Em:M Pp.PS Nd}:Tame Yp T (Pp.firstB l Em):=by
 rw[first_eq]
 repeat' first | exact adv_tame | exact kind_tame _ | exact want_tame _ | exact here_tame | exact semis_tame _ | assumption | exact tih _ | exact Tame.mp True.intro | refine Tame.miF (by decide) ?_ | refine Tame.miT (by decide) ?_ |(refine Tame.bind (is_tame' _) ?_;rintro _ rfl)|(refine Tame.bind (look_tame' _) ?_;rintro _ rfl)| refine Tame.ib ?_ | refine nest_tame ?_ | refine badP_tame ?_ | refine Tame.bind (Q:=T) ?_ (fun _ _=> ?_)
theorem first_agr (hg:Good l) {E:GN} {Em:M Pp.PS Nd} (hE:AgA l E Em) (tE:Tame Yp T Em):AgA l (firstG l E) (Pp.firstB l Em):=by
 intro d hd;rw[first_eq];unfold firstG
 repeat' first | exact adv_agr hg | exact is_agr hg _ | exact kind_agr hg _ | exact want_agr hg _ | exact look_agr hg 0 (by decide)| exact look_agr hg 1 (by decide)| exact here_agr | exact semis_agr hg _ | assumption | exact AgA.at (by assumption) (by omega)| exact AgA.at (ih _) (by omega)| exact AgA.at (hY _) (by omega)| exact AgA.at (hK _) (by omega)| exact tY _ | exact tK _ | exact tih _ | exact semis_tame _ | refine nest_agr (by omega) (fun _=> ?_) ?_ | exact Agr.pure True.intro | refine Agr.ib ?_ ?_ | refine Agr.ite ?_ ?_ | refine Agr.bind (Q:=T) ?_ (fun _ _=> ?_) (fun _ _=> ?_)| exact adv_tame | exact is_tame _ | exact kind_tame _ | exact want_tame _ | exact look_tame _ | exact here_tame | exact Tame.mp True.intro | refine Tame.mi ?_ ?_ | refine Tame.ib ?_ | refine nest_tame ?_ | refine badP_agr ?_ | refine badP_tame ?_ | refine Tame.bind (Q:=T) ?_ (fun _ _=> ?_)
end Gr
end Go.Proofs.Dm
set_option maxHeartbeats 4000000
namespace Go.Proofs.Dm
open Go Go.Proofs Go.Proofs.Dm.Sc
namespace Gr
variable {l:List Tok}
theorem rank_le (s:ByteArray):0≤Pp.rank s∧Pp.rank s≤5:=by
 unfold Pp.rank
 repeat' split
 all_goals decide
theorem rank_w (s:ByteArray):w64 (Pp.rank s + 1)=Pp.rank s + 1:=by
 have:=rank_le s;exact w64_id (by omega) (by omega)
theorem binaryL_eq (Ym:Int→M Pp.PS Nd) (n:Nat) (rk:Int) (x:Nd):Pp.binaryL l Ym (n + 1) rk x=mb (lookP l 0) fun t=>mi (t.kind !=4) (mp x) (mi (decide (Pp.rank t.text < rk)) (mp x) (mi (Pp.rank t.text==0) (mp x) (mb advP fun o=>mb (Ym (Pp.rank t.text + 1)) fun y=>Pp.binaryL l Ym n rk (.mk 24 o [x,y])))):=by
 funext p
 simp only[mb_adv,mb_is,mb_look,mb_here,mb_kind,mb_want,mb_semis,mb_nest];simp only[Pp.binaryL,mi,mb,mp,rank_w]
theorem binaryL_tame {Ym:Int→M Pp.PS Nd} (n:Nat) (rk:Int) (x:Nd):Tame Yp T (Pp.binaryL l Ym (n + 1) rk x):=by
 rw[binaryL_eq]
 repeat' first | exact adv_tame | exact kind_tame _ | exact want_tame _ | exact here_tame | exact semis_tame _ | assumption | exact tih _ | exact Tame.mp True.intro | refine Tame.miF (by decide) ?_ | refine Tame.miT (by decide) ?_ |(refine Tame.bind (is_tame' _) ?_;rintro _ rfl)|(refine Tame.bind (look_tame' _) ?_;rintro _ rfl)| refine Tame.ib ?_ | refine nest_tame ?_ | refine badP_tame ?_ | refine Tame.bind (Q:=T) ?_ (fun _ _=> ?_)
theorem binaryL_agr (hg:Good l) {Y:Int→GN} {Ym:Int→M Pp.PS Nd} (hY:∀r,AgA l (Y r) (Ym r)) (tY:∀r,Tame Yp T (Ym r)):∀(n:Nat) (rk:Int) (x:Nd),AgA l (binaryLG l Y n rk x) (Pp.binaryL l Ym (n + 1) rk x)
 | 0,rk,x=>fun d hd=>Agr.out
 | n + 1,rk,x=>by
  intro d hd;have ih:=fun x=>binaryL_agr hg hY tY n rk x
  have tih:=fun x=> @binaryL_tame l Ym n rk x
  rw[binaryL_eq];unfold binaryLG
  repeat' first | exact adv_agr hg | exact is_agr hg _ | exact kind_agr hg _ | exact want_agr hg _ | exact look_agr hg 0 (by decide)| exact look_agr hg 1 (by decide)| exact here_agr | exact semis_agr hg _ | assumption | exact AgA.at (by assumption) (by omega)| exact AgA.at (ih _ _) (by omega)| exact AgA.at (ih _) (by omega)| exact tih _ _ | exact AgA.at (hY _) (by omega)| exact AgA.at (hK _) (by omega)| exact tY _ | exact tK _ | exact tih _ | exact semis_tame _ | refine nest_agr (by omega) (fun _=> ?_) ?_ | exact Agr.pure True.intro | refine Agr.ib ?_ ?_ | refine Agr.ite ?_ ?_ | refine Agr.bind (Q:=T) ?_ (fun _ _=> ?_) (fun _ _=> ?_)| exact adv_tame | exact is_tame _ | exact kind_tame _ | exact want_tame _ | exact look_tame _ | exact here_tame | exact Tame.mp True.intro | refine Tame.mi ?_ ?_ | refine Tame.ib ?_ | refine nest_tame ?_ | refine badP_agr ?_ | refine badP_tame ?_ | refine Tame.bind (Q:=T) ?_ (fun _ _=> ?_)
theorem binary_eq (Um:M Pp.PS Nd) (Ym:Int→M Pp.PS Nd) (n:Nat) (rk:Int):Pp.binaryB l Um Ym n rk=mb Um fun x=>Pp.binaryL l Ym n rk x:=rfl
theorem binary_tame {Um:M Pp.PS Nd} {Ym:Int→M Pp.PS Nd} (tU:Tame Yp T Um) (N:Nat) (rk:Int):Tame Yp T (Pp.binaryB l Um Ym (N + 1) rk):=by
 rw[binary_eq];exact Tame.bind tU fun x _=>binaryL_tame N rk x
theorem binary_agr (hg:Good l) {U:GN} {Um:M Pp.PS Nd} {Y:Int→GN} {Ym:Int→M Pp.PS Nd} (hU:AgA l U Um) (hY:∀r,AgA l (Y r) (Ym r)) (tY:∀r,Tame Yp T (Ym r)) (N:Nat) (rk:Int):AgA l (binaryG l U Y N rk) (Pp.binaryB l Um Ym (N + 1) rk):=by
 intro d hd;rw[binary_eq];exact Agr.bind (hU d hd) (fun x _=>binaryL_agr hg hY tY N rk x d hd) (fun x _=>binaryL_tame N rk x)
theorem primL_eq (Km:Nd→M Pp.PS Nd) (n:Nat) (x:Nd):Pp.primL l Km (n + 1) x=mb (isP l ⟨#[40]⟩) fun b=>mi b (mb (Km x) fun y=>Pp.primL l Km n y) (mb (isP l ⟨#[46]⟩) fun c=>mi c (mb advP fun _=>mb (kindM l 1) fun t=>Pp.primL l Km n (.mk 27 t [x])) (mp x)):=by
 funext p
 simp only[mb_adv,mb_is,mb_look,mb_here,mb_kind,mb_want,mb_semis,mb_nest];rfl
theorem primL_tame {Km:Nd→M Pp.PS Nd} (n:Nat) (x:Nd):Tame Yp T (Pp.primL l Km (n + 1) x):=by
 rw[primL_eq]
 repeat' first | exact adv_tame | exact kind_tame _ | exact want_tame _ | exact here_tame | exact semis_tame _ | assumption | exact tih _ | exact Tame.mp True.intro | refine Tame.miF (by decide) ?_ | refine Tame.miT (by decide) ?_ |(refine Tame.bind (is_tame' _) ?_;rintro _ rfl)|(refine Tame.bind (look_tame' _) ?_;rintro _ rfl)| refine Tame.ib ?_ | refine nest_tame ?_ | refine badP_tame ?_ | refine Tame.bind (Q:=T) ?_ (fun _ _=> ?_)
theorem primL_agr (hg:Good l) {K:Nd→GN} {Km:Nd→M Pp.PS Nd} (hK:∀x,AgA l (K x) (Km x)) (tK:∀x,Tame Yp T (Km x)):∀(n:Nat) (x:Nd),AgA l (primLG l K n x) (Pp.primL l Km (n + 1) x)
 | 0,x=>fun d hd=>Agr.out
 | n + 1,x=>by
  intro d hd;have ih:=fun x=>primL_agr hg hK tK n x
  have tih:=fun x=> @primL_tame l Km n x
  rw[primL_eq];unfold primLG
  repeat' first | exact adv_agr hg | exact is_agr hg _ | exact kind_agr hg _ | exact want_agr hg _ | exact look_agr hg 0 (by decide)| exact look_agr hg 1 (by decide)| exact here_agr | exact semis_agr hg _ | assumption | exact AgA.at (by assumption) (by omega)| exact AgA.at (ih _ _) (by omega)| exact AgA.at (ih _) (by omega)| exact tih _ _ | exact AgA.at (hY _) (by omega)| exact AgA.at (hK _) (by omega)| exact tY _ | exact tK _ | exact tih _ | exact semis_tame _ | refine nest_agr (by omega) (fun _=> ?_) ?_ | exact Agr.pure True.intro | refine Agr.ib ?_ ?_ | refine Agr.ite ?_ ?_ | refine Agr.bind (Q:=T) ?_ (fun _ _=> ?_) (fun _ _=> ?_)| exact adv_tame | exact is_tame _ | exact kind_tame _ | exact want_tame _ | exact look_tame _ | exact here_tame | exact Tame.mp True.intro | refine Tame.mi ?_ ?_ | refine Tame.ib ?_ | refine nest_tame ?_ | refine badP_agr ?_ | refine badP_tame ?_ | refine Tame.bind (Q:=T) ?_ (fun _ _=> ?_)
theorem prim_eq (Fm:M Pp.PS Nd) (Km:Nd→M Pp.PS Nd) (n:Nat):Pp.primB l Fm Km n=mb Fm fun x=>Pp.primL l Km n x:=rfl
theorem prim_tame {Fm:M Pp.PS Nd} {Km:Nd→M Pp.PS Nd} (tF:Tame Yp T Fm) (N:Nat):Tame Yp T (Pp.primB l Fm Km (N + 1)):=by
 rw[prim_eq];exact Tame.bind tF fun x _=>primL_tame N x
theorem prim_agr (hg:Good l) {F:GN} {Fm:M Pp.PS Nd} {K:Nd→GN} {Km:Nd→M Pp.PS Nd} (hF:AgA l F Fm) (hK:∀x,AgA l (K x) (Km x)) (tK:∀x,Tame Yp T (Km x)) (N:Nat):AgA l (primG l F K N) (Pp.primB l Fm Km (N + 1)):=by
 intro d hd;rw[prim_eq];exact Agr.bind (hF d hd) (fun x _=>primL_agr hg hK tK N x d hd) (fun x _=>primL_tame N x)
theorem callL_eq (Em:M Pp.PS Nd) (n:Nat) (ks:List Nd) (hk:ks.length < 4294967296):Pp.callL l Em (n + 1) ks=fltP (mb (isP l ⟨#[41]⟩) fun b=>mi b (mp ks) (mb Em fun e=>mb (isP l ⟨#[41]⟩) fun c=>mi c (Pp.callL l Em n (ks ++ [e])) (mb (wantM l ⟨#[44]⟩) fun _=>mb (isP l ⟨#[41]⟩) fun d=>fun p=>Pp.callL l Em n (ks ++ [e]) (if d then Pp.bad p else p)))) (mp ks):=by
 funext p
 simp only[mb_adv,mb_is,mb_look,mb_here,mb_kind,mb_want,mb_semis,mb_nest];simp only[Pp.callL,app_ok hk,Option.bind_some];rfl
theorem callL_tame {Em:M Pp.PS Nd} (n:Nat) (ks:List Nd):Tame Yp T (Pp.callL l Em (n + 1) ks):=by
 intro p hp;have hp':0≤p.fault:=hp;have:decide (p.fault < 0)=false:=by simp;omega
 exact⟨ks,p,by simp only[Pp.callL,this];rfl,rfl,True.intro⟩
theorem Agr.ifbad {α:Type} {d:Nat} {s:G α} {m:M Pp.PS α} {b:Bool} (h:Agr Yp l.length d T s m) (ht:Tame Yp T m):Agr Yp l.length d T (Gr.ite b fail s) (fun p=>m (if b then Pp.bad p else p)):=by
 cases b with
 | true=>exact badP_agr ht
 | false=>exact h
theorem Tame.ifbad {α:Type} {m:M Pp.PS α} {b:Bool} (ht:Tame Yp T m):Tame Yp T (fun p=>m (if b then Pp.bad p else p)):=by
 cases b with
 | true=>exact badP_tame ht
 | false=>exact ht
theorem callL_agr (hg:Good l) {E:GN} {Em:M Pp.PS Nd} (hE:AgA l E Em) (tE:Tame Yp T Em):∀(n:Nat) (ks:List Nd),ks.length + n < 4294967296→AgA l (callLG l E n ks) (Pp.callL l Em (n + 1) ks)
 | 0,ks,hk=>fun d hd=>Agr.out
 | n + 1,ks,hk=>by
  intro d hd;have ih:=fun x:Nd=>callL_agr hg hE tE n (ks ++ [x]) (by simp;omega)
  have tih:=fun x:Nd=> @callL_tame l Em n (ks ++ [x])
  rw[callL_eq Em (n + 1) ks (by omega)];refine Agr.flt ?_;unfold callLG
  repeat' first | exact is_agr hg _ | exact want_agr hg _ | exact AgA.at (ih _) (by omega)| exact AgA.at hE (by omega)| exact tih _ | assumption | exact Agr.pure True.intro | refine Agr.ifbad ?_ ?_ | refine Agr.ite ?_ ?_ | refine Agr.bind (Q:=T) ?_ (fun _ _=> ?_) (fun _ _=> ?_)| exact is_tame _ | exact want_tame _ | exact Tame.mp True.intro | refine Tame.ifbad ?_ | refine Tame.mi ?_ ?_ | refine Tame.bind (Q:=T) ?_ (fun _ _=> ?_)
theorem call_eq (Em:M Pp.PS Nd) (n:Nat) (x:Nd):Pp.callB l Em n x=nestP (mb advP fun o=>mb (Pp.callL l Em n [x]) fun ks=>mb (wantM l ⟨#[41]⟩) fun _=>mp (.mk 26 o ks)):=by
 funext p
 simp only[mb_want];simp only[nestP,mi,mb,mp,advP,Pp.callB,Option.bind_assoc,Option.bind_some]
theorem call_tame {Em:M Pp.PS Nd} (N:Nat) (x:Nd):Tame Yp T (Pp.callB l Em (N + 1) x):=by
 have tih:= @callL_tame l Em N;rw[call_eq]
 repeat' first | exact adv_tame | exact kind_tame _ | exact want_tame _ | exact here_tame | exact semis_tame _ | assumption | exact tih _ | exact Tame.mp True.intro | refine Tame.miF (by decide) ?_ | refine Tame.miT (by decide) ?_ |(refine Tame.bind (is_tame' _) ?_;rintro _ rfl)|(refine Tame.bind (look_tame' _) ?_;rintro _ rfl)| refine Tame.ib ?_ | refine nest_tame ?_ | refine badP_tame ?_ | refine Tame.bind (Q:=T) ?_ (fun _ _=> ?_)
theorem call_agr (hg:Good l) {E:GN} {Em:M Pp.PS Nd} (hE:AgA l E Em) (tE:Tame Yp T Em) (N:Nat) (hN:N < 4000000000) (x:Nd):AgA l (callG l E N x) (Pp.callB l Em (N + 1) x):=by
 intro d hd;have tih:= @callL_tame l Em N;have hcl:=callL_agr hg hE tE N [x] (by simp;omega);rw[call_eq];unfold callG
 repeat' first | exact adv_agr hg | exact is_agr hg _ | exact kind_agr hg _ | exact want_agr hg _ | exact look_agr hg 0 (by decide)| exact look_agr hg 1 (by decide)| exact here_agr | exact semis_agr hg _ | assumption | exact AgA.at (by assumption) (by omega)| exact AgA.at (ih _ _) (by omega)| exact AgA.at (ih _) (by omega)| exact tih _ _ | exact AgA.at (hY _) (by omega)| exact AgA.at (hK _) (by omega)| exact tY _ | exact tK _ | exact tih _ | exact semis_tame _ | refine nest_agr (by omega) (fun _=> ?_) ?_ | exact Agr.pure True.intro | refine Agr.ib ?_ ?_ | refine Agr.ite ?_ ?_ | refine Agr.bind (Q:=T) ?_ (fun _ _=> ?_) (fun _ _=> ?_)| exact adv_tame | exact is_tame _ | exact kind_tame _ | exact want_tame _ | exact look_tame _ | exact here_tame | exact Tame.mp True.intro | refine Tame.mi ?_ ?_ | refine Tame.ib ?_ | refine nest_tame ?_ | refine badP_agr ?_ | refine badP_tame ?_ | refine Tame.bind (Q:=T) ?_ (fun _ _=> ?_)
theorem curlyL_eq (Sm:M Pp.PS Nd) (N n:Nat) (ks:List Nd) (hk:ks.length < 4294967296):Pp.curlyL l Sm N (n + 1) ks=fltP (mb (isP l ⟨#[125]⟩) fun b=>mi b (mp ks) (mb Sm fun e=>mb (isP l ⟨#[125]⟩) fun c=>mi c (Pp.curlyL l Sm N n (ks ++ [e])) (mb (kindM l 6) fun _=>mb (semisM l N) fun _=>Pp.curlyL l Sm N n (ks ++ [e])))) (mp ks):=by
 funext p
 simp only[mb_adv,mb_is,mb_look,mb_here,mb_kind,mb_want,mb_semis,mb_nest];simp only[Pp.curlyL,app_ok hk,Option.bind_some];rfl
theorem curlyL_tame {Sm:M Pp.PS Nd} (N n:Nat) (ks:List Nd):Tame Yp T (Pp.curlyL l Sm N (n + 1) ks):=by
 intro p hp;have hp':0≤p.fault:=hp;have:decide (p.fault < 0)=false:=by simp;omega
 exact⟨ks,p,by simp only[Pp.curlyL,this];rfl,rfl,True.intro⟩
theorem curlyL_agr (hg:Good l) {S:GN} {Sm:M Pp.PS Nd} (hS:AgA l S Sm) (tS:Tame Yp T Sm) (N:Nat):∀(n:Nat) (ks:List Nd),ks.length + n < 4294967296→AgA l (curlyLG l S N n ks) (Pp.curlyL l Sm (N + 1) (n + 1) ks)
 | 0,ks,hk=>fun d hd=>Agr.out
 | n + 1,ks,hk=>by
  intro d hd;have ih:=fun x:Nd=>curlyL_agr hg hS tS N n (ks ++ [x]) (by simp;omega)
  have tih:=fun x:Nd=> @curlyL_tame l Sm (N + 1) n (ks ++ [x])
  rw[curlyL_eq Sm (N + 1) (n + 1) ks (by omega)];refine Agr.flt ?_;unfold curlyLG
  repeat' first | exact adv_agr hg | exact is_agr hg _ | exact kind_agr hg _ | exact want_agr hg _ | exact look_agr hg 0 (by decide)| exact look_agr hg 1 (by decide)| exact here_agr | exact semis_agr hg _ | assumption | exact AgA.at (by assumption) (by omega)| exact AgA.at (ih _ _) (by omega)| exact AgA.at (ih _) (by omega)| exact tih _ _ | exact AgA.at (hY _) (by omega)| exact AgA.at (hK _) (by omega)| exact tY _ | exact tK _ | exact tih _ | exact semis_tame _ | refine nest_agr (by omega) (fun _=> ?_) ?_ | exact Agr.pure True.intro | refine Agr.ib ?_ ?_ | refine Agr.ite ?_ ?_ | refine Agr.bind (Q:=T) ?_ (fun _ _=> ?_) (fun _ _=> ?_)| exact adv_tame | exact is_tame _ | exact kind_tame _ | exact want_tame _ | exact look_tame _ | exact here_tame | exact Tame.mp True.intro | refine Tame.mi ?_ ?_ | refine Tame.ib ?_ | refine nest_tame ?_ | refine badP_agr ?_ | refine badP_tame ?_ | refine Tame.bind (Q:=T) ?_ (fun _ _=> ?_)
theorem curly_eq (Sm:M Pp.PS Nd) (N:Nat):Pp.curlyB l Sm N=mb (isP l ⟨#[123]⟩) fun b=>ib b (nestP (mb advP fun t=>mb (semisM l N) fun _=>mb (Pp.curlyL l Sm N N []) fun ks=>mb (wantM l ⟨#[125]⟩) fun _=>mp (t,ks))):=by
 funext p
 simp only[mb_adv,mb_is,mb_look,mb_here,mb_kind,mb_want,mb_semis,mb_nest];simp only[ib,nestP,mb_semis,mb_want,mb,mp,advP,Pp.curlyB,Pp.curlyO,Option.bind_assoc,Option.bind_some]
theorem curly_tame {Sm:M Pp.PS Nd} (N:Nat):Tame Yp T (Pp.curlyB l Sm (N + 1)):=by
 have tih:= @curlyL_tame l Sm (N + 1) N;rw[curly_eq]
 repeat' first | exact adv_tame | exact kind_tame _ | exact want_tame _ | exact here_tame | exact semis_tame _ | assumption | exact tih _ | exact Tame.mp True.intro | refine Tame.miF (by decide) ?_ | refine Tame.miT (by decide) ?_ |(refine Tame.bind (is_tame' _) ?_;rintro _ rfl)|(refine Tame.bind (look_tame' _) ?_;rintro _ rfl)| refine Tame.ib ?_ | refine nest_tame ?_ | refine badP_tame ?_ | refine Tame.bind (Q:=T) ?_ (fun _ _=> ?_)
theorem curly_agr (hg:Good l) {S:GN} {Sm:M Pp.PS Nd} (hS:AgA l S Sm) (tS:Tame Yp T Sm) (N:Nat) (hN:N < 4000000000):AgA l (curlyG l S N) (Pp.curlyB l Sm (N + 1)):=by
 intro d hd;have tih:= @curlyL_tame l Sm (N + 1) N;have hcl:=curlyL_agr hg hS tS N N [] (by simp;omega);rw[curly_eq];unfold curlyG
 repeat' first | exact adv_agr hg | exact is_agr hg _ | exact kind_agr hg _ | exact want_agr hg _ | exact look_agr hg 0 (by decide)| exact look_agr hg 1 (by decide)| exact here_agr | exact semis_agr hg _ | assumption | exact AgA.at (by assumption) (by omega)| exact AgA.at (ih _ _) (by omega)| exact AgA.at (ih _) (by omega)| exact tih _ _ | exact AgA.at (hY _) (by omega)| exact AgA.at (hK _) (by omega)| exact tY _ | exact tK _ | exact tih _ | exact semis_tame _ | refine nest_agr (by omega) (fun _=> ?_) ?_ | exact Agr.pure True.intro | refine Agr.ib ?_ ?_ | refine Agr.ite ?_ ?_ | refine Agr.bind (Q:=T) ?_ (fun _ _=> ?_) (fun _ _=> ?_)| exact adv_tame | exact is_tame _ | exact kind_tame _ | exact want_tame _ | exact look_tame _ | exact here_tame | exact Tame.mp True.intro | refine Tame.mi ?_ ?_ | refine Tame.ib ?_ | refine nest_tame ?_ | refine badP_agr ?_ | refine badP_tame ?_ | refine Tame.bind (Q:=T) ?_ (fun _ _=> ?_)
theorem block_eq (Sm:M Pp.PS Nd) (N:Nat):Pp.blockB l Sm N=mb (Pp.curlyB l Sm N) fun r=>mp (.mk 10 r.1 r.2):=rfl
theorem block_tame {Sm:M Pp.PS Nd} (N:Nat):Tame Yp T (Pp.blockB l Sm (N + 1)):=by
 rw[block_eq];exact Tame.bind (curly_tame N) fun _ _=>Tame.mp True.intro
theorem block_agr (hg:Good l) {S:GN} {Sm:M Pp.PS Nd} (hS:AgA l S Sm) (tS:Tame Yp T Sm) (N:Nat) (hN:N < 4000000000):AgA l (blockG l S N) (Pp.blockB l Sm (N + 1)):=by
 intro d hd;rw[block_eq];exact Agr.bind (curly_agr hg hS tS N hN d hd) (fun _ _=>Agr.pure True.intro) (fun _ _=>Tame.mp True.intro)
theorem structure_eq (N:Nat):Pp.structureB l N=mb advP fun _=>mb (kindM l 1) fun t=>mb (wantM l ⟨#[115,116,114,117,99,116]⟩) fun _=>mb (Pp.curlyB l (Pp.fieldB l) N) fun r=>mp (.mk 6 t r.2):=by
 funext p
 simp only[mb_adv,mb_is,mb_look,mb_here,mb_kind,mb_want,mb_semis,mb_nest];rfl
theorem structure_tame (N:Nat):Tame Yp T (Pp.structureB l (N + 1)):=by
 have:= @curly_tame l (Pp.fieldB l) N;rw[structure_eq]
 repeat' first | exact adv_tame | exact kind_tame _ | exact want_tame _ | exact here_tame | exact semis_tame _ | assumption | exact tih _ | exact Tame.mp True.intro | refine Tame.miF (by decide) ?_ | refine Tame.miT (by decide) ?_ |(refine Tame.bind (is_tame' _) ?_;rintro _ rfl)|(refine Tame.bind (look_tame' _) ?_;rintro _ rfl)| refine Tame.ib ?_ | refine nest_tame ?_ | refine badP_tame ?_ | refine Tame.bind (Q:=T) ?_ (fun _ _=> ?_)
theorem structure_agr (hg:Good l) (N:Nat) (hN:N < 4000000000):AgA l (structureG l N) (Pp.structureB l (N + 1)):=by
 intro d hd;have h1:=curly_agr hg (field_agr hg) field_tame N hN;have h2:= @curly_tame l (Pp.fieldB l) N;rw[structure_eq];unfold structureG
 repeat' first | exact adv_agr hg | exact is_agr hg _ | exact kind_agr hg _ | exact want_agr hg _ | exact look_agr hg 0 (by decide)| exact look_agr hg 1 (by decide)| exact here_agr | exact semis_agr hg _ | assumption | exact AgA.at (by assumption) (by omega)| exact AgA.at (ih _ _) (by omega)| exact AgA.at (ih _) (by omega)| exact tih _ _ | exact AgA.at (hY _) (by omega)| exact AgA.at (hK _) (by omega)| exact tY _ | exact tK _ | exact tih _ | exact semis_tame _ | refine nest_agr (by omega) (fun _=> ?_) ?_ | exact Agr.pure True.intro | refine Agr.ib ?_ ?_ | refine Agr.ite ?_ ?_ | refine Agr.bind (Q:=T) ?_ (fun _ _=> ?_) (fun _ _=> ?_)| exact adv_tame | exact is_tame _ | exact kind_tame _ | exact want_tame _ | exact look_tame _ | exact here_tame | exact Tame.mp True.intro | refine Tame.mi ?_ ?_ | refine Tame.ib ?_ | refine nest_tame ?_ | refine badP_agr ?_ | refine badP_tame ?_ | refine Tame.bind (Q:=T) ?_ (fun _ _=> ?_)
end Gr
end Go.Proofs.Dm
