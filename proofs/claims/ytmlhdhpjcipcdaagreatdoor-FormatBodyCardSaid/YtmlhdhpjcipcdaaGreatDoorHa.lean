/- Part of the proof: contracts of the functions, walked by the D-machine. No condition. -/
import Derived.Test.YtmlhdhpjcipcdaaGreatDoorRd
import Derived.Test.YtmlhdhpjcipcdaaGreatDoorGa
import Derived.Test.YtmlhdhpjcipcdaaGreatDoorGc
set_option linter.unusedSimpArgs false
set_option linter.unusedVariables false
set_option maxHeartbeats 4000000
namespace Go.Proofs.Dm
open Go Go.Proofs Go.Proofs.Dm.Sc
namespace Gr
def Yr (l:List Tok):Sty Rp.RS:=⟨fun d a=>⟨(a:Int),-1,(d:Int)⟩,fun rs=>if 0≤rs.at_∧rs.at_ <(l.length:Int)then rs.bad else -1⟩
def kindR (l:List Tok) (k:Int):M Rp.RS Int:=fun p=>Rp.wantK l p k
def wantR (l:List Tok) (s:ByteArray):M Rp.RS Int:=fun p=>Rp.want l p s
def nextR (l:List Tok):M Rp.RS Int:=fun p=>some (Rp.next l p)
def isR (l:List Tok) (s:ByteArray):M Rp.RS Bool:=fun p=>(Rp.isW l p s).map fun b=>(b,p)
def isNR (l:List Tok) (s:ByteArray):M Rp.RS Bool:=fun p=>(Rp.isN l p s).map fun b=>(b,p)
def kqR (l:List Tok) (k:Int):M Rp.RS Bool:=fun p=>(Rp.kindQ l p k).map fun b=>(b,p)
def kqNR (l:List Tok) (k:Int):M Rp.RS Bool:=fun p=>(Rp.kindN l p k).map fun b=>(b,p)
def tokR (l:List Tok):M Rp.RS Tok:=fun p=>(Rp.here l p).map fun b=>(b,p)
def hereR:M Rp.RS Int:=fun p=>some (p.at_,p)
def semisR (l:List Tok) (n:Nat):M Rp.RS Unit:=fun p=>(Rp.semis l n p).map fun q=>((),q)
def shutR {α:Type} (m:M Rp.RS α):M Rp.RS α:=fun p=>(m p).bind fun r=>some (r.1,Rp.shut r.2)
def nestR {α:Type} (m:M Rp.RS α):M Rp.RS α:=fun p=>(m (Rp.openR p)).bind fun r=>some (r.1,Rp.shut r.2)
def failR {α:Type} (m:M Rp.RS α):M Rp.RS α:=fun p=>m (Rp.fail p)
def fltR {α:Type} (m n:M Rp.RS α):M Rp.RS α:=fun p=>if decide (p.bad < 0)then m p else n p
variable {α β:Type} {l:List Tok} {d:Nat}
theorem r_kind (k:Int) (f:Int→M Rp.RS β):mb (kindR l k) f=fun p=>(Rp.wantK l p k).bind fun r=>f r.1 r.2:=rfl
theorem r_want (s:ByteArray) (f:Int→M Rp.RS β):mb (wantR l s) f=fun p=>(Rp.want l p s).bind fun r=>f r.1 r.2:=rfl
theorem r_next (f:Int→M Rp.RS β):mb (nextR l) f=fun p=>f (Rp.next l p).1 (Rp.next l p).2:=rfl
theorem r_is (s:ByteArray) (f:Bool→M Rp.RS β):mb (isR l s) f=fun p=>(Rp.isW l p s).bind fun b=>f b p:=by
 funext p;simp only[mb,isR];cases Rp.isW l p s <;> rfl
theorem r_isN (s:ByteArray) (f:Bool→M Rp.RS β):mb (isNR l s) f=fun p=>(Rp.isN l p s).bind fun b=>f b p:=by
 funext p;simp only[mb,isNR];cases Rp.isN l p s <;> rfl
theorem r_kq (k:Int) (f:Bool→M Rp.RS β):mb (kqR l k) f=fun p=>(Rp.kindQ l p k).bind fun b=>f b p:=by
 funext p;simp only[mb,kqR];cases Rp.kindQ l p k <;> rfl
theorem r_kqN (k:Int) (f:Bool→M Rp.RS β):mb (kqNR l k) f=fun p=>(Rp.kindN l p k).bind fun b=>f b p:=by
 funext p;simp only[mb,kqNR];cases Rp.kindN l p k <;> rfl
theorem r_tok (f:Tok→M Rp.RS β):mb (tokR l) f=fun p=>(Rp.here l p).bind fun b=>f b p:=by
 funext p;simp only[mb,tokR];cases Rp.here l p <;> rfl
theorem r_here (f:Int→M Rp.RS β):mb hereR f=fun p=>f p.at_ p:=rfl
theorem r_semis (n:Nat) (f:Unit→M Rp.RS β):mb (semisR l n) f=fun p=>(Rp.semis l n p).bind fun q=>f () q:=by
 funext p;simp only[mb,semisR];cases Rp.semis l n p <;> rfl
theorem r_nest (m:M Rp.RS α) (f:α→M Rp.RS β):mb (nestR m) f=fun p=>(m (Rp.openR p)).bind fun r=>f r.1 (Rp.shut r.2):=by
 funext p;simp only[mb,nestR];cases m (Rp.openR p)<;> rfl
theorem yr_emb (a:Nat):(Yr l).emb d a=⟨(a:Int),-1,(d:Int)⟩:=rfl
theorem flt_at {p:Rp.RS} (h:0≤(Yr l).flt p):0≤p.at_∧p.at_ <(l.length:Int)∧0≤p.bad∧(Yr l).flt p=p.bad:=by
 simp only[Yr]at h⊢;split at h
 ·rename_i q;exact⟨q.1,q.2,h,by rw[if_pos q]⟩
 ·omega
theorem at_flt {p:Rp.RS} (h1:0≤p.at_) (h2:p.at_ <(l.length:Int)):(Yr l).flt p=p.bad:=by
 simp only[Yr];rw[if_pos ⟨h1,h2⟩]
theorem here_emb (a:Nat) (ha:a < l.length):Rp.here l ⟨(a:Int),-1,(d:Int)⟩=some (tokAt l a):=by
 simp only[Rp.here];rw[if_pos (by omega),Int.toNat_natCast];exact tok_lt a ha
theorem here_at {p:Rp.RS} (h1:0≤p.at_) (h2:p.at_ <(l.length:Int)):∃t,Rp.here l p=some t∧t=tokAt l p.at_.toNat:=by
 refine⟨_,?_,rfl⟩;simp only[Rp.here];rw[if_pos h1];exact tok_lt _ (by omega)
theorem next_bad (p:Rp.RS) (h:0≤p.bad):Rp.next l p=(p.at_,p):=by
 simp only[Rp.next];have:decide (p.bad < 0)=false:=by simp;omega
 rw[this];rfl
theorem fail_bad (p:Rp.RS) (h:0≤p.bad):Rp.fail p=p:=by simp only[Rp.fail];rw[if_neg (by omega)]
theorem fail_emb (a:Nat):Rp.fail ⟨(a:Int),-1,(d:Int)⟩=⟨(a:Int),(a:Int),(d:Int)⟩:=by simp[Rp.fail]
theorem next_emb (hg:Good l) (a:Nat) (ha:a < l.length) (h:(tokAt l a).kind≠7):Rp.next l ⟨(a:Int),-1,(d:Int)⟩=((a:Int),(Yr l).emb d (a + 1)):=by
 have h1:=next_lt hg a ha h;have hl:=hg.len;have e1:w64 ((l.length:Int)- 1)=(l.length:Int)- 1:=w64_id (by omega) (by omega);have e2:w64 ((a:Int)+ 1)=((a + 1:Nat):Int):=by rw[show((a:Int)+ 1)=((a + 1:Nat):Int)by omega];exact i64w _ (by omega)
 have e3:w64 (((a + 1:Nat):Int)- 1)=(a:Int):=by rw[show((a + 1:Nat):Int)- 1=(a:Int)by omega];exact i64w _ (by omega)
 simp only[Rp.next,e1,e2,e3];have:decide ((a:Int)<(l.length:Int)- 1)=true:=by simp;omega
 rw[this];rfl
theorem next_agr (hg:Good l):Agr (Yr l) l.length d T (adv l) (nextR l):=by
 intro a ha;simp only[adv];split
 ·exact True.intro
 ·rename_i h;have h':(tokAt l a).kind≠7:=by simpa using h
  exact⟨next_lt hg a ha h',by simp only[nextR,yr_emb];rw[next_emb hg a ha h'];rfl,True.intro⟩
theorem next_tame:Tame (Yr l) T (nextR l):=by
 intro p h;obtain⟨h1,h2,h3,h4⟩:=flt_at h;exact⟨p.at_,p,by simp only[nextR,next_bad p h3],rfl,True.intro⟩
theorem isr_emb (s:ByteArray) (a:Nat) (ha:a < l.length):Rp.isW l ⟨(a:Int),-1,(d:Int)⟩ s=some (Pp.word (tokAt l a) s):=by simp only[Rp.isW,here_emb a ha];rfl
theorem isr_agr (s:ByteArray):Agr (Yr l) l.length d T (isG l s) (isR l s):=fun a ha=>⟨ha,by simp only[isR,yr_emb,isr_emb s a ha];rfl,True.intro⟩
theorem isr_tame (s:ByteArray):Tame (Yr l) T (isR l s):=by
 intro p h;obtain⟨h1,h2,h3,h4⟩:=flt_at h;obtain⟨t,h5,h6⟩:=here_at h1 h2;exact⟨_,p,by simp only[isR,Rp.isW,h5];rfl,rfl,True.intro⟩
theorem isN_emb (s:ByteArray) (a:Nat):Rp.isN l ⟨(a:Int),-1,(d:Int)⟩ s=Rp.isW l ⟨(a:Int),-1,(d:Int)⟩ s:=rfl
theorem kindN_emb (k:Int) (a:Nat):Rp.kindN l ⟨(a:Int),-1,(d:Int)⟩ k=Rp.kindQ l ⟨(a:Int),-1,(d:Int)⟩ k:=rfl
theorem wantK_emb (k:Int) (a:Nat):Rp.wantK l ⟨(a:Int),-1,(d:Int)⟩ k=(Rp.kindQ l ⟨(a:Int),-1,(d:Int)⟩ k).map fun b=>Rp.next l (if b then⟨(a:Int),-1,(d:Int)⟩else Rp.fail ⟨(a:Int),-1,(d:Int)⟩):=rfl
theorem want_emb (s:ByteArray) (a:Nat):Rp.want l ⟨(a:Int),-1,(d:Int)⟩ s=(Rp.isW l ⟨(a:Int),-1,(d:Int)⟩ s).map fun b=>Rp.next l (if b then⟨(a:Int),-1,(d:Int)⟩else Rp.fail ⟨(a:Int),-1,(d:Int)⟩):=rfl
theorem semisr_emb (n:Nat) (a:Nat):Rp.semis l (n + 1) ⟨(a:Int),-1,(d:Int)⟩=(Rp.kindQ l ⟨(a:Int),-1,(d:Int)⟩ 6).bind fun b=>if b then Rp.semis l n (Rp.next l ⟨(a:Int),-1,(d:Int)⟩).2 else some ⟨(a:Int),-1,(d:Int)⟩:=rfl
theorem isN_agr (s:ByteArray):Agr (Yr l) l.length d T (isG l s) (isNR l s):=fun a ha=>⟨ha,by
 simp only[isNR,yr_emb];rw[isN_emb,isr_emb s a ha];rfl,True.intro⟩
theorem isN_tame' (s:ByteArray):Tame (Yr l) (fun b=>b=false) (isNR l s):=by
 intro p h;obtain⟨h1,h2,h3,h4⟩:=flt_at h;have:decide (p.bad < 0)=false:=by simp;omega
 exact⟨false,p,by simp only[isNR,Rp.isN,this];rfl,rfl,rfl⟩
theorem kq_emb (k:Int) (a:Nat) (ha:a < l.length):Rp.kindQ l ⟨(a:Int),-1,(d:Int)⟩ k=some ((tokAt l a).kind==k):=by simp only[Rp.kindQ,here_emb a ha];rfl
theorem kq_agr (k:Int):Agr (Yr l) l.length d T (kqG l k) (kqR l k):=fun a ha=>⟨ha,by simp only[kqR,yr_emb,kq_emb k a ha];rfl,True.intro⟩
theorem kq_tame (k:Int):Tame (Yr l) T (kqR l k):=by
 intro p h;obtain⟨h1,h2,h3,h4⟩:=flt_at h;obtain⟨t,h5,h6⟩:=here_at h1 h2;exact⟨_,p,by simp only[kqR,Rp.kindQ,h5];rfl,rfl,True.intro⟩
theorem kqN_agr (k:Int):Agr (Yr l) l.length d T (kqG l k) (kqNR l k):=fun a ha=>⟨ha,by
 simp only[kqNR,yr_emb];rw[kindN_emb,kq_emb k a ha];rfl,True.intro⟩
theorem kqN_tame' (k:Int):Tame (Yr l) (fun b=>b=false) (kqNR l k):=by
 intro p h;obtain⟨h1,h2,h3,h4⟩:=flt_at h;have:decide (p.bad < 0)=false:=by simp;omega
 exact⟨false,p,by simp only[kqNR,Rp.kindN,this];rfl,rfl,rfl⟩
theorem tok_agr:Agr (Yr l) l.length d T (tokG l) (tokR l):=fun a ha=>⟨ha,by simp only[tokR,yr_emb,here_emb a ha];rfl,True.intro⟩
theorem tok_tame:Tame (Yr l) T (tokR l):=by
 intro p h;obtain⟨h1,h2,h3,h4⟩:=flt_at h;obtain⟨t,h5,h6⟩:=here_at h1 h2;exact⟨_,p,by simp only[tokR,h5];rfl,rfl,True.intro⟩
theorem hereR_agr:Agr (Yr l) l.length d T here hereR:=fun a ha=>⟨ha,rfl,True.intro⟩
theorem hereR_tame:Tame (Yr l) T hereR:=fun p h=>⟨_,p,rfl,rfl,True.intro⟩
theorem failed (a:Nat) (ha:a < l.length):(Yr l).flt ⟨(a:Int),(a:Int),(d:Int)⟩=a:=at_flt (l:=l) (p:=⟨(a:Int),(a:Int),(d:Int)⟩) (by simp) (by simpa using ha)
theorem kindr_agr (hg:Good l) (k:Int):Agr (Yr l) l.length d T (kindG l k) (kindR l k):=by
 intro a ha;simp only[kindG,kindR,yr_emb];rw[wantK_emb];simp only[kq_emb k a ha,Option.map_some];cases h:(tokAt l a).kind==k with
 | true=>
  rw[if_pos rfl];have h':(tokAt l a).kind=k:=by simpa using h
  cases h7:k==7 with
  | true=>exact True.intro
  | false=>
   have h7':k≠7:=by simpa using h7
   rw[if_neg (by simp)];exact⟨next_lt hg a ha (by rw[h'];exact h7'),by rw[if_pos rfl,next_emb hg a ha (by rw[h'];exact h7')],True.intro⟩
 | false=>
  rw[if_neg (by simp),if_neg (by simp)];refine⟨_,_,rfl,?_,True.intro⟩;rw[fail_emb];exact failed a ha
theorem kindr_tame (k:Int):Tame (Yr l) T (kindR l k):=by
 intro p h;obtain⟨h1,h2,h3,h4⟩:=flt_at h;have:decide (p.bad < 0)=false:=by simp;omega
 exact⟨p.at_,p,by simp only[kindR,Rp.wantK,this,next_bad p h3];rfl,rfl,True.intro⟩
theorem wantr_agr (hg:Good l) (s:ByteArray):Agr (Yr l) l.length d T (wantG l s) (wantR l s):=by
 intro a ha;simp only[wantG,wantR,yr_emb];rw[want_emb];simp only[isr_emb s a ha,Option.map_some];cases h:Pp.word (tokAt l a) s with
 | true=>
  have h7:(tokAt l a).kind≠7:=by rcases word_kind h with q | q <;> rw[q] <;> decide
  rw[if_pos rfl,if_pos rfl];exact⟨next_lt hg a ha h7,by rw[next_emb hg a ha h7],True.intro⟩
 | false=>
  rw[if_neg (by simp),if_neg (by simp)];refine⟨_,_,rfl,?_,True.intro⟩;rw[fail_emb];exact failed a ha
theorem wantr_tame (s:ByteArray):Tame (Yr l) T (wantR l s):=by
 intro p h;obtain⟨h1,h2,h3,h4⟩:=flt_at h;have:decide (p.bad < 0)=false:=by simp;omega
 exact⟨p.at_,p,by simp only[wantR,Rp.want,this,next_bad p h3];rfl,rfl,True.intro⟩
theorem semisr_tame (n:Nat):Tame (Yr l) T (semisR l (n + 1)):=by
 intro p h;obtain⟨h1,h2,h3,h4⟩:=flt_at h;have:decide (p.bad < 0)=false:=by simp;omega
 exact⟨(),p,by simp only[semisR,Rp.semis,this];rfl,rfl,True.intro⟩
theorem semisr_agr (hg:Good l):∀n,Agr (Yr l) l.length d T (semisG l n) (semisR l (n + 1))
 | 0=>Agr.out
 | n + 1=>by
  intro a ha;simp only[semisG];cases h:(tokAt l a).kind==6 with
  | false=>
   rw[if_neg (by simp)];refine⟨ha,?_,True.intro⟩;simp only[semisR,yr_emb];rw[semisr_emb];simp only[kq_emb 6 a ha,h,Option.bind_some,Bool.false_eq_true,if_false,Option.map_some]
  | true=>
   have h6:(tokAt l a).kind=6:=by simpa using h
   have h7:(tokAt l a).kind≠7:=by rw[h6];decide
   have ih:=semisr_agr hg n (a + 1) (next_lt hg a ha h7);have e:semisR l (n + 1 + 1) ((Yr l).emb d a)=semisR l (n + 1) ((Yr l).emb d (a + 1)):=by
    simp only[semisR,yr_emb];rw[semisr_emb];simp only[kq_emb 6 a ha,h,Option.bind_some,if_true,next_emb hg a ha h7,yr_emb]
   rw[e,if_pos rfl];exact ih
theorem shutr_tame {Q:α→Prop} {m:M Rp.RS α} (hm:Tame (Yr l) Q m):Tame (Yr l) Q (shutR m):=by
 intro p h;obtain⟨x,q,h1,h2,h3⟩:=hm p h;exact⟨x,Rp.shut q,by simp only[shutR,h1];rfl,h2,h3⟩
theorem open_flt {p:Rp.RS} (h:0≤(Yr l).flt p):(Yr l).flt (Rp.openR p)=(Yr l).flt p:=by
 obtain⟨h1,h2,h3,h4⟩:=flt_at h;rw[h4];have e:(Rp.openR p).bad=p.bad∧(Rp.openR p).at_=p.at_:=by
  simp only[Rp.openR];split
  ·rw[fail_bad ⟨p.at_,p.bad,w64 (p.deep + 1)⟩ h3];exact⟨rfl,rfl⟩
  ·exact⟨rfl,rfl⟩
 rw[at_flt (by rw[e.2];exact h1) (by rw[e.2];exact h2),e.1]
theorem nestr_tame {Q:α→Prop} {m:M Rp.RS α} (hm:Tame (Yr l) Q m):Tame (Yr l) Q (nestR m):=by
 intro p h;obtain⟨x,q,h1,h2,h3⟩:=hm (Rp.openR p) (by rw[open_flt h];exact h);exact⟨x,Rp.shut q,by simp only[nestR,h1];rfl,by rw[←open_flt h,←h2];rfl,h3⟩
theorem nestr_agr {Q:α→Prop} {s:G α} {m:M Rp.RS α} (hd:d≤40) (h:d + 1≤40→Agr (Yr l) l.length (d + 1) Q s m) (hm:Tame (Yr l) Q m):Agr (Yr l) l.length d Q (nest s) (nestR m):=by
 have e:w64 ((d:Int)+ 1)=((d + 1:Nat):Int):=by rw[show((d:Int)+ 1)=((d + 1:Nat):Int)by omega];exact i64w _ (by omega)
 refine Agr.nest (op:=Rp.openR) (cl:=Rp.shut) (fun q=>h (by omega)) hm (fun a _ hd=> ?_) (fun a ha hd=> ?_) (fun a _ hd=> ?_) (fun p=>rfl)
 ·show Rp.openR ⟨(a:Int),-1,(d:Int)⟩=_;unfold Rp.openR;dsimp only;rw[e,if_neg (by omega)];rfl
 ·show(Yr l).flt (Rp.openR ⟨(a:Int),-1,(d:Int)⟩)=_;unfold Rp.openR;dsimp only;rw[e,if_pos (by omega),fail_emb];exact failed a ha
 ·show Rp.shut ⟨(a:Int),-1,((d + 1:Nat):Int)⟩=_;unfold Rp.shut;dsimp only;rw[show((d + 1:Nat):Int)- 1=(d:Int)by omega,i64w _ (by omega)];rfl
theorem failr_agr {Q:α→Prop} {m:M Rp.RS α} (hm:Tame (Yr l) Q m):Agr (Yr l) l.length d Q fail (failR m):=by
 intro a ha;obtain⟨x,p,h1,h2,h3⟩:=hm (Rp.fail ((Yr l).emb d a)) (by rw[yr_emb,fail_emb,failed a ha];omega);exact⟨x,p,h1,by rw[h2,yr_emb,fail_emb,failed a ha],h3⟩
theorem failr_tame {Q:α→Prop} {m:M Rp.RS α} (hm:Tame (Yr l) Q m):Tame (Yr l) Q (failR m):=by
 intro p h;obtain⟨h1,h2,h3,h4⟩:=flt_at h;simp only[failR,fail_bad p h3];exact hm p h
theorem fltr_agr {Q:α→Prop} {s:G α} {m n:M Rp.RS α} (h:Agr (Yr l) l.length d Q s m):Agr (Yr l) l.length d Q s (fltR m n):=fun a ha=>h a ha
theorem fltr_tame {Q:α→Prop} {m n:M Rp.RS α} (h:Tame (Yr l) Q n):Tame (Yr l) Q (fltR m n):=by
 intro p hp;obtain⟨h1,h2,h3,h4⟩:=flt_at hp;have:decide (p.bad < 0)=false:=by simp;omega
 simp only[fltR,this];exact h p hp
end Gr
end Go.Proofs.Dm
set_option maxHeartbeats 4000000
namespace Go.Proofs.Dm
open Go Go.Proofs Go.Proofs.Dm.Sc
namespace Gr
variable {l:List Tok}
def AgR {α:Type} (l:List Tok) (s:G α) (m:M Rp.RS α):Prop:=∀d,d≤40→Agr (Yr l) l.length d T s m
theorem AgR.at {α:Type} {s:G α} {m:M Rp.RS α} (h:AgR l s m) {d:Nat} (hd:d≤40):Agr (Yr l) l.length d T s m:=h d hd
theorem isN_tame (s:ByteArray):Tame (Yr l) T (isNR l s):=(isN_tame' s).weak fun _ _=>True.intro
theorem kqN_tame (k:Int):Tame (Yr l) T (kqNR l k):=(kqN_tame' k).weak fun _ _=>True.intro
def assMR (l:List Tok):M Rp.RS Bool:=fun p=>(Rp.kindQ l p 1).bind fun b=>if b then(Rp.ahead l p).bind fun t=>some (Rp.isAss t,p)else some (false,p)
theorem ahead_at (hg:Good l) {p:Rp.RS} (h1:0≤p.at_) (h2:p.at_ <(l.length:Int)) (hk:(tokAt l p.at_.toNat).kind=1):Rp.ahead l p=some (tokAt l (p.at_.toNat + 1)):=by
 have hl:=hg.len;have h3:=next_lt hg p.at_.toNat (by omega) (by rw[hk];decide);have e:w64 (p.at_ + 1)=p.at_ + 1:=w64_id (by omega) (by omega);simp only[Rp.ahead,e];rw[if_pos (by omega),show(p.at_ + 1).toNat=p.at_.toNat + 1 by omega];exact tok_lt _ h3
theorem assM_at (hg:Good l) {p:Rp.RS} (h1:0≤p.at_) (h2:p.at_ <(l.length:Int)):assMR l p=some ((tokAt l p.at_.toNat).kind==1&&isAssT (tokAt l (p.at_.toNat + 1)),p):=by
 obtain⟨t,h5,h6⟩:=here_at h1 h2;simp only[assMR,Rp.kindQ,h5,Option.map_some,Option.bind_some,h6];cases hk:(tokAt l p.at_.toNat).kind==1 with
 | false=>rfl
 | true=>
  have hk':(tokAt l p.at_.toNat).kind=1:=by simpa using hk
  rw[if_pos rfl,ahead_at hg h1 h2 hk'];rfl
theorem assM_agr (hg:Good l) {d:Nat}:Agr (Yr l) l.length d T (assMG l) (assMR l):=fun a ha=>⟨ha,by
 rw[yr_emb,assM_at hg (p:=⟨(a:Int),-1,(d:Int)⟩) (by simp) (by simpa using ha)];rfl,True.intro⟩
theorem assM_tame (hg:Good l):Tame (Yr l) T (assMR l):=by
 intro p h;obtain⟨h1,h2,h3,h4⟩:=flt_at h;exact⟨_,p,assM_at hg h1 h2,rfl,True.intro⟩
theorem leave2_eq (c:Bool):Rp.leaveR l c=mb hereR fun t=>mb (nextR l) fun _=>mb (kqR l 1) fun d=>mi d (mb (nextR l) fun u=>mp (.mk (if c then 18 else 17) t [.mk 19 u []])) (mp (.mk (if c then 18 else 17) t [])):=by
 funext p
 simp only[r_next,r_here,r_kq];rfl
theorem leave2_tame (c:Bool):Tame (Yr l) T (Rp.leaveR l c):=by
 rw[leave2_eq]
 repeat' first | exact h4 _ | exact next_tame | exact isr_tame _ | exact kindr_tame _ | exact wantr_tame _ | exact kq_tame _ | exact tok_tame | exact hereR_tame | exact semisr_tame _ | exact assM_tame hg | assumption | exact tK _ | exact tih _ | exact Tame.mp True.intro | refine Tame.miF (by decide) ?_ |(refine Tame.bind (isN_tame' _) ?_;rintro _ rfl)|(refine Tame.bind (kqN_tame' _) ?_;rintro _ rfl)| refine Tame.mi ?_ ?_ | refine nestr_tame ?_ | refine failr_tame ?_ | refine fltr_tame ?_ | refine Tame.bind (Q:=T) ?_ (fun _ _=> ?_)
theorem leave2_agr (hg:Good l) (c:Bool):AgR l (leave2 l c) (Rp.leaveR l c):=by
 intro d hd;rw[leave2_eq];unfold leave2
 repeat' first | exact h4 _ | exact AgR.at (h5 _) (by omega)| exact next_agr hg | exact isr_agr _ | exact isN_agr _ | exact kindr_agr hg _ | exact wantr_agr hg _ | exact kq_agr _ | exact kqN_agr _ | exact tok_agr | exact hereR_agr | exact semisr_agr hg _ | exact assM_agr hg | exact ih _ | assumption | exact AgR.at (by assumption) (by omega)| exact AgR.at (hK _) (by omega)| exact tK _ | exact tih _ | refine nestr_agr (by omega) (fun _=> ?_) ?_ | exact Agr.pure True.intro | refine failr_agr ?_ | refine fltr_agr ?_ | refine Agr.ite ?_ ?_ | refine Agr.bind (Q:=T) ?_ (fun _ _=> ?_) (fun _ _=> ?_)| exact next_tame | exact isr_tame _ | exact isN_tame _ | exact kindr_tame _ | exact wantr_tame _ | exact kq_tame _ | exact kqN_tame _ | exact tok_tame | exact hereR_tame | exact semisr_tame _ | exact assM_tame hg | exact Tame.mp True.intro | refine Tame.mi ?_ ?_ | refine nestr_tame ?_ | refine failr_tame ?_ | refine fltr_tame ?_ | refine Tame.bind (Q:=T) ?_ (fun _ _=> ?_)
theorem ifs_shape (l:List Tok) (E:Int→M Rp.RS Nd) (B R:M Rp.RS Nd) (p:Rp.RS):Rp.ifs l E B R p=(Rp.want l p ⟨#[105,102]⟩).bind fun r1=>mb (E 1) (fun e=>mb B fun b=>fun q=>(Rp.isN l q ⟨#[101,108,115,101]⟩).bind fun c=>mi c (fun q=>(Rp.isW l (Rp.next l q).2 ⟨#[105,102]⟩).bind fun i=>mi i (fun q=>(R (Rp.openR q)).bind fun r=>mp (Nd.mk 14 r1.1 [e,b,r.1]) (Rp.shut r.2)) (mb B fun r=>mp (Nd.mk 14 r1.1 [e,b,r])) (Rp.next l q).2) (mp (Nd.mk 14 r1.1 [e,b])) q) r1.2:=by
 simp only[Rp.ifs,mb,mp]
 congr 1;funext r1
 congr 1;funext r2
 congr 1;funext r3
 simp only[Rp.isN]
 by_cases h:r3.2.bad < 0
 ·have h1:decide (r3.2.bad < 0)=true:=by simpa using h
  have h2:decide (0≤r3.2.bad)=false:=by simpa using h
  simp only[h1,h2,if_true,Bool.false_eq_true,if_false]
  first | rfl |(congr 1;funext b;cases b <;> rfl)
 ·have h1:decide (r3.2.bad < 0)=false:=by simpa using h
  have h2:decide (0≤r3.2.bad)=true:=by simpa using h
  simp only[h1,h2,if_true,Bool.false_eq_true,if_false];rfl
theorem simple_shape (l:List Tok) (E:Int→M Rp.RS Nd) (L:M Rp.RS Nd) (p:Rp.RS):Rp.simpleR l E L p=mb (assMR l) (fun c=>mi c (Rp.assR l E L) (Rp.restR l E)) p:=by
 simp only[Rp.simpleR,mb,assMR];cases Rp.kindQ l p 1 with
 | none=>rfl
 | some b=>
  cases b with
  | false=>rfl
  | true=>
   simp only[Option.bind_some,if_true];cases Rp.ahead l p with
   | none=>rfl
   | some t=>cases h:Rp.isAss t <;> simp only[Option.bind_some,h,mi]
theorem unary_shape (l:List Tok) (U P:M Rp.RS Nd) (p:Rp.RS):Rp.unary l U P p=fltR (fun p=>(Rp.isW l p ⟨#[45]⟩).bind fun b=>mi b (nestR (fun p=>mb U (fun x=>mp (Nd.mk 23 (Rp.next l p).1 [x])) (Rp.next l p).2)) (fun p=>(Rp.isW l p ⟨#[33]⟩).bind fun c=>mi c (nestR (fun p=>mb U (fun x=>mp (Nd.mk 23 (Rp.next l p).1 [x])) (Rp.next l p).2)) P p) p) P p:=by
 simp only[Rp.unary,fltR,mi,nestR,mb,mp,Option.bind_assoc,Option.bind_some]
theorem types2_eq:Rp.types l=mb (kindR l 1) fun t=>mb (isNR l ⟨#[46]⟩) fun b=>mi b (mb (nextR l) fun _=>mb (kindR l 1) fun u=>mp (Nd.mk 28 u [Nd.mk 20 t []])) (mp (Nd.mk 28 t [])):=by
 funext p
 simp only[r_kind,r_want,r_next,r_is,r_isN,r_kq,r_kqN,r_tok,r_here,r_semis,r_nest,mb_app];rfl
theorem types2_tame:Tame (Yr l) T (Rp.types l):=by
 rw[types2_eq]
 repeat' first | exact h4 _ | exact next_tame | exact isr_tame _ | exact kindr_tame _ | exact wantr_tame _ | exact kq_tame _ | exact tok_tame | exact hereR_tame | exact semisr_tame _ | exact assM_tame hg | assumption | exact tK _ | exact tih _ | exact Tame.mp True.intro | refine Tame.miF (by decide) ?_ |(refine Tame.bind (isN_tame' _) ?_;rintro _ rfl)|(refine Tame.bind (kqN_tame' _) ?_;rintro _ rfl)| refine Tame.mi ?_ ?_ | refine nestr_tame ?_ | refine failr_tame ?_ | refine fltr_tame ?_ | refine Tame.bind (Q:=T) ?_ (fun _ _=> ?_)
theorem types2_agr (hg:Good l):AgR l (types2 l) (Rp.types l):=by
 intro d hd;rw[types2_eq];unfold types2
 repeat' first | exact h4 _ | exact AgR.at (h5 _) (by omega)| exact next_agr hg | exact isr_agr _ | exact isN_agr _ | exact kindr_agr hg _ | exact wantr_agr hg _ | exact kq_agr _ | exact kqN_agr _ | exact tok_agr | exact hereR_agr | exact semisr_agr hg _ | exact assM_agr hg | exact ih _ | assumption | exact AgR.at (by assumption) (by omega)| exact AgR.at (hK _) (by omega)| exact tK _ | exact tih _ | refine nestr_agr (by omega) (fun _=> ?_) ?_ | exact Agr.pure True.intro | refine failr_agr ?_ | refine fltr_agr ?_ | refine Agr.ite ?_ ?_ | refine Agr.bind (Q:=T) ?_ (fun _ _=> ?_) (fun _ _=> ?_)| exact next_tame | exact isr_tame _ | exact isN_tame _ | exact kindr_tame _ | exact wantr_tame _ | exact kq_tame _ | exact kqN_tame _ | exact tok_tame | exact hereR_tame | exact semisr_tame _ | exact assM_tame hg | exact Tame.mp True.intro | refine Tame.mi ?_ ?_ | refine nestr_tame ?_ | refine failr_tame ?_ | refine fltr_tame ?_ | refine Tame.bind (Q:=T) ?_ (fun _ _=> ?_)
theorem vars2_eq (E:Int→Gr.M Rp.RS Nd):Rp.vars l E=mb (wantR l ⟨#[118,97,114]⟩) fun _=>mb (kindR l 1) fun t=>mb (Rp.types l) fun y=>mb (isNR l ⟨#[61]⟩) fun b=>mi b (mb (nextR l) fun _=>mb (E 1) fun e=>mp (Nd.mk 4 t [y,e])) (mp (Nd.mk 4 t [y])):=by
 funext p
 simp only[r_kind,r_want,r_next,r_is,r_isN,r_kq,r_kqN,r_tok,r_here,r_semis,r_nest,mb_app];rfl
theorem vars2_tame {E:Int→Gr.M Rp.RS Nd} (tE:Tame (Yr l) T (E 1)):Tame (Yr l) T (Rp.vars l E):=by
 have hT:= @types2_tame l;rw[vars2_eq]
 repeat' first | exact h4 _ | exact next_tame | exact isr_tame _ | exact kindr_tame _ | exact wantr_tame _ | exact kq_tame _ | exact tok_tame | exact hereR_tame | exact semisr_tame _ | exact assM_tame hg | assumption | exact tK _ | exact tih _ | exact Tame.mp True.intro | refine Tame.miF (by decide) ?_ |(refine Tame.bind (isN_tame' _) ?_;rintro _ rfl)|(refine Tame.bind (kqN_tame' _) ?_;rintro _ rfl)| refine Tame.mi ?_ ?_ | refine nestr_tame ?_ | refine failr_tame ?_ | refine fltr_tame ?_ | refine Tame.bind (Q:=T) ?_ (fun _ _=> ?_)
theorem vars2_agr (hg:Good l) {Eg:GN} {E:Int→Gr.M Rp.RS Nd} (aE:AgR l Eg (E 1)) (tE:Tame (Yr l) T (E 1)):AgR l (vars2 l Eg) (Rp.vars l E):=by
 intro d hd;have hT:= @types2_tame l;have hT2:= @types2_agr l hg;rw[vars2_eq];unfold vars2
 repeat' first | exact h4 _ | exact AgR.at (h5 _) (by omega)| exact next_agr hg | exact isr_agr _ | exact isN_agr _ | exact kindr_agr hg _ | exact wantr_agr hg _ | exact kq_agr _ | exact kqN_agr _ | exact tok_agr | exact hereR_agr | exact semisr_agr hg _ | exact assM_agr hg | exact ih _ | assumption | exact AgR.at (by assumption) (by omega)| exact AgR.at (hK _) (by omega)| exact tK _ | exact tih _ | refine nestr_agr (by omega) (fun _=> ?_) ?_ | exact Agr.pure True.intro | refine failr_agr ?_ | refine fltr_agr ?_ | refine Agr.ite ?_ ?_ | refine Agr.bind (Q:=T) ?_ (fun _ _=> ?_) (fun _ _=> ?_)| exact next_tame | exact isr_tame _ | exact isN_tame _ | exact kindr_tame _ | exact wantr_tame _ | exact kq_tame _ | exact kqN_tame _ | exact tok_tame | exact hereR_tame | exact semisr_tame _ | exact assM_tame hg | exact Tame.mp True.intro | refine Tame.mi ?_ ?_ | refine nestr_tame ?_ | refine failr_tame ?_ | refine fltr_tame ?_ | refine Tame.bind (Q:=T) ?_ (fun _ _=> ?_)
theorem consts2_eq (E:Int→Gr.M Rp.RS Nd):Rp.consts l E=mb (wantR l ⟨#[99,111,110,115,116]⟩) fun _=>mb (kindR l 1) fun t=>mb (wantR l ⟨#[61]⟩) fun _=>mb (E 1) fun e=>mp (Nd.mk 5 t [e]):=by
 funext p
 simp only[r_kind,r_want,r_next,r_is,r_isN,r_kq,r_kqN,r_tok,r_here,r_semis,r_nest,mb_app];rfl
theorem consts2_tame {E:Int→Gr.M Rp.RS Nd} (tE:Tame (Yr l) T (E 1)):Tame (Yr l) T (Rp.consts l E):=by
 rw[consts2_eq]
 repeat' first | exact h4 _ | exact next_tame | exact isr_tame _ | exact kindr_tame _ | exact wantr_tame _ | exact kq_tame _ | exact tok_tame | exact hereR_tame | exact semisr_tame _ | exact assM_tame hg | assumption | exact tK _ | exact tih _ | exact Tame.mp True.intro | refine Tame.miF (by decide) ?_ |(refine Tame.bind (isN_tame' _) ?_;rintro _ rfl)|(refine Tame.bind (kqN_tame' _) ?_;rintro _ rfl)| refine Tame.mi ?_ ?_ | refine nestr_tame ?_ | refine failr_tame ?_ | refine fltr_tame ?_ | refine Tame.bind (Q:=T) ?_ (fun _ _=> ?_)
theorem consts2_agr (hg:Good l) {Eg:GN} {E:Int→Gr.M Rp.RS Nd} (aE:AgR l Eg (E 1)) (tE:Tame (Yr l) T (E 1)):AgR l (consts2 l Eg) (Rp.consts l E):=by
 intro d hd;rw[consts2_eq];unfold consts2
 repeat' first | exact h4 _ | exact AgR.at (h5 _) (by omega)| exact next_agr hg | exact isr_agr _ | exact isN_agr _ | exact kindr_agr hg _ | exact wantr_agr hg _ | exact kq_agr _ | exact kqN_agr _ | exact tok_agr | exact hereR_agr | exact semisr_agr hg _ | exact assM_agr hg | exact ih _ | assumption | exact AgR.at (by assumption) (by omega)| exact AgR.at (hK _) (by omega)| exact tK _ | exact tih _ | refine nestr_agr (by omega) (fun _=> ?_) ?_ | exact Agr.pure True.intro | refine failr_agr ?_ | refine fltr_agr ?_ | refine Agr.ite ?_ ?_ | refine Agr.bind (Q:=T) ?_ (fun _ _=> ?_) (fun _ _=> ?_)| exact next_tame | exact isr_tame _ | exact isN_tame _ | exact kindr_tame _ | exact wantr_tame _ | exact kq_tame _ | exact kqN_tame _ | exact tok_tame | exact hereR_tame | exact semisr_tame _ | exact assM_tame hg | exact Tame.mp True.intro | refine Tame.mi ?_ ?_ | refine nestr_tame ?_ | refine failr_tame ?_ | refine fltr_tame ?_ | refine Tame.bind (Q:=T) ?_ (fun _ _=> ?_)
theorem field2_eq:Rp.fieldR l=mb (kindR l 1) fun t=>mb (Rp.types l) fun y=>mp (Nd.mk 7 t [y]):=by
 funext p
 simp only[r_kind,r_want,r_next,r_is,r_isN,r_kq,r_kqN,r_tok,r_here,r_semis,r_nest,mb_app];rfl
theorem field2_tame:Tame (Yr l) T (Rp.fieldR l):=by
 have hT:= @types2_tame l;rw[field2_eq]
 repeat' first | exact h4 _ | exact next_tame | exact isr_tame _ | exact kindr_tame _ | exact wantr_tame _ | exact kq_tame _ | exact tok_tame | exact hereR_tame | exact semisr_tame _ | exact assM_tame hg | assumption | exact tK _ | exact tih _ | exact Tame.mp True.intro | refine Tame.miF (by decide) ?_ |(refine Tame.bind (isN_tame' _) ?_;rintro _ rfl)|(refine Tame.bind (kqN_tame' _) ?_;rintro _ rfl)| refine Tame.mi ?_ ?_ | refine nestr_tame ?_ | refine failr_tame ?_ | refine fltr_tame ?_ | refine Tame.bind (Q:=T) ?_ (fun _ _=> ?_)
theorem field2_agr (hg:Good l):AgR l (field2 l) (Rp.fieldR l):=by
 intro d hd;have hT:= @types2_tame l;have hT2:= @types2_agr l hg;rw[field2_eq];unfold field2
 repeat' first | exact h4 _ | exact AgR.at (h5 _) (by omega)| exact next_agr hg | exact isr_agr _ | exact isN_agr _ | exact kindr_agr hg _ | exact wantr_agr hg _ | exact kq_agr _ | exact kqN_agr _ | exact tok_agr | exact hereR_agr | exact semisr_agr hg _ | exact assM_agr hg | exact ih _ | assumption | exact AgR.at (by assumption) (by omega)| exact AgR.at (hK _) (by omega)| exact tK _ | exact tih _ | refine nestr_agr (by omega) (fun _=> ?_) ?_ | exact Agr.pure True.intro | refine failr_agr ?_ | refine fltr_agr ?_ | refine Agr.ite ?_ ?_ | refine Agr.bind (Q:=T) ?_ (fun _ _=> ?_) (fun _ _=> ?_)| exact next_tame | exact isr_tame _ | exact isN_tame _ | exact kindr_tame _ | exact wantr_tame _ | exact kq_tame _ | exact kqN_tame _ | exact tok_tame | exact hereR_tame | exact semisr_tame _ | exact assM_tame hg | exact Tame.mp True.intro | refine Tame.mi ?_ ?_ | refine nestr_tame ?_ | refine failr_tame ?_ | refine fltr_tame ?_ | refine Tame.bind (Q:=T) ?_ (fun _ _=> ?_)
theorem fors2_eq (E:Int→Gr.M Rp.RS Nd) (B:Gr.M Rp.RS Nd):Rp.fors l E B=mb (wantR l ⟨#[102,111,114]⟩) fun t=>mb (E 1) fun e=>mb B fun b=>mp (Nd.mk 15 t [e,b]):=by
 funext p
 simp only[r_kind,r_want,r_next,r_is,r_isN,r_kq,r_kqN,r_tok,r_here,r_semis,r_nest,mb_app];rfl
theorem fors2_tame {E:Int→Gr.M Rp.RS Nd} {B:Gr.M Rp.RS Nd} (tE:Tame (Yr l) T (E 1)) (tB:Tame (Yr l) T B):Tame (Yr l) T (Rp.fors l E B):=by
 rw[fors2_eq]
 repeat' first | exact h4 _ | exact next_tame | exact isr_tame _ | exact kindr_tame _ | exact wantr_tame _ | exact kq_tame _ | exact tok_tame | exact hereR_tame | exact semisr_tame _ | exact assM_tame hg | assumption | exact tK _ | exact tih _ | exact Tame.mp True.intro | refine Tame.miF (by decide) ?_ |(refine Tame.bind (isN_tame' _) ?_;rintro _ rfl)|(refine Tame.bind (kqN_tame' _) ?_;rintro _ rfl)| refine Tame.mi ?_ ?_ | refine nestr_tame ?_ | refine failr_tame ?_ | refine fltr_tame ?_ | refine Tame.bind (Q:=T) ?_ (fun _ _=> ?_)
theorem fors2_agr (hg:Good l) {Eg:GN} {Bg:GN} {E:Int→Gr.M Rp.RS Nd} {B:Gr.M Rp.RS Nd} (aE:AgR l Eg (E 1)) (aB:AgR l Bg B) (tE:Tame (Yr l) T (E 1)) (tB:Tame (Yr l) T B):AgR l (fors2 l Eg Bg) (Rp.fors l E B):=by
 intro d hd;rw[fors2_eq];unfold fors2
 repeat' first | exact h4 _ | exact AgR.at (h5 _) (by omega)| exact next_agr hg | exact isr_agr _ | exact isN_agr _ | exact kindr_agr hg _ | exact wantr_agr hg _ | exact kq_agr _ | exact kqN_agr _ | exact tok_agr | exact hereR_agr | exact semisr_agr hg _ | exact assM_agr hg | exact ih _ | assumption | exact AgR.at (by assumption) (by omega)| exact AgR.at (hK _) (by omega)| exact tK _ | exact tih _ | refine nestr_agr (by omega) (fun _=> ?_) ?_ | exact Agr.pure True.intro | refine failr_agr ?_ | refine fltr_agr ?_ | refine Agr.ite ?_ ?_ | refine Agr.bind (Q:=T) ?_ (fun _ _=> ?_) (fun _ _=> ?_)| exact next_tame | exact isr_tame _ | exact isN_tame _ | exact kindr_tame _ | exact wantr_tame _ | exact kq_tame _ | exact kqN_tame _ | exact tok_tame | exact hereR_tame | exact semisr_tame _ | exact assM_tame hg | exact Tame.mp True.intro | refine Tame.mi ?_ ?_ | refine nestr_tame ?_ | refine failr_tame ?_ | refine fltr_tame ?_ | refine Tame.bind (Q:=T) ?_ (fun _ _=> ?_)
theorem ifs2_eq (E:Int→Gr.M Rp.RS Nd) (B:Gr.M Rp.RS Nd) (R:Gr.M Rp.RS Nd):Rp.ifs l E B R=mb (wantR l ⟨#[105,102]⟩) fun t=>mb (E 1) fun e=>mb B fun b=>mb (isNR l ⟨#[101,108,115,101]⟩) fun c=>mi c (mb (nextR l) fun _=>mb (isR l ⟨#[105,102]⟩) fun i=>mi i (mb (nestR R) fun r=>mp (Nd.mk 14 t [e,b,r])) (mb B fun r=>mp (Nd.mk 14 t [e,b,r]))) (mp (Nd.mk 14 t [e,b])):=by
 funext p
 simp only[r_kind,r_want,r_next,r_is,r_isN,r_kq,r_kqN,r_tok,r_here,r_semis,r_nest,mb_app];exact ifs_shape l E B R p
theorem ifs2_tame {E:Int→Gr.M Rp.RS Nd} {B:Gr.M Rp.RS Nd} {R:Gr.M Rp.RS Nd} (tE:Tame (Yr l) T (E 1)) (tB:Tame (Yr l) T B):Tame (Yr l) T (Rp.ifs l E B R):=by
 rw[ifs2_eq]
 repeat' first | exact h4 _ | exact next_tame | exact isr_tame _ | exact kindr_tame _ | exact wantr_tame _ | exact kq_tame _ | exact tok_tame | exact hereR_tame | exact semisr_tame _ | exact assM_tame hg | assumption | exact tK _ | exact tih _ | exact Tame.mp True.intro | refine Tame.miF (by decide) ?_ |(refine Tame.bind (isN_tame' _) ?_;rintro _ rfl)|(refine Tame.bind (kqN_tame' _) ?_;rintro _ rfl)| refine Tame.mi ?_ ?_ | refine nestr_tame ?_ | refine failr_tame ?_ | refine fltr_tame ?_ | refine Tame.bind (Q:=T) ?_ (fun _ _=> ?_)
theorem ifs2_agr (hg:Good l) {Eg:GN} {Bg:GN} {Rg:GN} {E:Int→Gr.M Rp.RS Nd} {B:Gr.M Rp.RS Nd} {R:Gr.M Rp.RS Nd} (aE:AgR l Eg (E 1)) (aB:AgR l Bg B) (aR:AgR l Rg R) (tE:Tame (Yr l) T (E 1)) (tB:Tame (Yr l) T B) (tR:Tame (Yr l) T R):AgR l (ifs2 l Eg Bg Rg) (Rp.ifs l E B R):=by
 intro d hd;rw[ifs2_eq];unfold ifs2
 repeat' first | exact h4 _ | exact AgR.at (h5 _) (by omega)| exact next_agr hg | exact isr_agr _ | exact isN_agr _ | exact kindr_agr hg _ | exact wantr_agr hg _ | exact kq_agr _ | exact kqN_agr _ | exact tok_agr | exact hereR_agr | exact semisr_agr hg _ | exact assM_agr hg | exact ih _ | assumption | exact AgR.at (by assumption) (by omega)| exact AgR.at (hK _) (by omega)| exact tK _ | exact tih _ | refine nestr_agr (by omega) (fun _=> ?_) ?_ | exact Agr.pure True.intro | refine failr_agr ?_ | refine fltr_agr ?_ | refine Agr.ite ?_ ?_ | refine Agr.bind (Q:=T) ?_ (fun _ _=> ?_) (fun _ _=> ?_)| exact next_tame | exact isr_tame _ | exact isN_tame _ | exact kindr_tame _ | exact wantr_tame _ | exact kq_tame _ | exact kqN_tame _ | exact tok_tame | exact hereR_tame | exact semisr_tame _ | exact assM_tame hg | exact Tame.mp True.intro | refine Tame.mi ?_ ?_ | refine nestr_tame ?_ | refine failr_tame ?_ | refine fltr_tame ?_ | refine Tame.bind (Q:=T) ?_ (fun _ _=> ?_)
theorem back2_eq (E:Int→Gr.M Rp.RS Nd):Rp.backR l E=mb (nextR l) fun t=>mb (kqR l 6) fun b=>mi b (mp (Nd.mk 16 t [])) (mb (isR l ⟨#[125]⟩) fun c=>mi c (mp (Nd.mk 16 t [])) (mb (E 1) fun e=>mp (Nd.mk 16 t [e]))):=by
 funext p
 simp only[r_kind,r_want,r_next,r_is,r_isN,r_kq,r_kqN,r_tok,r_here,r_semis,r_nest,mb_app];rfl
theorem back2_tame {E:Int→Gr.M Rp.RS Nd} (tE:Tame (Yr l) T (E 1)):Tame (Yr l) T (Rp.backR l E):=by
 rw[back2_eq]
 repeat' first | exact h4 _ | exact next_tame | exact isr_tame _ | exact kindr_tame _ | exact wantr_tame _ | exact kq_tame _ | exact tok_tame | exact hereR_tame | exact semisr_tame _ | exact assM_tame hg | assumption | exact tK _ | exact tih _ | exact Tame.mp True.intro | refine Tame.miF (by decide) ?_ |(refine Tame.bind (isN_tame' _) ?_;rintro _ rfl)|(refine Tame.bind (kqN_tame' _) ?_;rintro _ rfl)| refine Tame.mi ?_ ?_ | refine nestr_tame ?_ | refine failr_tame ?_ | refine fltr_tame ?_ | refine Tame.bind (Q:=T) ?_ (fun _ _=> ?_)
theorem back2_agr (hg:Good l) {Eg:GN} {E:Int→Gr.M Rp.RS Nd} (aE:AgR l Eg (E 1)) (tE:Tame (Yr l) T (E 1)):AgR l (back2 l Eg) (Rp.backR l E):=by
 intro d hd;rw[back2_eq];unfold back2
 repeat' first | exact h4 _ | exact AgR.at (h5 _) (by omega)| exact next_agr hg | exact isr_agr _ | exact isN_agr _ | exact kindr_agr hg _ | exact wantr_agr hg _ | exact kq_agr _ | exact kqN_agr _ | exact tok_agr | exact hereR_agr | exact semisr_agr hg _ | exact assM_agr hg | exact ih _ | assumption | exact AgR.at (by assumption) (by omega)| exact AgR.at (hK _) (by omega)| exact tK _ | exact tih _ | refine nestr_agr (by omega) (fun _=> ?_) ?_ | exact Agr.pure True.intro | refine failr_agr ?_ | refine fltr_agr ?_ | refine Agr.ite ?_ ?_ | refine Agr.bind (Q:=T) ?_ (fun _ _=> ?_) (fun _ _=> ?_)| exact next_tame | exact isr_tame _ | exact isN_tame _ | exact kindr_tame _ | exact wantr_tame _ | exact kq_tame _ | exact kqN_tame _ | exact tok_tame | exact hereR_tame | exact semisr_tame _ | exact assM_tame hg | exact Tame.mp True.intro | refine Tame.mi ?_ ?_ | refine nestr_tame ?_ | refine failr_tame ?_ | refine fltr_tame ?_ | refine Tame.bind (Q:=T) ?_ (fun _ _=> ?_)
theorem ass2_eq (E:Int→Gr.M Rp.RS Nd) (L:Gr.M Rp.RS Nd):Rp.assR l E L=mb (nextR l) fun t=>mb (isR l ⟨#[58,61]⟩) fun b=>mi b (mb (nextR l) fun _=>mb (E 1) fun e=>mp (Nd.mk 11 t [e])) (mb (nextR l) fun _=>mb L fun e=>mp (Nd.mk 19 t [e])):=by
 funext p
 simp only[r_kind,r_want,r_next,r_is,r_isN,r_kq,r_kqN,r_tok,r_here,r_semis,r_nest,mb_app];rfl
theorem ass2_tame {E:Int→Gr.M Rp.RS Nd} {L:Gr.M Rp.RS Nd} (tE:Tame (Yr l) T (E 1)) (tL:Tame (Yr l) T L):Tame (Yr l) T (Rp.assR l E L):=by
 rw[ass2_eq]
 repeat' first | exact h4 _ | exact next_tame | exact isr_tame _ | exact kindr_tame _ | exact wantr_tame _ | exact kq_tame _ | exact tok_tame | exact hereR_tame | exact semisr_tame _ | exact assM_tame hg | assumption | exact tK _ | exact tih _ | exact Tame.mp True.intro | refine Tame.miF (by decide) ?_ |(refine Tame.bind (isN_tame' _) ?_;rintro _ rfl)|(refine Tame.bind (kqN_tame' _) ?_;rintro _ rfl)| refine Tame.mi ?_ ?_ | refine nestr_tame ?_ | refine failr_tame ?_ | refine fltr_tame ?_ | refine Tame.bind (Q:=T) ?_ (fun _ _=> ?_)
theorem ass2_agr (hg:Good l) {Eg:GN} {Lg:GN} {E:Int→Gr.M Rp.RS Nd} {L:Gr.M Rp.RS Nd} (aE:AgR l Eg (E 1)) (aL:AgR l Lg L) (tE:Tame (Yr l) T (E 1)) (tL:Tame (Yr l) T L):AgR l (ass2 l Eg Lg) (Rp.assR l E L):=by
 intro d hd;rw[ass2_eq];unfold ass2
 repeat' first | exact h4 _ | exact AgR.at (h5 _) (by omega)| exact next_agr hg | exact isr_agr _ | exact isN_agr _ | exact kindr_agr hg _ | exact wantr_agr hg _ | exact kq_agr _ | exact kqN_agr _ | exact tok_agr | exact hereR_agr | exact semisr_agr hg _ | exact assM_agr hg | exact ih _ | assumption | exact AgR.at (by assumption) (by omega)| exact AgR.at (hK _) (by omega)| exact tK _ | exact tih _ | refine nestr_agr (by omega) (fun _=> ?_) ?_ | exact Agr.pure True.intro | refine failr_agr ?_ | refine fltr_agr ?_ | refine Agr.ite ?_ ?_ | refine Agr.bind (Q:=T) ?_ (fun _ _=> ?_) (fun _ _=> ?_)| exact next_tame | exact isr_tame _ | exact isN_tame _ | exact kindr_tame _ | exact wantr_tame _ | exact kq_tame _ | exact kqN_tame _ | exact tok_tame | exact hereR_tame | exact semisr_tame _ | exact assM_tame hg | exact Tame.mp True.intro | refine Tame.mi ?_ ?_ | refine nestr_tame ?_ | refine failr_tame ?_ | refine fltr_tame ?_ | refine Tame.bind (Q:=T) ?_ (fun _ _=> ?_)
theorem rest2_eq (E:Int→Gr.M Rp.RS Nd):Rp.restR l E=mb hereR fun f=>mb (E 1) fun x=>mb (isNR l ⟨#[61]⟩) fun b=>mi b (mb (nextR l) fun t=>mb (E 1) fun y=>mp (Nd.mk 13 t [x,y])) (mp (Nd.mk 12 f [x])):=by
 funext p
 simp only[r_kind,r_want,r_next,r_is,r_isN,r_kq,r_kqN,r_tok,r_here,r_semis,r_nest,mb_app];rfl
theorem rest2_tame {E:Int→Gr.M Rp.RS Nd} (tE:Tame (Yr l) T (E 1)):Tame (Yr l) T (Rp.restR l E):=by
 rw[rest2_eq]
 repeat' first | exact h4 _ | exact next_tame | exact isr_tame _ | exact kindr_tame _ | exact wantr_tame _ | exact kq_tame _ | exact tok_tame | exact hereR_tame | exact semisr_tame _ | exact assM_tame hg | assumption | exact tK _ | exact tih _ | exact Tame.mp True.intro | refine Tame.miF (by decide) ?_ |(refine Tame.bind (isN_tame' _) ?_;rintro _ rfl)|(refine Tame.bind (kqN_tame' _) ?_;rintro _ rfl)| refine Tame.mi ?_ ?_ | refine nestr_tame ?_ | refine failr_tame ?_ | refine fltr_tame ?_ | refine Tame.bind (Q:=T) ?_ (fun _ _=> ?_)
theorem rest2_agr (hg:Good l) {Eg:GN} {E:Int→Gr.M Rp.RS Nd} (aE:AgR l Eg (E 1)) (tE:Tame (Yr l) T (E 1)):AgR l (rest2 l Eg) (Rp.restR l E):=by
 intro d hd;rw[rest2_eq];unfold rest2
 repeat' first | exact h4 _ | exact AgR.at (h5 _) (by omega)| exact next_agr hg | exact isr_agr _ | exact isN_agr _ | exact kindr_agr hg _ | exact wantr_agr hg _ | exact kq_agr _ | exact kqN_agr _ | exact tok_agr | exact hereR_agr | exact semisr_agr hg _ | exact assM_agr hg | exact ih _ | assumption | exact AgR.at (by assumption) (by omega)| exact AgR.at (hK _) (by omega)| exact tK _ | exact tih _ | refine nestr_agr (by omega) (fun _=> ?_) ?_ | exact Agr.pure True.intro | refine failr_agr ?_ | refine fltr_agr ?_ | refine Agr.ite ?_ ?_ | refine Agr.bind (Q:=T) ?_ (fun _ _=> ?_) (fun _ _=> ?_)| exact next_tame | exact isr_tame _ | exact isN_tame _ | exact kindr_tame _ | exact wantr_tame _ | exact kq_tame _ | exact kqN_tame _ | exact tok_tame | exact hereR_tame | exact semisr_tame _ | exact assM_tame hg | exact Tame.mp True.intro | refine Tame.mi ?_ ?_ | refine nestr_tame ?_ | refine failr_tame ?_ | refine fltr_tame ?_ | refine Tame.bind (Q:=T) ?_ (fun _ _=> ?_)
theorem simple2_eq (E:Int→Gr.M Rp.RS Nd) (L:Gr.M Rp.RS Nd):Rp.simpleR l E L=mb (assMR l) fun c=>mi c (Rp.assR l E L) (Rp.restR l E):=by
 funext p
 exact simple_shape l E L p
theorem simple2_tame (hg:Good l) {E:Int→Gr.M Rp.RS Nd} {L:Gr.M Rp.RS Nd} (tE:Tame (Yr l) T (E 1)) (tL:Tame (Yr l) T L):Tame (Yr l) T (Rp.simpleR l E L):=by
 have h3:=ass2_tame tE tL;have h4:=rest2_tame tE;rw[simple2_eq]
 repeat' first | exact h4 _ | exact next_tame | exact isr_tame _ | exact kindr_tame _ | exact wantr_tame _ | exact kq_tame _ | exact tok_tame | exact hereR_tame | exact semisr_tame _ | exact assM_tame hg | assumption | exact tK _ | exact tih _ | exact Tame.mp True.intro | refine Tame.miF (by decide) ?_ |(refine Tame.bind (isN_tame' _) ?_;rintro _ rfl)|(refine Tame.bind (kqN_tame' _) ?_;rintro _ rfl)| refine Tame.mi ?_ ?_ | refine nestr_tame ?_ | refine failr_tame ?_ | refine fltr_tame ?_ | refine Tame.bind (Q:=T) ?_ (fun _ _=> ?_)
theorem simple2_agr (hg:Good l) {Eg:GN} {Lg:GN} {E:Int→Gr.M Rp.RS Nd} {L:Gr.M Rp.RS Nd} (aE:AgR l Eg (E 1)) (aL:AgR l Lg L) (tE:Tame (Yr l) T (E 1)) (tL:Tame (Yr l) T L):AgR l (simple2 l Eg Lg) (Rp.simpleR l E L):=by
 intro d hd;have h3:=ass2_tame tE tL;have h4:=rest2_tame tE;have h1:= @ass2_agr l hg _ _ _ _ aE aL tE tL;have h2:= @rest2_agr l hg _ _ aE tE;rw[simple2_eq];unfold simple2
 repeat' first | exact h4 _ | exact AgR.at (h5 _) (by omega)| exact next_agr hg | exact isr_agr _ | exact isN_agr _ | exact kindr_agr hg _ | exact wantr_agr hg _ | exact kq_agr _ | exact kqN_agr _ | exact tok_agr | exact hereR_agr | exact semisr_agr hg _ | exact assM_agr hg | exact ih _ | assumption | exact AgR.at (by assumption) (by omega)| exact AgR.at (hK _) (by omega)| exact tK _ | exact tih _ | refine nestr_agr (by omega) (fun _=> ?_) ?_ | exact Agr.pure True.intro | refine failr_agr ?_ | refine fltr_agr ?_ | refine Agr.ite ?_ ?_ | refine Agr.bind (Q:=T) ?_ (fun _ _=> ?_) (fun _ _=> ?_)| exact next_tame | exact isr_tame _ | exact isN_tame _ | exact kindr_tame _ | exact wantr_tame _ | exact kq_tame _ | exact kqN_tame _ | exact tok_tame | exact hereR_tame | exact semisr_tame _ | exact assM_tame hg | exact Tame.mp True.intro | refine Tame.mi ?_ ?_ | refine nestr_tame ?_ | refine failr_tame ?_ | refine fltr_tame ?_ | refine Tame.bind (Q:=T) ?_ (fun _ _=> ?_)
theorem stmt2_eq (V:Gr.M Rp.RS Nd) (C:Gr.M Rp.RS Nd) (B:Gr.M Rp.RS Nd) (I:Gr.M Rp.RS Nd) (L:Gr.M Rp.RS Nd) (M:Gr.M Rp.RS Nd) (E:Int→Gr.M Rp.RS Nd):Rp.stmtR l V C B I L M E=mb (isR l ⟨#[118,97,114]⟩) fun b=>mi b V (mb (isR l ⟨#[99,111,110,115,116]⟩) fun b=>mi b C (mb (isR l ⟨#[123]⟩) fun b=>mi b B (mb (isR l ⟨#[105,102]⟩) fun b=>mi b I (mb (isR l ⟨#[102,111,114]⟩) fun b=>mi b L (mb (isR l ⟨#[114,101,116,117,114,110]⟩) fun b=>mi b (Rp.backR l E) (mb (isR l ⟨#[98,114,101,97,107]⟩) fun b6=>mb (isR l ⟨#[99,111,110,116,105,110,117,101]⟩) fun b7=>mi b6 (Rp.leaveR l b7) (mi b7 (Rp.leaveR l true) M))))))):=by
 funext p
 simp only[r_kind,r_want,r_next,r_is,r_isN,r_kq,r_kqN,r_tok,r_here,r_semis,r_nest,mb_app];rfl
theorem stmt2_tame {V:Gr.M Rp.RS Nd} {C:Gr.M Rp.RS Nd} {B:Gr.M Rp.RS Nd} {I:Gr.M Rp.RS Nd} {L:Gr.M Rp.RS Nd} {M:Gr.M Rp.RS Nd} {E:Int→Gr.M Rp.RS Nd} (tV:Tame (Yr l) T V) (tC:Tame (Yr l) T C) (tB:Tame (Yr l) T B) (tI:Tame (Yr l) T I) (tL:Tame (Yr l) T L) (tM:Tame (Yr l) T M) (tE:Tame (Yr l) T (E 1)):Tame (Yr l) T (Rp.stmtR l V C B I L M E):=by
 have h3:=back2_tame tE;have h4:= @leave2_tame l;rw[stmt2_eq]
 repeat' first | exact h4 _ | exact next_tame | exact isr_tame _ | exact kindr_tame _ | exact wantr_tame _ | exact kq_tame _ | exact tok_tame | exact hereR_tame | exact semisr_tame _ | exact assM_tame hg | assumption | exact tK _ | exact tih _ | exact Tame.mp True.intro | refine Tame.miF (by decide) ?_ |(refine Tame.bind (isN_tame' _) ?_;rintro _ rfl)|(refine Tame.bind (kqN_tame' _) ?_;rintro _ rfl)| refine Tame.mi ?_ ?_ | refine nestr_tame ?_ | refine failr_tame ?_ | refine fltr_tame ?_ | refine Tame.bind (Q:=T) ?_ (fun _ _=> ?_)
theorem stmt2_agr (hg:Good l) {Vg:GN} {Cg:GN} {Bg:GN} {Ig:GN} {Lg:GN} {Mg:GN} {Eg:GN} {V:Gr.M Rp.RS Nd} {C:Gr.M Rp.RS Nd} {B:Gr.M Rp.RS Nd} {I:Gr.M Rp.RS Nd} {L:Gr.M Rp.RS Nd} {M:Gr.M Rp.RS Nd} {E:Int→Gr.M Rp.RS Nd} (aV:AgR l Vg V) (aC:AgR l Cg C) (aB:AgR l Bg B) (aI:AgR l Ig I) (aL:AgR l Lg L) (aM:AgR l Mg M) (aE:AgR l Eg (E 1)) (tV:Tame (Yr l) T V) (tC:Tame (Yr l) T C) (tB:Tame (Yr l) T B) (tI:Tame (Yr l) T I) (tL:Tame (Yr l) T L) (tM:Tame (Yr l) T M) (tE:Tame (Yr l) T (E 1)):AgR l (stmt2 l Vg Cg Bg Ig Lg Mg Eg) (Rp.stmtR l V C B I L M E):=by
 intro d hd;have h3:=back2_tame tE;have h4:= @leave2_tame l;have h1:= @back2_agr l hg _ _ aE tE;have h5:= @leave2_agr l hg;rw[stmt2_eq];unfold stmt2
 repeat' first | exact h4 _ | exact AgR.at (h5 _) (by omega)| exact next_agr hg | exact isr_agr _ | exact isN_agr _ | exact kindr_agr hg _ | exact wantr_agr hg _ | exact kq_agr _ | exact kqN_agr _ | exact tok_agr | exact hereR_agr | exact semisr_agr hg _ | exact assM_agr hg | exact ih _ | assumption | exact AgR.at (by assumption) (by omega)| exact AgR.at (hK _) (by omega)| exact tK _ | exact tih _ | refine nestr_agr (by omega) (fun _=> ?_) ?_ | exact Agr.pure True.intro | refine failr_agr ?_ | refine fltr_agr ?_ | refine Agr.ite ?_ ?_ | refine Agr.bind (Q:=T) ?_ (fun _ _=> ?_) (fun _ _=> ?_)| exact next_tame | exact isr_tame _ | exact isN_tame _ | exact kindr_tame _ | exact wantr_tame _ | exact kq_tame _ | exact kqN_tame _ | exact tok_tame | exact hereR_tame | exact semisr_tame _ | exact assM_tame hg | exact Tame.mp True.intro | refine Tame.mi ?_ ?_ | refine nestr_tame ?_ | refine failr_tame ?_ | refine fltr_tame ?_ | refine Tame.bind (Q:=T) ?_ (fun _ _=> ?_)
theorem decl2_eq (V:Gr.M Rp.RS Nd) (C:Gr.M Rp.RS Nd) (S:Gr.M Rp.RS Nd) (F:Gr.M Rp.RS Nd):Rp.declR l V C S F=mb (isR l ⟨#[118,97,114]⟩) fun b=>mi b V (mb (isR l ⟨#[99,111,110,115,116]⟩) fun b=>mi b C (mb (isR l ⟨#[116,121,112,101]⟩) fun b=>mi b S (mb (isR l ⟨#[102,117,110,99]⟩) fun b=>mi b F (failR (mp (Nd.mk 0 0 [])))))):=by
 funext p
 simp only[r_kind,r_want,r_next,r_is,r_isN,r_kq,r_kqN,r_tok,r_here,r_semis,r_nest,mb_app];rfl
theorem decl2_tame {V:Gr.M Rp.RS Nd} {C:Gr.M Rp.RS Nd} {S:Gr.M Rp.RS Nd} {F:Gr.M Rp.RS Nd} (tV:Tame (Yr l) T V) (tC:Tame (Yr l) T C) (tS:Tame (Yr l) T S) (tF:Tame (Yr l) T F):Tame (Yr l) T (Rp.declR l V C S F):=by
 rw[decl2_eq]
 repeat' first | exact h4 _ | exact next_tame | exact isr_tame _ | exact kindr_tame _ | exact wantr_tame _ | exact kq_tame _ | exact tok_tame | exact hereR_tame | exact semisr_tame _ | exact assM_tame hg | assumption | exact tK _ | exact tih _ | exact Tame.mp True.intro | refine Tame.miF (by decide) ?_ |(refine Tame.bind (isN_tame' _) ?_;rintro _ rfl)|(refine Tame.bind (kqN_tame' _) ?_;rintro _ rfl)| refine Tame.mi ?_ ?_ | refine nestr_tame ?_ | refine failr_tame ?_ | refine fltr_tame ?_ | refine Tame.bind (Q:=T) ?_ (fun _ _=> ?_)
theorem decl2_agr (hg:Good l) {Vg:GN} {Cg:GN} {Sg:GN} {Fg:GN} {V:Gr.M Rp.RS Nd} {C:Gr.M Rp.RS Nd} {S:Gr.M Rp.RS Nd} {F:Gr.M Rp.RS Nd} (aV:AgR l Vg V) (aC:AgR l Cg C) (aS:AgR l Sg S) (aF:AgR l Fg F) (tV:Tame (Yr l) T V) (tC:Tame (Yr l) T C) (tS:Tame (Yr l) T S) (tF:Tame (Yr l) T F):AgR l (decl2 l Vg Cg Sg Fg) (Rp.declR l V C S F):=by
 intro d hd;rw[decl2_eq];unfold decl2
 repeat' first | exact h4 _ | exact AgR.at (h5 _) (by omega)| exact next_agr hg | exact isr_agr _ | exact isN_agr _ | exact kindr_agr hg _ | exact wantr_agr hg _ | exact kq_agr _ | exact kqN_agr _ | exact tok_agr | exact hereR_agr | exact semisr_agr hg _ | exact assM_agr hg | exact ih _ | assumption | exact AgR.at (by assumption) (by omega)| exact AgR.at (hK _) (by omega)| exact tK _ | exact tih _ | refine nestr_agr (by omega) (fun _=> ?_) ?_ | exact Agr.pure True.intro | refine failr_agr ?_ | refine fltr_agr ?_ | refine Agr.ite ?_ ?_ | refine Agr.bind (Q:=T) ?_ (fun _ _=> ?_) (fun _ _=> ?_)| exact next_tame | exact isr_tame _ | exact isN_tame _ | exact kindr_tame _ | exact wantr_tame _ | exact kq_tame _ | exact kqN_tame _ | exact tok_tame | exact hereR_tame | exact semisr_tame _ | exact assM_tame hg | exact Tame.mp True.intro | refine Tame.mi ?_ ?_ | refine nestr_tame ?_ | refine failr_tame ?_ | refine fltr_tame ?_ | refine Tame.bind (Q:=T) ?_ (fun _ _=> ?_)
theorem unary2_eq (U:Gr.M Rp.RS Nd) (P:Gr.M Rp.RS Nd):Rp.unary l U P=fltR (mb (isR l ⟨#[45]⟩) fun b=>mi b (nestR (mb (nextR l) fun o=>mb U fun x=>mp (Nd.mk 23 o [x]))) (mb (isR l ⟨#[33]⟩) fun c=>mi c (nestR (mb (nextR l) fun o=>mb U fun x=>mp (Nd.mk 23 o [x]))) P)) (P):=by
 funext p
 simp only[r_kind,r_want,r_next,r_is,r_isN,r_kq,r_kqN,r_tok,r_here,r_semis,r_nest,mb_app];exact unary_shape l U P p
theorem unary2_tame {U:Gr.M Rp.RS Nd} {P:Gr.M Rp.RS Nd} (tP:Tame (Yr l) T P):Tame (Yr l) T (Rp.unary l U P):=by
 rw[unary2_eq]
 repeat' first | exact h4 _ | exact next_tame | exact isr_tame _ | exact kindr_tame _ | exact wantr_tame _ | exact kq_tame _ | exact tok_tame | exact hereR_tame | exact semisr_tame _ | exact assM_tame hg | assumption | exact tK _ | exact tih _ | exact Tame.mp True.intro | refine Tame.miF (by decide) ?_ |(refine Tame.bind (isN_tame' _) ?_;rintro _ rfl)|(refine Tame.bind (kqN_tame' _) ?_;rintro _ rfl)| refine Tame.mi ?_ ?_ | refine nestr_tame ?_ | refine failr_tame ?_ | refine fltr_tame ?_ | refine Tame.bind (Q:=T) ?_ (fun _ _=> ?_)
theorem unary2_agr (hg:Good l) {Ug:GN} {Pg:GN} {U:Gr.M Rp.RS Nd} {P:Gr.M Rp.RS Nd} (aU:AgR l Ug U) (aP:AgR l Pg P) (tU:Tame (Yr l) T U) (tP:Tame (Yr l) T P):AgR l (unary2 l Ug Pg) (Rp.unary l U P):=by
 intro d hd;rw[unary2_eq];unfold unary2
 repeat' first | exact h4 _ | exact AgR.at (h5 _) (by omega)| exact next_agr hg | exact isr_agr _ | exact isN_agr _ | exact kindr_agr hg _ | exact wantr_agr hg _ | exact kq_agr _ | exact kqN_agr _ | exact tok_agr | exact hereR_agr | exact semisr_agr hg _ | exact assM_agr hg | exact ih _ | assumption | exact AgR.at (by assumption) (by omega)| exact AgR.at (hK _) (by omega)| exact tK _ | exact tih _ | refine nestr_agr (by omega) (fun _=> ?_) ?_ | exact Agr.pure True.intro | refine failr_agr ?_ | refine fltr_agr ?_ | refine Agr.ite ?_ ?_ | refine Agr.bind (Q:=T) ?_ (fun _ _=> ?_) (fun _ _=> ?_)| exact next_tame | exact isr_tame _ | exact isN_tame _ | exact kindr_tame _ | exact wantr_tame _ | exact kq_tame _ | exact kqN_tame _ | exact tok_tame | exact hereR_tame | exact semisr_tame _ | exact assM_tame hg | exact Tame.mp True.intro | refine Tame.mi ?_ ?_ | refine nestr_tame ?_ | refine failr_tame ?_ | refine fltr_tame ?_ | refine Tame.bind (Q:=T) ?_ (fun _ _=> ?_)
end Gr
end Go.Proofs.Dm
set_option maxHeartbeats 4000000
namespace Go.Proofs.Dm
open Go Go.Proofs Go.Proofs.Dm.Sc
namespace Gr
variable {l:List Tok}
theorem exprL_eq (X:M Rp.RS Nd) (k:Int) (n:Nat) (x:Nd):Rp.exprL l X k (n + 1) x=fltR (mb (tokR l) fun t=>mi (t.kind==4) (mi (Pp.rank t.text==k) (mb (nextR l) fun o=>mb X fun y=>Rp.exprL l X k n (.mk 24 o [x,y])) (mp x)) (mp x)) (mp x):=by
 funext p
 simp only[r_next,r_tok];rfl
theorem exprL_tame {X:M Rp.RS Nd} (k:Int) (n:Nat) (x:Nd):Tame (Yr l) T (Rp.exprL l X k (n + 1) x):=by
 rw[exprL_eq];exact fltr_tame (Tame.mp True.intro)
theorem exprL_agr (hg:Good l) {Xg:GN} {X:M Rp.RS Nd} (aX:AgR l Xg X) (tX:Tame (Yr l) T X) (k:Int):∀(n:Nat) (x:Nd),∀d,d≤40→Agr (Yr l) l.length d T (exprL2 l Xg k n x) (Rp.exprL l X k (n + 1) x)
 | 0,x=>fun d hd=>Agr.out
 | n + 1,x=>by
  intro d hd;have ih:=fun x=>exprL_agr hg aX tX k n x d hd
  have tih:=fun x=> @exprL_tame l X k n x
  rw[exprL_eq];unfold exprL2
  repeat' first | exact h4 _ | exact AgR.at (h5 _) (by omega)| exact next_agr hg | exact isr_agr _ | exact isN_agr _ | exact kindr_agr hg _ | exact wantr_agr hg _ | exact kq_agr _ | exact kqN_agr _ | exact tok_agr | exact hereR_agr | exact semisr_agr hg _ | exact assM_agr hg | exact ih _ | assumption | exact AgR.at (by assumption) (by omega)| exact AgR.at (hK _) (by omega)| exact tK _ | exact tih _ | refine nestr_agr (by omega) (fun _=> ?_) ?_ | exact Agr.pure True.intro | refine failr_agr ?_ | refine fltr_agr ?_ | refine Agr.ite ?_ ?_ | refine Agr.bind (Q:=T) ?_ (fun _ _=> ?_) (fun _ _=> ?_)| exact next_tame | exact isr_tame _ | exact isN_tame _ | exact kindr_tame _ | exact wantr_tame _ | exact kq_tame _ | exact kqN_tame _ | exact tok_tame | exact hereR_tame | exact semisr_tame _ | exact assM_tame hg | exact Tame.mp True.intro | refine Tame.mi ?_ ?_ | refine nestr_tame ?_ | refine failr_tame ?_ | refine fltr_tame ?_ | refine Tame.bind (Q:=T) ?_ (fun _ _=> ?_)
theorem exprT_tame {U:M Rp.RS Nd} (tU:Tame (Yr l) T U) (N:Nat):∀j,Tame (Yr l) T (Rp.exprT l U (N + 1) j)
 | 0=>tU
 | j + 1=>Tame.bind (exprT_tame tU N j) fun x _=>exprL_tame _ N x
theorem exprT_agr (hg:Good l) {Ug:GN} {U:M Rp.RS Nd} (aU:AgR l Ug U) (tU:Tame (Yr l) T U) (N:Nat):∀j,AgR l (exprT2 l Ug N j) (Rp.exprT l U (N + 1) j)
 | 0=>aU
 | j + 1=>fun d hd=>Agr.bind (exprT_agr hg aU tU N j d hd) (fun x _=>exprL_agr hg (exprT_agr hg aU tU N j) (exprT_tame tU N j) _ N x d hd) (fun x _=>exprL_tame _ N x)
theorem primLR_eq (K:Nd→M Rp.RS Nd) (n:Nat) (x:Nd):Rp.primL l K (n + 1) x=fltR (mb (isR l ⟨#[40]⟩) fun b=>mb (isR l ⟨#[46]⟩) fun c=>mi c (mb (nextR l) fun _=>mb (kindR l 1) fun t=>Rp.primL l K n (.mk 27 t [x])) (mi b (mb (K x) fun y=>Rp.primL l K n y) (mp x))) (mp x):=by
 funext p
 simp only[r_next,r_is,r_kind];rfl
theorem primLR_tame {K:Nd→M Rp.RS Nd} (n:Nat) (x:Nd):Tame (Yr l) T (Rp.primL l K (n + 1) x):=by
 rw[primLR_eq];exact fltr_tame (Tame.mp True.intro)
theorem primLR_agr (hg:Good l) {Kg:Nd→GN} {K:Nd→M Rp.RS Nd} (hK:∀x,AgR l (Kg x) (K x)) (tK:∀x,Tame (Yr l) T (K x)):∀(n:Nat) (x:Nd),∀d,d≤40→Agr (Yr l) l.length d T (primL2 l Kg n x) (Rp.primL l K (n + 1) x)
 | 0,x=>fun d hd=>Agr.out
 | n + 1,x=>by
  intro d hd;have ih:=fun x=>primLR_agr hg hK tK n x d hd
  have tih:=fun x=> @primLR_tame l K n x
  rw[primLR_eq];unfold primL2
  repeat' first | exact h4 _ | exact AgR.at (h5 _) (by omega)| exact next_agr hg | exact isr_agr _ | exact isN_agr _ | exact kindr_agr hg _ | exact wantr_agr hg _ | exact kq_agr _ | exact kqN_agr _ | exact tok_agr | exact hereR_agr | exact semisr_agr hg _ | exact assM_agr hg | exact ih _ | assumption | exact AgR.at (by assumption) (by omega)| exact AgR.at (hK _) (by omega)| exact tK _ | exact tih _ | refine nestr_agr (by omega) (fun _=> ?_) ?_ | exact Agr.pure True.intro | refine failr_agr ?_ | refine fltr_agr ?_ | refine Agr.ite ?_ ?_ | refine Agr.bind (Q:=T) ?_ (fun _ _=> ?_) (fun _ _=> ?_)| exact next_tame | exact isr_tame _ | exact isN_tame _ | exact kindr_tame _ | exact wantr_tame _ | exact kq_tame _ | exact kqN_tame _ | exact tok_tame | exact hereR_tame | exact semisr_tame _ | exact assM_tame hg | exact Tame.mp True.intro | refine Tame.mi ?_ ?_ | refine nestr_tame ?_ | refine failr_tame ?_ | refine fltr_tame ?_ | refine Tame.bind (Q:=T) ?_ (fun _ _=> ?_)
theorem primR_eq (E:Int→M Rp.RS Nd) (K:Nd→M Rp.RS Nd) (N:Nat):Rp.primR l E K N=fltR (mb (kqR l 1) fun b1=>mi b1 (mb (nextR l) fun o=>Rp.primL l K N (.mk 20 o [])) (mb (kqR l 2) fun b2=>mi b2 (mb (nextR l) fun o=>Rp.primL l K N (.mk 21 o [])) (mb (kqR l 3) fun b3=>mi b3 (mb (nextR l) fun o=>Rp.primL l K N (.mk 22 o []))
  (mb (isR l ⟨#[40]⟩) fun b=>mi b (mb (nestR (mb (nextR l) fun o=>mb (E 1) fun x=>mb (wantR l ⟨#[41]⟩) fun _=>mp (.mk 25 o [x]))) fun x=>Rp.primL l K N x) (failR (mp (.mk 0 0 []))))))) (mp (.mk 0 0 [])):=by
 funext p
 simp only[r_next,r_is,r_kind,r_kq,r_nest,r_want];simp only[Rp.primR,fltR]
 by_cases h:p.bad < 0
 ·have h1:decide (p.bad < 0)=true:=by simpa using h
  have h2:decide (0≤p.bad)=false:=by simpa using h
  simp only[h1,h2,if_true,Bool.false_eq_true,if_false,mi,mp,failR,mb,Option.bind_assoc,Option.bind_some]
 ·have h1:decide (p.bad < 0)=false:=by simpa using h
  have h2:decide (0≤p.bad)=true:=by simpa using h
  simp only[h1,h2,if_true,Bool.false_eq_true,if_false,mp]
theorem primR_tame {E:Int→M Rp.RS Nd} {K:Nd→M Rp.RS Nd} (N:Nat):Tame (Yr l) T (Rp.primR l E K N):=by
 rw[primR_eq];exact fltr_tame (Tame.mp True.intro)
theorem primR_agr (hg:Good l) {Eg:GN} {E:Int→M Rp.RS Nd} {Kg:Nd→GN} {K:Nd→M Rp.RS Nd} (aE:AgR l Eg (E 1)) (tE:Tame (Yr l) T (E 1)) (hK:∀x,AgR l (Kg x) (K x)) (tK:∀x,Tame (Yr l) T (K x)) (N:Nat):AgR l (prim2 l Eg Kg N) (Rp.primR l E K (N + 1)):=by
 intro d hd;have ih:=fun x=>primLR_agr hg hK tK N x d hd
 have tih:=fun x=> @primLR_tame l K N x
 rw[primR_eq];unfold prim2
 repeat' first | exact h4 _ | exact AgR.at (h5 _) (by omega)| exact next_agr hg | exact isr_agr _ | exact isN_agr _ | exact kindr_agr hg _ | exact wantr_agr hg _ | exact kq_agr _ | exact kqN_agr _ | exact tok_agr | exact hereR_agr | exact semisr_agr hg _ | exact assM_agr hg | exact ih _ | assumption | exact AgR.at (by assumption) (by omega)| exact AgR.at (hK _) (by omega)| exact tK _ | exact tih _ | refine nestr_agr (by omega) (fun _=> ?_) ?_ | exact Agr.pure True.intro | refine failr_agr ?_ | refine fltr_agr ?_ | refine Agr.ite ?_ ?_ | refine Agr.bind (Q:=T) ?_ (fun _ _=> ?_) (fun _ _=> ?_)| exact next_tame | exact isr_tame _ | exact isN_tame _ | exact kindr_tame _ | exact wantr_tame _ | exact kq_tame _ | exact kqN_tame _ | exact tok_tame | exact hereR_tame | exact semisr_tame _ | exact assM_tame hg | exact Tame.mp True.intro | refine Tame.mi ?_ ?_ | refine nestr_tame ?_ | refine failr_tame ?_ | refine fltr_tame ?_ | refine Tame.bind (Q:=T) ?_ (fun _ _=> ?_)
theorem callLR_eq (E:Int→M Rp.RS Nd) (n:Nat) (first:Bool) (ks:List Nd) (hk:ks.length < 4294967296):Rp.callL l E (n + 1) first ks=fltR (mb (isR l ⟨#[41]⟩) fun b=>mi b (mp ks) (mi first (mb (E 1) fun e=>Rp.callL l E n false (ks ++ [e])) (mb (wantR l ⟨#[44]⟩) fun _=>mb (E 1) fun e=>Rp.callL l E n false (ks ++ [e])))) (mp ks):=by
 funext p
 simp only[r_want,r_is];simp only[Rp.callL,app_ok hk,Option.bind_some];rfl
theorem callLR_tame {E:Int→M Rp.RS Nd} {B:Nat} (n:Nat) (first:Bool) (ks:List Nd) (hk:ks.length≤B):Tame (Yr l) (QL B) (Rp.callL l E (n + 1) first ks):=by
 intro p hp;obtain⟨h1,h2,h3,h4⟩:=flt_at hp;have:decide (p.bad < 0)=false:=by simp;omega
 exact⟨ks,p,by simp only[Rp.callL,this];rfl,rfl,hk⟩
theorem callLR_agr (hg:Good l) {Eg:GN} {E:Int→M Rp.RS Nd} (aS:AgR l Eg (E 1)) (tE:Tame (Yr l) T (E 1)) {B:Nat} (hB:B < 4294967296):∀(n:Nat) (first:Bool) (ks:List Nd),ks.length + n≤B→∀d,d≤40→Agr (Yr l) l.length d (QL B) (callL2 l Eg n first ks) (Rp.callL l E (n + 1) first ks)
 | 0,first,ks,hk=>fun d hd=>Agr.out
 | n + 1,first,ks,hk=>by
  intro d hd;have ih:=fun x:Nd=>callLR_agr hg aS tE hB n false (ks ++ [x]) (by simp;omega) d hd
  have tih:=fun x:Nd=> @callLR_tame l E B n false (ks ++ [x]) (by simp;omega)
  rw[callLR_eq E (n + 1) first ks (by omega)];unfold callL2
  repeat' first | exact next_agr hg | exact isr_agr _ | exact isN_agr _ | exact kindr_agr hg _ | exact wantr_agr hg _ | exact kq_agr _ | exact kqN_agr _ | exact semisr_agr hg _ | exact ih _ | exact AgR.at hT2 (by omega)| exact AgR.at aS (by omega)| exact tih _ | assumption | exact Agr.pure (show _≤_ by omega)| refine fltr_agr ?_ | refine Agr.ite ?_ ?_ | refine Agr.bind (Q:=T) ?_ (fun _ _=> ?_) (fun _ _=> ?_)| exact next_tame | exact isr_tame _ | exact isN_tame _ | exact kindr_tame _ | exact wantr_tame _ | exact kq_tame _ | exact semisr_tame _ | exact Tame.mp (show _≤_ by omega)| refine Tame.mi ?_ ?_ | refine fltr_tame ?_ | refine Tame.bind (Q:=T) ?_ (fun _ _=> ?_)
theorem callR_eq (E:Int→M Rp.RS Nd) (N:Nat) (x:Nd):Rp.callR l E N x=nestR (mb (nextR l) fun o=>mb (Rp.callL l E N true [x]) fun ks=>mb (wantR l ⟨#[41]⟩) fun _=>mp (.mk 26 o ks)):=by
 funext p
 simp only[r_next,r_want];simp only[Rp.callR,nestR,mb,mp,Option.bind_assoc,Option.bind_some]
theorem callR_tame {E:Int→M Rp.RS Nd} (N:Nat) (x:Nd):Tame (Yr l) T (Rp.callR l E (N + 1) x):=by
 rw[callR_eq];exact nestr_tame (Tame.bind (Q:=T) next_tame fun o _=>Tame.bind (callLR_tame (B:=N + 1) N true [x] (by simp)) fun ks _=>Tame.bind (Q:=T) (wantr_tame _) fun _ _=>Tame.mp True.intro)
theorem callR_agr (hg:Good l) {Eg:GN} {E:Int→M Rp.RS Nd} (aE:AgR l Eg (E 1)) (tE:Tame (Yr l) T (E 1)) (N:Nat) (hN:N < 4000000000) (x:Nd):AgR l (call2 l Eg N x) (Rp.callR l E (N + 1) x):=by
 intro d hd;have t1:Tame (Yr l) T (mb (Rp.callL l E (N + 1) true [x]) fun ks=>mb (wantR l ⟨#[41]⟩) fun _=>mp (Nd.mk 26 (0:Int) ks)):=Tame.bind (callLR_tame (B:=N + 1) N true [x] (by simp)) fun ks _=>Tame.bind (Q:=T) (wantr_tame _) fun _ _=>Tame.mp True.intro
 rw[callR_eq];unfold call2;refine nestr_agr (by omega) (fun hd'=> ?_) (Tame.bind (Q:=T) next_tame fun o _=>Tame.bind (callLR_tame (B:=N + 1) N true [x] (by simp)) fun ks _=>Tame.bind (Q:=T) (wantr_tame _) fun _ _=>Tame.mp True.intro);refine Agr.bind (Q:=T) (next_agr hg) (fun o _=> ?_) (fun o _=>Tame.bind (callLR_tame (B:=N + 1) N true [x] (by simp)) fun ks _=>Tame.bind (Q:=T) (wantr_tame _) fun _ _=>Tame.mp True.intro);refine Agr.bind (callLR_agr hg aE tE (B:=N + 1) (by omega) N true [x] (by simp;omega) (d + 1) hd') (fun ks _=> ?_) (fun ks _=>Tame.bind (Q:=T) (wantr_tame _) fun _ _=>Tame.mp True.intro);exact Agr.bind (Q:=T) (wantr_agr hg _) (fun _ _=>Agr.pure True.intro) (fun _ _=>Tame.mp True.intro)
theorem blockL_eq (S:M Rp.RS Nd) (N n:Nat) (ks:List Nd) (hk:ks.length < 4294967296):Rp.blockL l S N (n + 1) ks=fltR (mb (semisR l N) fun _=>mb (isR l ⟨#[125]⟩) fun b=>mi b (mp ks) (mb S fun x=>fltR (mb (isR l ⟨#[125]⟩) fun c=>mi c (Rp.blockL l S N n (ks ++ [x])) (mb (kindR l 6) fun _=>Rp.blockL l S N n (ks ++ [x]))) (Rp.blockL l S N n (ks ++ [x])))) (mp ks):=by
 funext p
 simp only[r_is,r_kind,r_semis];simp only[Rp.blockL,app_ok hk,Option.bind_some];rfl
theorem blockL_tame {S:M Rp.RS Nd} {B:Nat} (N n:Nat) (ks:List Nd) (hk:ks.length≤B):Tame (Yr l) (QL B) (Rp.blockL l S N (n + 1) ks):=by
 intro p hp;obtain⟨h1,h2,h3,h4⟩:=flt_at hp;have:decide (p.bad < 0)=false:=by simp;omega
 exact⟨ks,p,by simp only[Rp.blockL,this];rfl,rfl,hk⟩
theorem blockL_agr (hg:Good l) {Sg:GN} {S:M Rp.RS Nd} (aS:AgR l Sg S) (tS:Tame (Yr l) T S) {B:Nat} (hB:B < 4294967296) (N:Nat):∀(n:Nat) (ks:List Nd),ks.length + n≤B→∀d,d≤40→Agr (Yr l) l.length d (QL B) (blockL2 l Sg N n ks) (Rp.blockL l S (N + 1) (n + 1) ks)
 | 0,ks,hk=>fun d hd=>Agr.out
 | n + 1,ks,hk=>by
  intro d hd;have ih:=fun x:Nd=>blockL_agr hg aS tS hB N n (ks ++ [x]) (by simp;omega) d hd
  have tih:=fun x:Nd=> @blockL_tame l S B (N + 1) n (ks ++ [x]) (by simp;omega)
  rw[blockL_eq S (N + 1) (n + 1) ks (by omega)];unfold blockL2
  repeat' first | exact next_agr hg | exact isr_agr _ | exact isN_agr _ | exact kindr_agr hg _ | exact wantr_agr hg _ | exact kq_agr _ | exact kqN_agr _ | exact semisr_agr hg _ | exact ih _ | exact AgR.at hT2 (by omega)| exact AgR.at aS (by omega)| exact tih _ | assumption | exact Agr.pure (show _≤_ by omega)| refine fltr_agr ?_ | refine Agr.ite ?_ ?_ | refine Agr.bind (Q:=T) ?_ (fun _ _=> ?_) (fun _ _=> ?_)| exact next_tame | exact isr_tame _ | exact isN_tame _ | exact kindr_tame _ | exact wantr_tame _ | exact kq_tame _ | exact semisr_tame _ | exact Tame.mp (show _≤_ by omega)| refine Tame.mi ?_ ?_ | refine fltr_tame ?_ | refine Tame.bind (Q:=T) ?_ (fun _ _=> ?_)
def curlyM (l:List Tok) (S:M Rp.RS Nd) (N:Nat):M Rp.RS (List Nd):=mb (wantR l ⟨#[123]⟩) fun _=>mb (Rp.blockL l S N N []) fun ks=>mb (wantR l ⟨#[125]⟩) fun _=>mp ks
def bracedM (l:List Tok) (S:M Rp.RS Nd) (N:Nat):M Rp.RS (List Nd):=mb (isNR l ⟨#[123]⟩) fun b=>mi b (nestR (curlyM l S N)) (shutR (curlyM l S N))
theorem curlyM_tame {S:M Rp.RS Nd} (N:Nat):Tame (Yr l) T (curlyM l S (N + 1)):=Tame.bind (Q:=T) (wantr_tame _) fun _ _=>Tame.bind (blockL_tame (B:=N) (N + 1) N [] (by simp)) fun ks _=>Tame.bind (Q:=T) (wantr_tame _) fun _ _=>Tame.mp True.intro
theorem curlyM_agr (hg:Good l) {Sg:GN} {S:M Rp.RS Nd} (aS:AgR l Sg S) (tS:Tame (Yr l) T S) (N:Nat) (hN:N < 4000000000):AgR l (curly2 l Sg N) (curlyM l S (N + 1)):=fun d hd=>
 Agr.bind (Q:=T) (wantr_agr hg _) (fun _ _=>Agr.bind (blockL_agr hg aS tS (B:=N) (by omega) N N [] (by simp) d hd) (fun ks _=>Agr.bind (Q:=T) (wantr_agr hg _) (fun _ _=>Agr.pure True.intro) (fun _ _=>Tame.mp True.intro)) (fun ks _=>Tame.bind (Q:=T) (wantr_tame _) fun _ _=>Tame.mp True.intro))
  (fun _ _=>Tame.bind (blockL_tame (B:=N) (N + 1) N [] (by simp)) fun ks _=>Tame.bind (Q:=T) (wantr_tame _) fun _ _=>Tame.mp True.intro)
theorem bracedM_tame {S:M Rp.RS Nd} (N:Nat):Tame (Yr l) T (bracedM l S (N + 1)):=Tame.bind (Q:=T) (isN_tame _) fun b _=>Tame.mi (nestr_tame (curlyM_tame N)) (shutr_tame (curlyM_tame N))
theorem bracedM_agr (hg:Good l) {Sg:GN} {S:M Rp.RS Nd} (aS:AgR l Sg S) (tS:Tame (Yr l) T S) (N:Nat) (hN:N < 4000000000):AgR l (braced2 l Sg N) (bracedM l S (N + 1)):=by
 intro d hd a ha;have h1:=nestr_agr (d:=d) hd (fun q=>curlyM_agr hg aS tS N hN (d + 1) q) (curlyM_tame N) a ha;simp only[bracedM,braced2,bind,isG,Res.andThen,r_isN,yr_emb,isN_emb,isr_emb _ a ha,Option.bind_some,ite,mi];cases hw:Pp.word (tokAt l a) ⟨#[123]⟩with
 | true=>
  simp only[if_true];exact h1
 | false=>
  simp only[Bool.false_eq_true,if_false];have e:shutR (curlyM l S (N + 1)) ⟨(a:Int),-1,(d:Int)⟩=shutR (mb (Rp.blockL l S (N + 1) (N + 1) []) fun ks=>mb (wantR l ⟨#[125]⟩) fun _=>mp ks) ⟨(a:Int),(a:Int),(d:Int)⟩:=by
   simp only[shutR,curlyM];rw[r_want];simp only[want_emb,isr_emb _ a ha,hw,Option.map_some,Option.bind_some,Bool.false_eq_true,if_false,fail_emb];rw[next_bad ⟨(a:Int),(a:Int),(d:Int)⟩ (by simp)]
  rw[e];obtain⟨x,p,h2,h3,h4⟩:=shutr_tame (Tame.bind (blockL_tame (S:=S) (B:=N) (N + 1) N [] (by simp)) fun ks _=>Tame.bind (Q:=T) (wantr_tame ⟨#[125]⟩) fun _ _=>Tame.mp (Q:=T) (x:=ks) True.intro) ⟨(a:Int),(a:Int),(d:Int)⟩ (by rw[failed a ha];omega);exact⟨x,p,h2,by rw[h3,failed a ha],True.intro⟩
theorem blockB_eq (S:M Rp.RS Nd) (N:Nat):Rp.blockB l S N=mb hereR fun t=>mb (bracedM l S N) fun ks=>mp (.mk 10 t ks):=by
 funext p
 show Rp.blockB l S N p=((bracedM l S N) p).bind fun r=>some (Nd.mk 10 p.at_ r.1,r.2)
 simp only[bracedM];rw[r_isN];simp only[Rp.blockB];cases Rp.isN l p ⟨#[123]⟩with
 | none=>rfl
 | some b=>cases b <;> simp only[Option.bind_some,mi,nestR,shutR,curlyM,mb,mp,wantR,if_true,Bool.false_eq_true,if_false,Option.bind_assoc,isNR,Option.map_some]
theorem blockB_tame {S:M Rp.RS Nd} (N:Nat):Tame (Yr l) T (Rp.blockB l S (N + 1)):=by
 rw[blockB_eq];exact Tame.bind (Q:=T) hereR_tame fun t _=>Tame.bind (Q:=T) (bracedM_tame N) fun ks _=>Tame.mp True.intro
theorem blockB_agr (hg:Good l) {Sg:GN} {S:M Rp.RS Nd} (aS:AgR l Sg S) (tS:Tame (Yr l) T S) (N:Nat) (hN:N < 4000000000):AgR l (block2 l Sg N) (Rp.blockB l S (N + 1)):=by
 rw[blockB_eq];exact fun d hd=>Agr.bind (Q:=T) hereR_agr (fun t _=>Agr.bind (Q:=T) (bracedM_agr hg aS tS N hN d hd) (fun ks _=>Agr.pure True.intro) (fun ks _=>Tame.mp True.intro)) (fun t _=>Tame.bind (Q:=T) (bracedM_tame N) fun ks _=>Tame.mp True.intro)
theorem structsL_eq (N:Nat):∀(n:Nat) (ks:List Nd),Rp.structsL l N n ks=Rp.blockL l (Rp.fieldR l) N n ks
 | 0,ks=>rfl
 | n + 1,ks=>by
  funext p
  have ih:=structsL_eq N n;simp only[Rp.structsL,Rp.blockL,Rp.fieldR,Option.bind_assoc,Option.bind_some,ih]
theorem structsB_eq (N:Nat):Rp.structsB l N=mb (wantR l ⟨#[116,121,112,101]⟩) fun _=>mb (kindR l 1) fun t=>mb (wantR l ⟨#[115,116,114,117,99,116]⟩) fun _=>mb (bracedM l (Rp.fieldR l) N) fun ks=>mp (.mk 6 t ks):=by
 funext p
 simp only[Rp.structsB,structsL_eq,r_want,r_kind]
 congr 1;funext w1
 congr 1;funext w2
 congr 1;funext w3
 show _=((bracedM l (Rp.fieldR l) N) w3.2).bind fun r=>some (Nd.mk 6 w2.1 r.1,r.2)
 simp only[bracedM];rw[r_isN];dsimp only;cases Rp.isN l w3.2 ⟨#[123]⟩with
 | none=>rfl
 | some b=>cases b <;> simp only[Option.bind_some,mi,nestR,shutR,curlyM,mb,mp,wantR,if_true,Bool.false_eq_true,if_false,Option.bind_assoc,isNR,Option.map_some]
theorem structsB_tame (N:Nat):Tame (Yr l) T (Rp.structsB l (N + 1)):=by
 rw[structsB_eq];exact Tame.bind (Q:=T) (wantr_tame _) fun _ _=>Tame.bind (Q:=T) (kindr_tame _) fun t _=>Tame.bind (Q:=T) (wantr_tame _) fun _ _=>Tame.bind (Q:=T) (bracedM_tame N) fun ks _=>Tame.mp True.intro
theorem structsB_agr (hg:Good l) (N:Nat) (hN:N < 4000000000):AgR l (structs2 l N) (Rp.structsB l (N + 1)):=by
 intro d hd;have h1:=bracedM_agr hg (field2_agr hg) field2_tame N hN d hd;have h2:= @bracedM_tame l (Rp.fieldR l) N;rw[structsB_eq];unfold structs2
 repeat' first | exact h4 _ | exact AgR.at (h5 _) (by omega)| exact next_agr hg | exact isr_agr _ | exact isN_agr _ | exact kindr_agr hg _ | exact wantr_agr hg _ | exact kq_agr _ | exact kqN_agr _ | exact tok_agr | exact hereR_agr | exact semisr_agr hg _ | exact assM_agr hg | exact ih _ | assumption | exact AgR.at (by assumption) (by omega)| exact AgR.at (hK _) (by omega)| exact tK _ | exact tih _ | refine nestr_agr (by omega) (fun _=> ?_) ?_ | exact Agr.pure True.intro | refine failr_agr ?_ | refine fltr_agr ?_ | refine Agr.ite ?_ ?_ | refine Agr.bind (Q:=T) ?_ (fun _ _=> ?_) (fun _ _=> ?_)| exact next_tame | exact isr_tame _ | exact isN_tame _ | exact kindr_tame _ | exact wantr_tame _ | exact kq_tame _ | exact kqN_tame _ | exact tok_tame | exact hereR_tame | exact semisr_tame _ | exact assM_tame hg | exact Tame.mp True.intro | refine Tame.mi ?_ ?_ | refine nestr_tame ?_ | refine failr_tame ?_ | refine fltr_tame ?_ | refine Tame.bind (Q:=T) ?_ (fun _ _=> ?_)
theorem funcsL_eq (n:Nat) (first:Bool) (ks:List Nd) (hk:ks.length < 4294967296):Rp.funcsL l (n + 1) first ks=fltR (mb (isR l ⟨#[41]⟩) fun b=>mi b (mp ks) (mi first (mb (kindR l 1) fun t=>mb (Rp.types l) fun y=>Rp.funcsL l n false (ks ++ [Nd.mk 9 t [y]])) (mb (wantR l ⟨#[44]⟩) fun _=>mb (kindR l 1) fun t=>mb (Rp.types l) fun y=>Rp.funcsL l n false (ks ++ [Nd.mk 9 t [y]])))) (mp ks):=by
 funext p
 simp only[r_want,r_is,r_kind];simp only[Rp.funcsL,Rp.funcsS,app_ok hk,Option.bind_some,Option.bind_assoc];rfl
theorem funcsL_tame {B:Nat} (n:Nat) (first:Bool) (ks:List Nd) (hk:ks.length≤B):Tame (Yr l) (QL B) (Rp.funcsL l (n + 1) first ks):=by
 intro p hp;obtain⟨h1,h2,h3,h4⟩:=flt_at hp;have:decide (p.bad < 0)=false:=by simp;omega
 exact⟨ks,p,by simp only[Rp.funcsL,this];rfl,rfl,hk⟩
theorem funcsL_agr (hg:Good l) {B:Nat} (hB:B < 4294967296):∀(n:Nat) (first:Bool) (ks:List Nd),ks.length + n≤B→∀d,d≤40→Agr (Yr l) l.length d (QL B) (funcL2 l n first ks) (Rp.funcsL l (n + 1) first ks)
 | 0,first,ks,hk=>fun d hd=>Agr.out
 | n + 1,first,ks,hk=>by
  intro d hd;have ih:=fun x:Nd=>funcsL_agr hg hB n false (ks ++ [x]) (by simp;omega) d hd
  have tih:=fun x:Nd=> @funcsL_tame l B n false (ks ++ [x]) (by simp;omega)
  have hT:= @types2_tame l;have hT2:= @types2_agr l hg;rw[funcsL_eq (n + 1) first ks (by omega)];unfold funcL2
  repeat' first | exact next_agr hg | exact isr_agr _ | exact isN_agr _ | exact kindr_agr hg _ | exact wantr_agr hg _ | exact kq_agr _ | exact kqN_agr _ | exact semisr_agr hg _ | exact ih _ | exact AgR.at hT2 (by omega)| exact AgR.at aS (by omega)| exact tih _ | assumption | exact Agr.pure (show _≤_ by omega)| refine fltr_agr ?_ | refine Agr.ite ?_ ?_ | refine Agr.bind (Q:=T) ?_ (fun _ _=> ?_) (fun _ _=> ?_)| exact next_tame | exact isr_tame _ | exact isN_tame _ | exact kindr_tame _ | exact wantr_tame _ | exact kq_tame _ | exact semisr_tame _ | exact Tame.mp (show _≤_ by omega)| refine Tame.mi ?_ ?_ | refine fltr_tame ?_ | refine Tame.bind (Q:=T) ?_ (fun _ _=> ?_)
theorem Agr.appR {β:Type} {R:β→Prop} {d:Nat} {ks:List Nd} {x:Nd} {t:G β} {f:List Nd→M Rp.RS β} (h:ks.length < 4294967296) (ha:Agr (Yr l) l.length d R t (f (ks ++ [x]))):Agr (Yr l) l.length d R t (mb (appM ks x) f):=by
 rw[mb_app];simp only[app_ok h,Option.bind_some];exact ha
theorem Tame.appR {β:Type} {R:β→Prop} {ks:List Nd} {x:Nd} {f:List Nd→M Rp.RS β} (h:ks.length < 4294967296) (ha:Tame (Yr l) R (f (ks ++ [x]))):Tame (Yr l) R (mb (appM ks x) f):=by
 rw[mb_app];simp only[app_ok h,Option.bind_some];exact ha
theorem funcs_eq (Bm:M Rp.RS Nd) (N:Nat):Rp.funcs l Bm N=mb (wantR l ⟨#[102,117,110,99]⟩) fun _=>mb (kindR l 1) fun t=>mb (wantR l ⟨#[40]⟩) fun _=>mb (Rp.funcsL l N true []) fun ks=>mb (wantR l ⟨#[41]⟩) fun _=>mb (kqNR l 1) fun k=>
  mi k (mb (Rp.types l) fun y=>mb (appM ks y) fun k1=>mb Bm fun b=>mb (appM k1 b) fun k2=>mp (Nd.mk 8 t k2)) (mb Bm fun b=>mb (appM ks b) fun k2=>mp (Nd.mk 8 t k2)):=by
 funext p
 simp only[r_kind,r_want,r_kqN,mb_app];rfl
theorem funcs_tame {Bm:M Rp.RS Nd} (tB:Tame (Yr l) T Bm) (N:Nat) (hN:N < 4000000000):Tame (Yr l) T (Rp.funcs l Bm (N + 1)):=by
 rw[funcs_eq];refine Tame.bind (Q:=T) (wantr_tame _) fun _ _=>Tame.bind (Q:=T) (kindr_tame _) fun t _=>Tame.bind (Q:=T) (wantr_tame _) fun _ _=>Tame.bind (funcsL_tame (B:=N) N true [] (by simp)) fun ks hk=> ?_
 simp only[QL]at hk;refine Tame.bind (Q:=T) (wantr_tame _) fun _ _=>Tame.bind (kqN_tame' _) ?_
 rintro _ rfl;refine Tame.miF (by decide) ?_;exact Tame.bind tB fun b _=>Tame.appR (by omega) (Tame.mp True.intro)
theorem funcs_agr (hg:Good l) {S:GN} {Bm:M Rp.RS Nd} (hB:AgR l S Bm) (tB:Tame (Yr l) T Bm) (N:Nat) (hN:N < 4000000000):AgR l (funcs2 l S N) (Rp.funcs l Bm (N + 1)):=by
 intro d hd;have hT:= @types2_tame l;have hT2:= @types2_agr l hg;have h1:=funcsL_agr hg (B:=N) (by omega) N true [] (by simp) d hd;have h2:= @funcsL_tame l N N true [] (by simp);have two:∀(ks:List Nd) (t:Int),QL N ks→Tame (Yr l) T (mb (Rp.types l) fun y=>mb (appM ks y) fun k1=>mb Bm fun b=>mb (appM k1 b) fun k2=>mp (Nd.mk 8 t k2)):=fun ks t hk=>Tame.bind hT fun y _=>Tame.appR (by simp only[QL]at hk;omega) (Tame.bind tB fun b _=>Tame.appR (by simp only[QL]at hk;simp;omega) (Tame.mp True.intro))
 have one:∀(ks:List Nd) (t:Int),QL N ks→Tame (Yr l) T (mb Bm fun b=>mb (appM ks b) fun k2=>mp (Nd.mk 8 t k2)):=fun ks t hk=>Tame.bind tB fun b _=>Tame.appR (by simp only[QL]at hk;omega) (Tame.mp True.intro)
 have fin:∀(ks:List Nd) (t:Int),QL N ks→Tame (Yr l) T (mb (wantR l ⟨#[41]⟩) fun _=>mb (kqNR l 1) fun k=>mi k (mb (Rp.types l) fun y=>mb (appM ks y) fun k1=>mb Bm fun b=>mb (appM k1 b) fun k2=>mp (Nd.mk 8 t k2)) (mb Bm fun b=>mb (appM ks b) fun k2=>mp (Nd.mk 8 t k2))):=
  fun ks t hk=>Tame.bind (Q:=T) (wantr_tame _) fun _ _=>Tame.bind (Q:=T) (kqN_tame _) fun k _=>Tame.mi (two ks t hk) (one ks t hk)
 rw[funcs_eq];unfold funcs2;refine Agr.bind (Q:=T) (wantr_agr hg _) (fun _ _=> ?_) (fun _ _=>Tame.bind (Q:=T) (kindr_tame _) fun t _=>Tame.bind (Q:=T) (wantr_tame _) fun _ _=>Tame.bind h2 fun ks hk=>fin ks t hk);refine Agr.bind (Q:=T) (kindr_agr hg _) (fun t _=> ?_) (fun t _=>Tame.bind (Q:=T) (wantr_tame _) fun _ _=>Tame.bind h2 fun ks hk=>fin ks t hk);refine Agr.bind (Q:=T) (wantr_agr hg _) (fun _ _=> ?_) (fun _ _=>Tame.bind h2 fun ks hk=>fin ks t hk);refine Agr.bind h1 (fun ks hk=> ?_) (fun ks hk=>fin ks t hk);refine Agr.bind (Q:=T) (wantr_agr hg _) (fun _ _=> ?_) (fun _ _=>Tame.bind (Q:=T) (kqN_tame _) fun k _=>Tame.mi (two ks t hk) (one ks t hk));refine Agr.bind (Q:=T) (kqN_agr _) (fun k _=> ?_) (fun k _=>Tame.mi (two ks t hk) (one ks t hk));simp only[QL]at hk;refine Agr.ite ?_ ?_
 ·exact Agr.bind (hT2 d hd) (fun y _=>Agr.appR (by omega) (Agr.bind (hB d hd) (fun b _=>Agr.appR (by simp;omega) (Agr.pure True.intro)) (fun b _=>Tame.appR (by simp;omega) (Tame.mp True.intro)))) (fun y _=>Tame.appR (by omega) (Tame.bind tB fun b _=>Tame.appR (by simp;omega) (Tame.mp True.intro)))
 ·exact Agr.bind (hB d hd) (fun b _=>Agr.appR (by omega) (Agr.pure True.intro)) (fun b _=>Tame.appR (by omega) (Tame.mp True.intro))
theorem fileLR_eq (D:M Rp.RS Nd) (N n:Nat) (imp:Bool) (ks:List Nd) (hk:ks.length < 4294967296):Rp.fileL l D N (n + 1) imp ks=fltR (mb (semisR l N) fun _=>mb (kqR l 7) fun e=>mi e (mp ks) (mb (isR l ⟨#[105,109,112,111,114,116]⟩) fun b=>mi (imp&&b) (mb (nextR l) fun _=>mb (kindR l 1) fun t=>mb (kindR l 6) fun _=>Rp.fileL l D N n imp (ks ++ [Nd.mk 3 t []])) (mb D fun x=>mb (kindR l 6) fun _=>Rp.fileL l D N n false (ks ++ [x])))) (mp ks):=by
 funext p
 simp only[r_next,r_is,r_kind,r_semis,r_kq];simp only[Rp.fileL,app_ok hk,Option.bind_some,fltR];cases decide (p.bad < 0)with
 | false=>rfl
 | true=>
  simp only[if_true]
  congr 1;funext r1
  simp only[Rp.kindQ,Rp.isW];cases ht:Rp.here l r1 with
  | none=>rfl
  | some t=>
   simp only[Option.map_some,Option.bind_some,mi,ht];cases imp <;> simp only[Bool.true_and,Bool.false_and,Bool.false_eq_true,if_true,if_false,Option.bind_some] <;> rfl
theorem fileLR_tame {D:M Rp.RS Nd} {B:Nat} (N n:Nat) (imp:Bool) (ks:List Nd) (hk:ks.length≤B):Tame (Yr l) (QL B) (Rp.fileL l D N (n + 1) imp ks):=by
 intro p hp;obtain⟨h1,h2,h3,h4⟩:=flt_at hp;have:decide (p.bad < 0)=false:=by simp;omega
 exact⟨ks,p,by simp only[Rp.fileL,this];rfl,rfl,hk⟩
theorem fileLR_agr (hg:Good l) {Dg:GN} {D:M Rp.RS Nd} (aS:AgR l Dg D) (tD:Tame (Yr l) T D) {B:Nat} (hB:B < 4294967296) (N:Nat):∀(n:Nat) (imp:Bool) (ks:List Nd),ks.length + n≤B→∀d,d≤40→Agr (Yr l) l.length d (QL B) (fileL2 l Dg N n imp ks) (Rp.fileL l D (N + 1) (n + 1) imp ks)
 | 0,imp,ks,hk=>fun d hd=>Agr.out
 | n + 1,imp,ks,hk=>by
  intro d hd;have ih1:=fun x:Nd=>fileLR_agr hg aS tD hB N n imp (ks ++ [x]) (by simp;omega) d hd
  have tih1:=fun x:Nd=> @fileLR_tame l D B (N + 1) n imp (ks ++ [x]) (by simp;omega)
  have ih:=fun x:Nd=>fileLR_agr hg aS tD hB N n false (ks ++ [x]) (by simp;omega) d hd
  have tih:=fun x:Nd=> @fileLR_tame l D B (N + 1) n false (ks ++ [x]) (by simp;omega)
  rw[fileLR_eq D (N + 1) (n + 1) imp ks (by omega)];unfold fileL2
  repeat' first | exact ih1 _ | exact tih1 _ | exact next_agr hg | exact isr_agr _ | exact kindr_agr hg _ | exact kq_agr _ | exact semisr_agr hg _ | exact ih _ | exact AgR.at aS (by omega)| exact tih _ | assumption | exact Agr.pure (show _≤_ by omega)| refine fltr_agr ?_ | refine Agr.ite ?_ ?_ | refine Agr.bind (Q:=T) ?_ (fun _ _=> ?_) (fun _ _=> ?_)| exact next_tame | exact isr_tame _ | exact kindr_tame _ | exact kq_tame _ | exact semisr_tame _ | exact Tame.mp (show _≤_ by omega)| refine Tame.mi ?_ ?_ | refine fltr_tame ?_ | refine Tame.bind (Q:=T) ?_ (fun _ _=> ?_)
theorem fileR_agr (hg:Good l) {Dg:GN} {D:M Rp.RS Nd} (aD:AgR l Dg D) (tD:Tame (Yr l) T D) (N:Nat) (hN:N < 1000000000):Agr (Yr l) l.length 0 T (file2 l Dg N) (Rp.fileR l D (N + 1)):=by
 have t1:∀t:Int,Tame (Yr l) T (mb (Rp.fileL l D (N + 1) (N + 1) true [Nd.mk 2 t []]) fun ks=>mp (Nd.mk 1 0 ks)):=fun t=>Tame.bind (fileLR_tame (B:=N + 1) (N + 1) N true [Nd.mk 2 t []] (by simp)) fun ks _=>Tame.mp True.intro
 show Agr (Yr l) l.length 0 T (file2 l Dg N) (mb (wantR l ⟨#[112,97,99,107,97,103,101]⟩) fun _=>mb (kindR l 1) fun t=>mb (kindR l 6) fun _=>mb (Rp.fileL l D (N + 1) (N + 1) true [Nd.mk 2 t []]) fun ks=>mp (Nd.mk 1 0 ks));unfold file2;refine Agr.bind (Q:=T) (wantr_agr hg _) (fun _ _=> ?_) (fun _ _=>Tame.bind (Q:=T) (kindr_tame _) fun t _=>Tame.bind (Q:=T) (kindr_tame _) fun _ _=>t1 t);refine Agr.bind (Q:=T) (kindr_agr hg _) (fun t _=> ?_) (fun t _=>Tame.bind (Q:=T) (kindr_tame _) fun _ _=>t1 t);refine Agr.bind (Q:=T) (kindr_agr hg _) (fun _ _=> ?_) (fun _ _=>t1 t);exact Agr.bind (fileLR_agr hg aD tD (B:=N + 1) (by omega) N N true [Nd.mk 2 t []] (by simp;omega) 0 (by omega)) (fun _ _=>Agr.pure True.intro) (fun _ _=>Tame.mp True.intro)
end Gr
end Go.Proofs.Dm
