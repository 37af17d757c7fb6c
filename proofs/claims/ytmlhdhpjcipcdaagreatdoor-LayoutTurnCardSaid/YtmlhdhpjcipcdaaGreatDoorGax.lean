/- Part of the proof: contracts of the functions, walked by the D-machine. No condition. -/
import Derived.Test.YtmlhdhpjcipcdaaGreatDoorPc
import Derived.Test.YtmlhdhpjcipcdaaGreatDoorDn
set_option linter.unusedSimpArgs false
set_option linter.unusedVariables false
namespace Go.Proofs.Dm
open Go Go.Proofs Go.Proofs.Dm.Sc
namespace Gr
def tokAt (l:List Tok) (i:Nat):Tok:=(l[i]?).getD endT
def adv (l:List Tok):G Int:=fun _ a=>if(tokAt l a).kind==7 then .out else .ok (a:Int) (a + 1)
def isG (l:List Tok) (s:ByteArray):G Bool:=fun _ a=> .ok (Pp.word (tokAt l a) s) a
def look (l:List Tok) (k:Nat):G Tok:=fun _ a=> .ok (tokAt l (a + k)) a
def here:G Int:=fun _ a=> .ok (a:Int) a
def wantG (l:List Tok) (s:ByteArray):G Int:=fun _ a=>if Pp.word (tokAt l a) s then .ok (a:Int) (a + 1)else .bad a
def kindG (l:List Tok) (k:Int):G Int:=fun _ a=>if(tokAt l a).kind==k then(if k==7 then .out else .ok (a:Int) (a + 1))else .bad a
def semisG (l:List Tok):Nat→G Unit
 | 0=>stop
 | n + 1=>fun d a=>if(tokAt l a).kind==6 then semisG l n d (a + 1)else .ok () a
abbrev GN:=G Nd
def typG (l:List Tok):GN:=bind (kindG l 1) fun t=>bind (isG l ⟨#[46]⟩) fun b=>ite b (bind (adv l) fun _=>bind (kindG l 1) fun u=>pure (.mk 28 u [.mk 20 t []])) (pure (.mk 28 t []))
def variableG (l:List Tok) (E:GN):GN:=bind (adv l) fun _=>bind (kindG l 1) fun t=>bind (typG l) fun y=>bind (isG l ⟨#[61]⟩) fun b=>ite b (bind (adv l) fun _=>bind E fun e=>pure (.mk 4 t [y,e])) (pure (.mk 4 t [y]))
def constantG (l:List Tok) (E:GN):GN:=bind (adv l) fun _=>bind (kindG l 1) fun t=>bind (wantG l ⟨#[61]⟩) fun _=>bind E fun e=>pure (.mk 5 t [e])
def curlyLG (l:List Tok) (S:GN) (N:Nat):Nat→List Nd→G (List Nd)
 | 0,_=>stop
 | n + 1,ks=>bind (isG l ⟨#[125]⟩) fun b=>ite b (pure ks) (bind S fun x=>bind (isG l ⟨#[125]⟩) fun c=>ite c (curlyLG l S N n (ks ++ [x])) (bind (kindG l 6) fun _=>bind (semisG l N) fun _=>curlyLG l S N n (ks ++ [x])))
def curlyG (l:List Tok) (S:GN) (N:Nat):G (Int×List Nd):=bind (isG l ⟨#[123]⟩) fun b=>ite b (nest (bind (adv l) fun t=>bind (semisG l N) fun _=>bind (curlyLG l S N N []) fun ks=>bind (wantG l ⟨#[125]⟩) fun _=>pure (t,ks))) fail
def fieldG (l:List Tok):GN:=bind (kindG l 1) fun t=>bind (typG l) fun y=>pure (.mk 7 t [y])
def structureG (l:List Tok) (N:Nat):GN:=bind (adv l) fun _=>bind (kindG l 1) fun t=>bind (wantG l ⟨#[115,116,114,117,99,116]⟩) fun _=>bind (curlyG l (fieldG l) N) fun r=>pure (.mk 6 t r.2)
def blockG (l:List Tok) (S:GN) (N:Nat):GN:=bind (curlyG l S N) fun r=>pure (.mk 10 r.1 r.2)
def funcLG (l:List Tok):Nat→List Nd→G (List Nd)
 | 0,_=>stop
 | n + 1,ks=>bind (isG l ⟨#[41]⟩) fun b=>ite b (pure ks) (bind (kindG l 1) fun t=>bind (typG l) fun y=>bind (isG l ⟨#[41]⟩) fun c=>ite c (funcLG l n (ks ++ [.mk 9 t [y]])) (bind (wantG l ⟨#[44]⟩) fun _=>bind (isG l ⟨#[41]⟩) fun e=>ite e fail (funcLG l n (ks ++ [.mk 9 t [y]]))))
def functionG (l:List Tok) (B:GN) (N:Nat):GN:=bind (adv l) fun _=>bind (kindG l 1) fun t=>bind (wantG l ⟨#[40]⟩) fun _=>bind (funcLG l N []) fun ks=>bind (wantG l ⟨#[41]⟩) fun _=>bind (look l 0) fun k=>
 ite (k.kind==1) (bind (typG l) fun y=>bind B fun b=>pure (.mk 8 t (ks ++ [y] ++ [b]))) (bind B fun b=>pure (.mk 8 t (ks ++ [b])))
def leaveG (l:List Tok) (k:Int):GN:=bind (adv l) fun t=>bind (look l 0) fun x=>ite (x.kind==1) (bind (adv l) fun u=>pure (.mk k t [.mk 19 u []])) (pure (.mk k t []))
def branchG (l:List Tok) (E B R:GN):GN:=bind (adv l) fun t=>bind E fun e=>bind B fun b=>bind (isG l ⟨#[101,108,115,101]⟩) fun c=>
 ite c (bind (adv l) fun _=>bind (isG l ⟨#[105,102]⟩) fun i=>ite i (bind (nest R) fun r=>pure (.mk 14 t [e,b,r])) (bind B fun r=>pure (.mk 14 t [e,b,r]))) (pure (.mk 14 t [e,b]))
def loopG (l:List Tok) (E B:GN):GN:=bind (adv l) fun t=>bind E fun e=>bind B fun b=>pure (.mk 15 t [e,b])
def backG (l:List Tok) (E:GN):GN:=bind (adv l) fun t=>bind (look l 0) fun k=>ite (k.kind==6) (pure (.mk 16 t [])) (bind (isG l ⟨#[125]⟩) fun b=>ite b (pure (.mk 16 t [])) (bind E fun e=>pure (.mk 16 t [e])))
def restG (l:List Tok) (E:GN):GN:=bind here fun f=>bind E fun x=>bind (isG l ⟨#[61]⟩) fun b=>ite b (bind (adv l) fun t=>bind E fun y=>pure (.mk 13 t [x,y])) (pure (.mk 12 f [x]))
def simpleG (l:List Tok) (E L:GN):GN:=bind (look l 0) fun t=>ite (t.kind==1) (bind (look l 1) fun n=>ite (Pp.word n ⟨#[58,61]⟩) (bind (adv l) fun t=>bind (adv l) fun _=>bind E fun e=>pure (.mk 11 t [e]))
 (ite (Pp.word n ⟨#[58]⟩) (bind (adv l) fun t=>bind (adv l) fun _=>bind (isG l ⟨#[102,111,114]⟩) fun b=>ite b (bind L fun x=>pure (.mk 19 t [x])) fail) (restG l E))) (restG l E)
def stmtG (l:List Tok) (V C B I L R M:GN):GN:=
 bind (isG l ⟨#[118,97,114]⟩) fun b=>ite b V (bind (isG l ⟨#[99,111,110,115,116]⟩) fun b=>ite b C (bind (isG l ⟨#[123]⟩) fun b=>ite b B (bind (isG l ⟨#[105,102]⟩) fun b=>ite b I (bind (isG l ⟨#[102,111,114]⟩) fun b=>ite b L
 (bind (isG l ⟨#[114,101,116,117,114,110]⟩) fun b=>ite b R (bind (isG l ⟨#[98,114,101,97,107]⟩) fun b=>ite b (leaveG l 17) (bind (isG l ⟨#[99,111,110,116,105,110,117,101]⟩) fun b=>ite b (leaveG l 18) M)))))))
def declG (l:List Tok) (V C S F:GN):GN:=
 bind (isG l ⟨#[118,97,114]⟩) fun b=>ite b V (bind (isG l ⟨#[99,111,110,115,116]⟩) fun b=>ite b C (bind (isG l ⟨#[116,121,112,101]⟩) fun b=>ite b S (bind (isG l ⟨#[102,117,110,99]⟩) fun b=>ite b F fail)))
def binaryLG (l:List Tok) (Y:Int→GN):Nat→Int→Nd→GN
 | 0,_,_=>stop
 | n + 1,rk,x=>bind (look l 0) fun t=>ite (t.kind !=4) (pure x) (ite (decide (Pp.rank t.text < rk)) (pure x) (ite (Pp.rank t.text==0) (pure x) (bind (adv l) fun o=>bind (Y (Pp.rank t.text + 1)) fun y=>binaryLG l Y n rk (.mk 24 o [x,y]))))
def binaryG (l:List Tok) (U:GN) (Y:Int→GN) (N:Nat) (rk:Int):GN:=bind U fun x=>binaryLG l Y N rk x
def unaryG (l:List Tok) (U P:GN):GN:=bind (look l 0) fun t=>ite (t.kind !=4) P (ite (Pp.unaryS t.text) (nest (bind (adv l) fun o=>bind U fun x=>pure (.mk 23 o [x]))) P)
def firstG (l:List Tok) (E:GN):GN:=bind (look l 0) fun t=>ite (t.kind==1) (bind (adv l) fun o=>pure (.mk 20 o [])) (ite (t.kind==2) (bind (adv l) fun o=>pure (.mk 21 o [])) (ite (t.kind==3) (bind (adv l) fun o=>pure (.mk 22 o []))
 (bind (isG l ⟨#[40]⟩) fun b=>ite b (nest (bind (adv l) fun o=>bind E fun x=>bind (wantG l ⟨#[41]⟩) fun _=>pure (.mk 25 o [x]))) fail)))
def primLG (l:List Tok) (K:Nd→GN):Nat→Nd→GN
 | 0,_=>stop
 | n + 1,x=>bind (isG l ⟨#[40]⟩) fun b=>ite b (bind (K x) fun y=>primLG l K n y) (bind (isG l ⟨#[46]⟩) fun c=>ite c (bind (adv l) fun _=>bind (kindG l 1) fun t=>primLG l K n (.mk 27 t [x])) (pure x))
def primG (l:List Tok) (F:GN) (K:Nd→GN) (N:Nat):GN:=bind F fun x=>primLG l K N x
def callLG (l:List Tok) (E:GN):Nat→List Nd→G (List Nd)
 | 0,_=>stop
 | n + 1,ks=>bind (isG l ⟨#[41]⟩) fun b=>ite b (pure ks) (bind E fun e=>bind (isG l ⟨#[41]⟩) fun c=>ite c (callLG l E n (ks ++ [e])) (bind (wantG l ⟨#[44]⟩) fun _=>bind (isG l ⟨#[41]⟩) fun d=>ite d fail (callLG l E n (ks ++ [e]))))
def callG (l:List Tok) (E:GN) (N:Nat) (x:Nd):GN:=nest (bind (adv l) fun o=>bind (callLG l E N [x]) fun ks=>bind (wantG l ⟨#[41]⟩) fun _=>pure (.mk 26 o ks))
def fileIG (l:List Tok) (N:Nat):Nat→List Nd→G (List Nd)
 | 0,_=>stop
 | n + 1,ks=>bind (isG l ⟨#[105,109,112,111,114,116]⟩) fun b=>ite b (bind (adv l) fun _=>bind (kindG l 1) fun t=>bind (kindG l 6) fun _=>bind (semisG l N) fun _=>fileIG l N n (ks ++ [.mk 3 t []])) (pure ks)
def fileDG (l:List Tok) (D:GN) (N:Nat):Nat→List Nd→G (List Nd)
 | 0,_=>stop
 | n + 1,ks=>bind (look l 0) fun t=>ite (t.kind !=7) (bind D fun x=>bind (kindG l 6) fun _=>bind (semisG l N) fun _=>fileDG l D N n (ks ++ [x])) (pure ks)
def fileG (l:List Tok) (D:GN) (N:Nat):GN:=bind (wantG l ⟨#[112,97,99,107,97,103,101]⟩) fun _=>bind (kindG l 1) fun t=>bind (kindG l 6) fun _=>bind (semisG l N) fun _=>bind (fileIG l N N [.mk 2 t []]) fun ks=>bind (fileDG l D N N ks) fun ks2=>pure (.mk 1 0 ks2)
structure SF where
 binary:Int→GN
 unary:GN
 block:GN
 branch:GN
 stmt:GN
def stepS (l:List Tok) (N:Nat) (F:SF):SF where
 binary:=fun rk=>binaryG l F.unary F.binary N rk
 unary:=unaryG l F.unary (primG l (firstG l (F.binary 1)) (callG l (F.binary 1) N) N)
 block:=blockG l F.stmt N
 branch:=branchG l (F.binary 1) F.block F.branch
 stmt:=stmtG l (variableG l (F.binary 1)) (constantG l (F.binary 1)) F.block F.branch (loopG l (F.binary 1) F.block) (backG l (F.binary 1)) (simpleG l (F.binary 1) (loopG l (F.binary 1) F.block))
def sf (l:List Tok) (N:Nat):Nat→SF
 | 0=>⟨fun _=>stop,stop,stop,stop,stop⟩
 | n + 1=>stepS l N (sf l N n)
def fileS (l:List Tok) (N:Nat) (F:SF):GN:=fileG l (declG l (variableG l (F.binary 1)) (constantG l (F.binary 1)) (structureG l N) (functionG l F.block N)) N
end Gr
end Go.Proofs.Dm
namespace Go.Proofs.Dm
open Go Go.Proofs Go.Proofs.Dm.Sc
namespace Gr
def Yp:Sty Pp.PS:=⟨fun d a=>⟨a,d,-1⟩,Pp.PS.fault⟩
structure Good (l:List Tok):Prop where
 pos:0 < l.length
 len:l.length < 100000000
 last:(tokAt l (l.length - 1)).kind=7
def advP:M Pp.PS Int:=fun p=>some (Pp.tk (Pp.skip p),Pp.skip p)
def isP (l:List Tok) (s:ByteArray):M Pp.PS Bool:=fun p=>(Pp.isW l p s).map fun b=>(b,p)
def lookP (l:List Tok) (k:Int):M Pp.PS Tok:=fun p=>(Pp.peek l p k).map fun t=>(t,p)
def hereP:M Pp.PS Int:=fun p=>some (p.at_,p)
def kindM (l:List Tok) (k:Int):M Pp.PS Int:=fun p=>(Pp.kindP l p k).map fun q=>(Pp.tk q,q)
def wantM (l:List Tok) (s:ByteArray):M Pp.PS Int:=fun p=>(Pp.want l p s).map fun q=>(Pp.tk q,q)
def semisM (l:List Tok) (n:Nat):M Pp.PS Unit:=fun p=>(Pp.semis l n p).map fun q=>((),q)
def nestP {α:Type} (m:M Pp.PS α):M Pp.PS α:=fun p=>(m (Pp.openP p)).bind fun r=>some (r.1,Pp.closeP r.2)
def badP {α:Type} (m:M Pp.PS α):M Pp.PS α:=fun p=>m (Pp.bad p)
variable {α β:Type} {l:List Tok} {d:Nat}
theorem mb_adv (f:Int→M Pp.PS β):mb advP f=fun p=>f (Pp.tk (Pp.skip p)) (Pp.skip p):=rfl
theorem mb_is (s:ByteArray) (f:Bool→M Pp.PS β):mb (isP l s) f=fun p=>(Pp.isW l p s).bind fun b=>f b p:=by
 funext p;simp only[mb,isP];cases Pp.isW l p s <;> rfl
theorem mb_look (k:Int) (f:Tok→M Pp.PS β):mb (lookP l k) f=fun p=>(Pp.peek l p k).bind fun b=>f b p:=by
 funext p;simp only[mb,lookP];cases Pp.peek l p k <;> rfl
theorem mb_here (f:Int→M Pp.PS β):mb hereP f=fun p=>f p.at_ p:=rfl
theorem mb_kind (k:Int) (f:Int→M Pp.PS β):mb (kindM l k) f=fun p=>(Pp.kindP l p k).bind fun q=>f (Pp.tk q) q:=by
 funext p;simp only[mb,kindM];cases Pp.kindP l p k <;> rfl
theorem mb_want (s:ByteArray) (f:Int→M Pp.PS β):mb (wantM l s) f=fun p=>(Pp.want l p s).bind fun q=>f (Pp.tk q) q:=by
 funext p;simp only[mb,wantM];cases Pp.want l p s <;> rfl
theorem mb_semis (n:Nat) (f:Unit→M Pp.PS β):mb (semisM l n) f=fun p=>(Pp.semis l n p).bind fun q=>f () q:=by
 funext p;simp only[mb,semisM];cases Pp.semis l n p <;> rfl
theorem mb_nest (m:M Pp.PS α) (f:α→M Pp.PS β):mb (nestP m) f=fun p=>(m (Pp.openP p)).bind fun r=>f r.1 (Pp.closeP r.2):=by
 funext p;simp only[mb,nestP];cases m (Pp.openP p)<;> rfl
theorem i64w (n:Nat) (h:n < 4611686018427387904):w64 (n:Int)=n:=w64_id (by omega) (by omega)
theorem tok_lt (a:Nat) (h:a < l.length):l[a]? =some (tokAt l a):=by
 simp[tokAt,List.getElem?_eq_getElem h]
theorem tok_ge (a:Nat) (h:l.length≤a):tokAt l a=endT:=by
 simp[tokAt,List.getElem?_eq_none h]
theorem peek_emb (hg:Good l) (a k:Nat) (ha:a < l.length) (hk:k < 100):Pp.peek l (Yp.emb d a) k=some (tokAt l (a + k)):=by
 have hl:=hg.len;show Pp.peek l ⟨(a:Int),(d:Int),-1⟩ k=_;unfold Pp.peek;dsimp only;rw[if_neg (by decide)];have e:w64 ((a:Int)+ k)=((a + k:Nat):Int):=by rw[←Int.natCast_add];exact i64w _ (by omega)
 rw[e]
 by_cases h:l.length≤a + k
 ·rw[if_pos (by omega),tok_ge _ h]
 ·rw[if_neg (by omega),if_pos (by omega)];rw[Int.toNat_natCast];exact tok_lt (a + k) (by omega)
theorem peek_flt (p:Pp.PS) (k:Int) (h:0≤p.fault):Pp.peek l p k=some endT:=by simp only[Pp.peek];rw[if_pos h]
theorem word_end (s:ByteArray):Pp.word endT s=false:=by simp[Pp.word,endT]
theorem isW_emb (hg:Good l) (s:ByteArray) (a:Nat) (ha:a < l.length):Pp.isW l (Yp.emb d a) s=some (Pp.word (tokAt l a) s):=by
 have:=peek_emb (d:=d) hg a 0 ha (by decide);simp only[Pp.isW];rw[show((0:Nat):Int)=0 from rfl]at this;rw[this];rfl
theorem isW_flt (s:ByteArray) (p:Pp.PS) (h:0≤p.fault):Pp.isW l p s=some false:=by
 simp only[Pp.isW,peek_flt p 0 h,Option.map_some,word_end]
theorem skip_emb (hg:Good l) (a:Nat) (ha:a < l.length):Pp.skip (Yp.emb d a)=Yp.emb d (a + 1):=by
 have hl:=hg.len;simp only[Yp,Pp.skip,Pp.PS.mk.injEq,and_true];have:w64 ((a:Int)+ 1)=((a + 1:Nat):Int):=by rw[show((a:Int)+ 1)=((a + 1:Nat):Int)by omega];exact i64w _ (by omega)
 exact this
theorem tk_emb (hg:Good l) (a:Nat) (ha:a < l.length):Pp.tk (Yp.emb d (a + 1))=a:=by
 have hl:=hg.len;simp only[Pp.tk,Yp];rw[show((a + 1:Nat):Int)- 1=(a:Int)by omega];exact i64w _ (by omega)
theorem next_lt (hg:Good l) (a:Nat) (ha:a < l.length) (h:(tokAt l a).kind≠7):a + 1 < l.length:=by
 rcases Nat.lt_or_ge (a + 1) l.length with q | q
 ·exact q
 ·exfalso
  have:a=l.length - 1:=by omega
  rw[this]at h;exact h hg.last
theorem word_kind {t:Tok} {s:ByteArray} (h:Pp.word t s=true):t.kind=4∨t.kind=5:=by
 simp only[Pp.word,Bool.and_eq_true,Bool.or_eq_true,beq_iff_eq]at h;exact h.1
theorem bad_flt (p:Pp.PS) (h:0≤p.fault):Pp.bad p=p:=by simp only[Pp.bad];rw[if_neg (by omega)]
theorem bad_emb (a:Nat):(Pp.bad (Yp.emb d a)).fault=a:=by simp[Yp,Pp.bad]
theorem adv_agr (hg:Good l):Agr Yp l.length d T (adv l) advP:=by
 intro a ha;simp only[adv];split
 ·exact True.intro
 ·rename_i h;have h':(tokAt l a).kind≠7:=by simpa using h
  refine⟨next_lt hg a ha h',?_,True.intro⟩;simp only[advP,skip_emb hg a ha,tk_emb hg a ha]
theorem adv_tame:Tame Yp T advP:=fun p _=>⟨_,_,rfl,rfl,True.intro⟩
theorem is_agr (hg:Good l) (s:ByteArray):Agr Yp l.length d T (isG l s) (isP l s):=fun a ha=>⟨ha,by simp only[isP,isW_emb hg s a ha];rfl,True.intro⟩
theorem is_tame (s:ByteArray):Tame Yp T (isP l s):=fun p h=>⟨false,p,by simp only[isP,isW_flt s p h];rfl,rfl,True.intro⟩
theorem look_agr (hg:Good l) (k:Nat) (hk:k < 100):Agr Yp l.length d T (look l k) (lookP l k):=fun a ha=>⟨ha,by simp only[lookP,peek_emb hg a k ha hk];rfl,True.intro⟩
theorem look_tame (k:Int):Tame Yp T (lookP l k):=fun p h=>⟨endT,p,by simp only[lookP,peek_flt p k h];rfl,rfl,True.intro⟩
theorem look_tame' (k:Int):Tame Yp (fun t=>t=endT) (lookP l k):=fun p h=>⟨endT,p,by simp only[lookP,peek_flt p k h];rfl,rfl,rfl⟩
theorem is_tame' (s:ByteArray):Tame Yp (fun b=>b=false) (isP l s):=fun p h=>⟨false,p,by simp only[isP,isW_flt s p h];rfl,rfl,rfl⟩
theorem here_agr:Agr Yp l.length d T here hereP:=fun a ha=>⟨ha,rfl,True.intro⟩
theorem here_tame:Tame Yp T hereP:=fun p h=>⟨_,p,rfl,rfl,True.intro⟩
theorem kind_agr (hg:Good l) (k:Int):Agr Yp l.length d T (kindG l k) (kindM l k):=by
 intro a ha;have hp:=peek_emb (d:=d) hg a 0 ha (by decide);rw[show((0:Nat):Int)=0 from rfl,Nat.add_zero]at hp;simp only[kindG,kindM,Pp.kindP,hp,Option.map_some];cases h:(tokAt l a).kind==k with
 | true=>
  rw[if_pos rfl];have h':(tokAt l a).kind=k:=by simpa using h
  cases h7:k==7 with
  | true=>exact True.intro
  | false=>
   have h7':k≠7:=by simpa using h7
   refine⟨next_lt hg a ha (by rw[h'];exact h7'),?_,True.intro⟩;have e:((tokAt l a).kind !=k || decide (0≤(Yp.emb d a).fault))=false:=by simp[h',Yp]
   rw[e];simp only[Bool.false_eq_true,if_false,skip_emb hg a ha,tk_emb hg a ha]
 | false=>
  rw[if_neg (by simp)];have e:((tokAt l a).kind !=k || decide (0≤(Yp.emb d a).fault))=true:=by
   have:((tokAt l a).kind !=k)=true:=by simp only[bne,h];rfl
   rw[this];rfl
  rw[e];simp only[if_true];exact⟨_,_,rfl,by show(Pp.skip _).fault=_;simp only[Pp.skip];exact bad_emb a,True.intro⟩
theorem kind_tame (k:Int):Tame Yp T (kindM l k):=by
 intro p h;have h:0≤p.fault:=h;refine⟨_,_,by simp only[kindM,Pp.kindP,peek_flt p 0 h,Option.map_some];rfl,?_,True.intro⟩;simp only[h,decide_true,Bool.or_true,if_true,bad_flt p h];rfl
theorem want_agr (hg:Good l) (s:ByteArray):Agr Yp l.length d T (wantG l s) (wantM l s):=by
 intro a ha;simp only[wantG,wantM,Pp.want,isW_emb hg s a ha,Option.map_some];cases h:Pp.word (tokAt l a) s with
 | true=>
  simp only[if_true];refine⟨next_lt hg a ha (by rcases word_kind h with q | q <;> rw[q] <;> decide),?_,True.intro⟩;simp only[skip_emb hg a ha,tk_emb hg a ha]
 | false=>
  simp only[Bool.false_eq_true,if_false];exact⟨_,_,rfl,by show(Pp.skip _).fault=_;simp only[Pp.skip];exact bad_emb a,True.intro⟩
theorem want_tame (s:ByteArray):Tame Yp T (wantM l s):=by
 intro p h;have h:0≤p.fault:=h;refine⟨_,_,by simp only[wantM,Pp.want,isW_flt s p h,Option.map_some];rfl,?_,True.intro⟩;simp only[Bool.false_eq_true,if_false,bad_flt p h];rfl
theorem semis_tame (n:Nat):Tame Yp T (semisM l (n + 1)):=by
 intro p h;have h:0≤p.fault:=h;refine⟨(),p,?_,rfl,True.intro⟩;simp only[semisM,Pp.semis,peek_flt p 0 h,Option.bind_some];rfl
theorem semis_agr (hg:Good l):∀n,Agr Yp l.length d T (semisG l n) (semisM l (n + 1))
 | 0=>Agr.out
 | n + 1=>by
  intro a ha;have hp:=peek_emb (d:=d) hg a 0 ha (by decide);rw[show((0:Nat):Int)=0 from rfl,Nat.add_zero]at hp;simp only[semisG];cases h:(tokAt l a).kind==6 with
  | false=>
   refine⟨ha,?_,True.intro⟩;simp only[semisM,Pp.semis,hp,Option.bind_some,h,Bool.false_eq_true,if_false,Option.map_some]
  | true=>
   have h6:(tokAt l a).kind=6:=by simpa using h
   have ih:=semis_agr hg n (a + 1) (next_lt hg a ha (by rw[h6];decide));have e:semisM l (n + 1 + 1) (Yp.emb d a)=semisM l (n + 1) (Yp.emb d (a + 1)):=by
    have hs:=skip_emb (d:=d) hg a ha;simp only[Pp.skip]at hs;simp only[semisM];rw[Pp.semis];rw[hp];simp only[Option.bind_some,h,if_true,hs]
   rw[e];simp only[if_true];exact ih
theorem nest_tame {Q:α→Prop} {m:M Pp.PS α} (hm:Tame Yp Q m):Tame Yp Q (nestP m):=by
 intro p h;have h:0≤p.fault:=h;have ho:(Pp.openP p).fault=p.fault:=by
  simp only[Pp.openP];split
  ·rw[bad_flt ⟨p.at_,w64 (p.deep + 1),p.fault⟩ h]
  ·rfl
 obtain⟨x,q,h1,h2,h3⟩:=hm (Pp.openP p) (by show 0≤(Pp.openP p).fault;rw[ho];exact h);refine⟨x,Pp.closeP q,by simp only[nestP,h1];rfl,?_,h3⟩;show q.fault=p.fault;rw[←ho];exact h2
theorem nest_agr {Q:α→Prop} {s:G α} {m:M Pp.PS α} (hd:d≤40) (h:d + 1≤40→Agr Yp l.length (d + 1) Q s m) (hm:Tame Yp Q m):Agr Yp l.length d Q (nest s) (nestP m):=by
 have e:w64 ((d:Int)+ 1)=((d + 1:Nat):Int):=by rw[show((d:Int)+ 1)=((d + 1:Nat):Int)by omega];exact i64w _ (by omega)
 refine Agr.nest (op:=Pp.openP) (cl:=Pp.closeP) (fun q=>h (by omega)) hm (fun a _ hd=> ?_) (fun a _ hd=> ?_) (fun a _ hd=> ?_) (fun p=>rfl)
 ·show Pp.openP ⟨(a:Int),(d:Int),-1⟩=_;unfold Pp.openP;dsimp only;rw[e,if_neg (by omega)];rfl
 ·show(Pp.openP ⟨(a:Int),(d:Int),-1⟩).fault=_;unfold Pp.openP;dsimp only;rw[e,if_pos (by omega)];rfl
 ·show Pp.closeP ⟨(a:Int),((d + 1:Nat):Int),-1⟩=_;unfold Pp.closeP;dsimp only;rw[show((d + 1:Nat):Int)- 1=(d:Int)by omega,i64w _ (by omega)];rfl
theorem badP_agr {Q:α→Prop} {m:M Pp.PS α} (hm:Tame Yp Q m):Agr Yp l.length d Q fail (badP m):=by
 intro a ha;have hb:=bad_emb (d:=d) a;obtain⟨x,p,h1,h2,h3⟩:=hm (Pp.bad (Yp.emb d a)) (by show 0≤(Pp.bad _).fault;rw[hb];omega);exact⟨x,p,h1,by rw[h2];exact hb,h3⟩
theorem badP_tame {Q:α→Prop} {m:M Pp.PS α} (hm:Tame Yp Q m):Tame Yp Q (badP m):=by
 intro p h;have h:0≤p.fault:=h;simp only[badP,bad_flt p h];exact hm p h
end Gr
end Go.Proofs.Dm
namespace Go.Proofs.Dm
open Go Go.Proofs Go.Proofs.Dm.Sc
namespace Gr
def tokG (l:List Tok):G Tok:=fun _ a=> .ok (tokAt l a) a
def rest2 (l:List Tok) (E:GN):GN:=bind here fun f=>bind E fun x=>bind (isG l ⟨#[61]⟩) fun b=>ite b (bind (adv l) fun t=>bind E fun y=>pure (Nd.mk 13 t [x,y])) (pure (Nd.mk 12 f [x]))
def exprL2 (l:List Tok) (X:GN) (k:Int):Nat→Nd→GN
 | 0,_=>stop
 | n + 1,x=>bind (tokG l) fun t=>ite (t.kind==4) (ite (Pp.rank t.text==k) (bind (adv l) fun o=>bind X fun y=>exprL2 l X k n (.mk 24 o [x,y])) (pure x)) (pure x)
def exprT2 (l:List Tok) (U:GN) (N:Nat):Nat→GN
 | 0=>U
 | j + 1=>bind (exprT2 l U N j) fun x=>exprL2 l (exprT2 l U N j) (5 -(j:Int)) N x
structure SF2 where
 unary:GN
 block:GN
 ifs:GN
 stmt:GN
def exprE2 (l:List Tok) (N:Nat) (U:GN):GN:=exprT2 l U N 5
end Gr
end Go.Proofs.Dm

