/- Part of the proof: contracts of the functions, walked by the D-machine. No condition. -/
import Derived.Test.YtmlhdhpjcipcdaaGreatDoorGax
set_option linter.unusedSimpArgs false
set_option linter.unusedVariables false
set_option maxHeartbeats 4000000
namespace Go.Proofs.Dm
open Go Go.Proofs Go.Proofs.Dm.Sc
namespace Gr
variable {α β:Type} {l:List Tok}
def Fin (L a:Nat) (r:Res α):Prop:=match r with
 | .ok _ a'=>a≤a'∧a' < L
 | .bad k=>k < L
 | .out=>False
def FinS (L a:Nat) (r:Res α):Prop:=match r with
 | .ok _ a'=>a < a'∧a' < L
 | .bad k=>k < L
 | .out=>False
def W (l:List Tok) (b:Nat) (P:Nat→Prop) (s:G α):Prop:=∀d a,a < l.length→l.length≤a + b→P a→Fin l.length a (s d a)
def WS (l:List Tok) (b:Nat) (P:Nat→Prop) (s:G α):Prop:=∀d a,a < l.length→l.length≤a + b→P a→FinS l.length a (s d a)
def Any:Nat→Prop:=fun _=>True
variable {b:Nat} {P:Nat→Prop}
theorem Fin.step {L a a':Nat} {r:Res α} (h:a≤a') (q:Fin L a' r):Fin L a r:=by
 cases r with
 | ok x c=>exact⟨by have:=q.1;omega,q.2⟩
 | bad k=>exact q
 | out=>exact q
theorem Fin.stepS {L a a':Nat} {r:Res α} (h:a < a') (q:Fin L a' r):FinS L a r:=by
 cases r with
 | ok x c=>exact⟨by have:=q.1;omega,q.2⟩
 | bad k=>exact q
 | out=>exact q
theorem FinS.fin {L a:Nat} {r:Res α} (q:FinS L a r):Fin L a r:=by
 cases r with
 | ok x c=>exact⟨by have:=q.1;omega,q.2⟩
 | bad k=>exact q
 | out=>exact q
theorem WS.w {s:G α} (h:WS l b P s):W l b P s:=fun d a h1 h2 h3=>(h d a h1 h2 h3).fin
theorem W.use {b':Nat} {s:G α} (h:W l b' Any s) (hb:b≤b'):W l b P s:=fun d a h1 h2 _=>h d a h1 (by omega) True.intro
theorem W.bind {s:G α} {t:α→G β} (h:W l b P s) (ht:∀x,W l b Any (t x)):W l b P (Gr.bind s t):=by
 intro d a h1 h2 h3;have q:=h d a h1 h2 h3;unfold Gr.bind;cases hs:s d a with
 | ok x a'=>rw[hs]at q;exact(ht x d a' q.2 (by have:=q.1;omega) True.intro).step q.1
 | bad k=>rw[hs]at q;exact q
 | out=>rw[hs]at q;exact q
theorem W.bindS {s:G α} {t:α→G β} (h:WS l b P s) (ht:∀x,W l (b - 1) Any (t x)):WS l b P (Gr.bind s t):=by
 intro d a h1 h2 h3;have q:=h d a h1 h2 h3;unfold Gr.bind;cases hs:s d a with
 | ok x a'=>rw[hs]at q;exact(ht x d a' q.2 (by have:=q.1;omega) True.intro).stepS q.1
 | bad k=>rw[hs]at q;exact q
 | out=>rw[hs]at q;exact q
theorem WS.advQ (hg:Good l) {Q:Nat→Prop} {t:Int→G β} (hP:∀a,P a→(tokAt l a).kind≠7) (hQ:∀a,P a→Q (a + 1)) (ht:∀x,W l (b - 1) Q (t x)):WS l b P (Gr.bind (Gr.adv l) t):=by
 intro d a h1 h2 h3;have h7:=hP a h3;have:((tokAt l a).kind==7)=false:=by simpa using h7
 simp only[Gr.bind,Gr.adv,this,Bool.false_eq_true,if_false,Res.andThen];have h4:=next_lt hg a h1 h7;exact(ht _ d (a + 1) h4 (by omega) (hQ a h3)).stepS (by omega)
theorem W.advQ (hg:Good l) {Q:Nat→Prop} {t:Int→G β} (hP:∀a,P a→(tokAt l a).kind≠7) (hQ:∀a,P a→Q (a + 1)) (ht:∀x,W l (b - 1) Q (t x)):W l b P (Gr.bind (Gr.adv l) t):=(WS.advQ hg hP hQ ht).w
theorem W.adv (hg:Good l) {t:Int→G β} (hP:∀a,P a→(tokAt l a).kind≠7) (ht:∀x,W l (b - 1) Any (t x)):W l b P (Gr.bind (Gr.adv l) t):=W.advQ hg hP (fun _ _=>True.intro) ht
theorem W.kind (hg:Good l) {k:Int} (hk:k≠7) {t:Int→G β} (ht:∀x,W l (b - 1) Any (t x)):W l b P (Gr.bind (kindG l k) t):=by
 intro d a h1 h2 h3;cases h:(tokAt l a).kind==k with
 | true=>
  have h':(tokAt l a).kind=k:=by simpa using h
  have h7:(k==7)=false:=by simpa using hk
  simp only[Gr.bind,kindG,h,if_true,h7,Bool.false_eq_true,if_false,Res.andThen];have h4:=next_lt hg a h1 (by rw[h'];exact hk);exact(ht _ d (a + 1) h4 (by omega) True.intro).step (by omega)
 | false=>
  simp only[Gr.bind,kindG,h,Bool.false_eq_true,if_false,Res.andThen];exact h1
theorem ne_word {t:Tok} {s:ByteArray} (h:Pp.word t s=true):t.kind≠7:=by
 rcases word_kind h with q | q <;> rw[q] <;> decide
theorem W.want0 (hg:Good l) {s:ByteArray} {t:Int→G β} (ht:∀x,W l (b - 1) Any (t x)):W l b P (Gr.bind (wantG l s) t):=by
 intro d a h1 h2 h3;cases h:Pp.word (tokAt l a) s with
 | true=>
  simp only[Gr.bind,wantG,h,if_true,Res.andThen];have h4:=next_lt hg a h1 (ne_word h);exact(ht _ d (a + 1) h4 (by omega) True.intro).step (by omega)
 | false=>
  simp only[Gr.bind,wantG,h,Bool.false_eq_true,if_false,Res.andThen];exact h1
theorem W.pure {x:α}:W l b P (Gr.pure x):=fun d a h1 h2 h3=>⟨Nat.le_refl _,h1⟩
theorem W.fail:W l b P (Gr.fail:G α):=fun d a h1 h2 h3=>h1
theorem W.isI {w:ByteArray} {s t:G α} (h1:W l b (fun a=>P a∧Pp.word (tokAt l a) w=true) s) (h2:W l b P t):W l b P (Gr.bind (isG l w) fun c=>Gr.ite c s t):=by
 intro d a q1 q2 q3;cases h:Pp.word (tokAt l a) w with
 | true=>simp only[Gr.bind,isG,h,Res.andThen,Gr.ite,if_true];exact h1 d a q1 q2 ⟨q3,h⟩
 | false=>simp only[Gr.bind,isG,h,Res.andThen,Gr.ite,Bool.false_eq_true,if_false];exact h2 d a q1 q2 q3
theorem W.look {k:Nat} {f:Tok→G α} (h:∀t,W l b (fun a=>P a∧tokAt l (a + k)=t) (f t)):W l b P (Gr.bind (Gr.look l k) f):=fun d a q1 q2 q3=>h _ d a q1 q2 ⟨q3,rfl⟩
theorem W.here {f:Int→G α} (h:∀t,W l b P (f t)):W l b P (Gr.bind Gr.here f):=fun d a q1 q2 q3=>h _ d a q1 q2 q3
theorem W.iteP {c:Bool} {s t:G α} (h1:c=true→W l b P s) (h2:c=false→W l b P t):W l b P (Gr.ite c s t):=by
 cases c with
 | true=>exact h1 rfl
 | false=>exact h2 rfl
theorem W.nest {s:G α} (h:W l b P s):W l b P (Gr.nest s):=by
 intro d a q1 q2 q3;unfold Gr.nest;split
 ·exact q1
 ·exact h (d + 1) a q1 q2 q3
theorem WS.nest {s:G α} (h:WS l b P s):WS l b P (Gr.nest s):=by
 intro d a q1 q2 q3;unfold Gr.nest;split
 ·exact q1
 ·exact h (d + 1) a q1 q2 q3
theorem W.semisA (hg:Good l):∀(n b:Nat),b≤n→W l b Any (semisG l n)
 | 0,b,hb=>fun d a h1 h2 h3=>by omega
 | n + 1,b,hb=>by
  intro d a h1 h2 h3;simp only[semisG];cases h:(tokAt l a).kind==6 with
  | true=>
   have h':(tokAt l a).kind=6:=by simpa using h
   simp only[if_true];have h4:=next_lt hg a h1 (by rw[h'];decide);exact(W.semisA hg n (b - 1) (by omega) d (a + 1) h4 (by omega) True.intro).step (by omega)
  | false=>simp only[Bool.false_eq_true,if_false];exact⟨Nat.le_refl _,h1⟩
theorem W.semis0 (hg:Good l) (n b:Nat) (h:b≤n) {P:Nat→Prop}:W l b P (semisG l n):=W.use (W.semisA hg n b h) (Nat.le_refl _)
theorem ne_kind {k:Nat} {Q:Nat→Prop} {t:Tok} {c:Int} (hc:c≠7) (h:(t.kind==c)=true):∀a,(Q a∧tokAt l (a + 0)=t)→(tokAt l a).kind≠7:=by
 rintro a ⟨_,rfl⟩;have:(tokAt l (a + 0)).kind=c:=by simpa using h
 rw[Nat.add_zero]at this;rw[this];exact hc
theorem ne_kind4 {Q:Nat→Prop} {t:Tok} (h:(t.kind !=4)=false):∀a,(Q a∧tokAt l (a + 0)=t)→(tokAt l a).kind≠7:=by
 rintro a ⟨_,rfl⟩;have:(tokAt l (a + 0)).kind=4:=by simpa using h
 rw[Nat.add_zero]at this;rw[this];decide
theorem W.weak {Q:Nat→Prop} {s:G α} (h:W l b Q s) (hq:∀a,P a→Q a):W l b P s:=fun d a h1 h2 h3=>h d a h1 h2 (hq a h3)
def NE (l:List Tok):Nat→Prop:=fun a=>(tokAt l a).kind≠7
theorem w_typ (hg:Good l) (b:Nat) (P:Nat→Prop):W l b P (typG l):=by
 unfold typG;refine W.kind hg (by decide) fun _=>W.isI (W.adv hg (fun a h=>ne_word h.2) fun _=>W.kind hg (by decide) fun _=>W.pure) W.pure
theorem w_variable (hg:Good l) {E:GN} (hP:∀a,P a→(tokAt l a).kind≠7) (hE:W l (b - 1) Any E):W l b P (variableG l E):=by
 unfold variableG;exact W.adv hg hP fun _=>W.kind hg (by decide) fun _=>W.bind (w_typ hg _ _) fun _=>W.isI (W.adv hg (fun a h=>ne_word h.2) fun _=>W.bind (W.use hE (by omega)) fun _=>W.pure) W.pure
theorem w_constant (hg:Good l) {E:GN} (hP:∀a,P a→(tokAt l a).kind≠7) (hE:W l (b - 1) Any E):W l b P (constantG l E):=by
 unfold constantG;exact W.adv hg hP fun _=>W.kind hg (by decide) fun _=>W.want0 hg fun _=>W.bind (W.use hE (by omega)) fun _=>W.pure
theorem curlyL_at {S:GN} {N n:Nat} (hn:1≤n) (ks:List Nd):W l b (fun a=>P a∧Pp.word (tokAt l a) ⟨#[125]⟩=true) (curlyLG l S N n ks):=by
 obtain⟨m,rfl⟩:∃m,n=m + 1:=⟨n - 1,by omega⟩
 intro d a h1 h2 h3;simp only[curlyLG,Gr.bind,isG,Res.andThen,h3.2,Gr.ite,if_true,Gr.pure];exact⟨Nat.le_refl _,h1⟩
theorem w_curlyL (hg:Good l) {S:GN} {N B:Nat} (hS:W l B Any S) (hN:B≤N):∀(n b:Nat) (ks:List Nd),b≤B→b + 1≤n→∀P,W l b P (curlyLG l S N n ks)
 | 0,b,ks,hb,hn=>by omega
 | n + 1,b,ks,hb,hn=>by
  intro P;unfold curlyLG;refine W.isI W.pure (W.bind (W.use hS (by omega)) fun x=> ?_);intro d a h1 h2 h3;exact W.isI (P:=Any) (b:=b) (curlyL_at (by omega) _) (W.kind hg (by decide) fun _=>W.bind (W.semis0 hg N (b - 1) (by omega)) fun _=>by
   intro d a h1 h2 h3;exact w_curlyL hg hS hN n (b - 1) _ (by omega) (by omega) Any d a h1 h2 True.intro) d a h1 h2 True.intro
theorem w_curly (hg:Good l) {S:GN} {N:Nat} (hS:W l (b - 1) Any S) (hN:b + 1≤N):W l b P (curlyG l S N):=by
 unfold curlyG;exact W.isI (W.nest (W.adv hg (fun a h=>ne_word h.2) fun _=>W.bind (W.semis0 hg N (b - 1) (by omega)) fun _=>W.bind (w_curlyL hg (B:=b - 1) hS (by omega) N (b - 1) [] (by omega) (by omega) _) fun _=>W.want0 hg fun _=>W.pure)) W.fail
theorem w_structure (hg:Good l) {N:Nat} (hP:∀a,P a→(tokAt l a).kind≠7) (hN:b + 1≤N):W l b P (structureG l N):=by
 unfold structureG;refine W.adv hg hP fun _=>W.kind hg (by decide) fun _=>W.want0 hg fun _=>W.bind (w_curly hg ?_ (by omega)) fun _=>W.pure
 unfold fieldG;exact W.kind hg (by decide) fun _=>W.bind (w_typ hg _ _) fun _=>W.pure
theorem w_block (hg:Good l) {S:GN} {N:Nat} (hS:W l (b - 1) Any S) (hN:b + 1≤N):W l b P (blockG l S N):=by
 unfold blockG;exact W.bind (w_curly hg hS hN) fun _=>W.pure
theorem w_funcL (hg:Good l):∀(n b:Nat) (ks:List Nd),b≤n→∀P,W l b P (funcLG l n ks)
 | 0,b,ks,hn=>fun P d a h1 h2 h3=>by omega
 | n + 1,b,ks,hn=>by
  intro P;unfold funcLG;refine W.isI W.pure (W.kind hg (by decide) fun _=>W.bind (w_typ hg _ _) fun _=>W.isI ?_ (W.want0 hg fun _=>W.isI W.fail ?_))
  ·exact w_funcL hg n (b - 1) _ (by omega) _
  ·exact w_funcL hg n (b - 1 - 1) _ (by omega) _
theorem w_function (hg:Good l) {B:GN} {N:Nat} (hP:∀a,P a→(tokAt l a).kind≠7) (hB:W l (b - 1) Any B) (hN:b≤N):W l b P (functionG l B N):=by
 unfold functionG;exact W.adv hg hP fun _=>W.kind hg (by decide) fun _=>W.want0 hg fun _=>W.bind (w_funcL hg N _ [] (by omega) _) fun _=>W.want0 hg fun _=>W.look fun _=>W.iteP (fun _=>W.bind (w_typ hg _ _) fun _=>W.bind (W.use hB (by omega)) fun _=>W.pure) (fun _=>W.bind (W.use hB (by omega)) fun _=>W.pure)
theorem w_leave (hg:Good l) {k:Int} (hP:∀a,P a→(tokAt l a).kind≠7):W l b P (leaveG l k):=by
 unfold leaveG;exact W.adv hg hP fun _=>W.look fun _=>W.iteP (fun q=>W.adv hg (ne_kind (k:=0) (by decide) q) fun _=>W.pure) (fun _=>W.pure)
theorem w_branch (hg:Good l) {E B R:GN} (hP:∀a,P a→(tokAt l a).kind≠7) (hE:W l (b - 1) Any E) (hB:W l (b - 1) Any B) (hR:W l (b - 1) (NE l) R):W l b P (branchG l E B R):=by
 unfold branchG;refine W.adv hg hP fun _=>W.bind hE fun _=>W.bind hB fun _=>W.isI (W.adv hg (fun a h=>ne_word h.2) fun _=>W.isI (W.bind (W.nest ?_) fun _=>W.pure) (W.bind (W.use hB (by omega)) fun _=>W.pure)) W.pure
 intro d a h1 h2 h3;exact hR d a h1 (by omega) (ne_word h3.2)
theorem w_loop (hg:Good l) {E B:GN} (hP:∀a,P a→(tokAt l a).kind≠7) (hE:W l (b - 1) Any E) (hB:W l (b - 1) Any B):W l b P (loopG l E B):=by
 unfold loopG;exact W.adv hg hP fun _=>W.bind hE fun _=>W.bind hB fun _=>W.pure
theorem w_back (hg:Good l) {E:GN} (hP:∀a,P a→(tokAt l a).kind≠7) (hE:W l (b - 1) Any E):W l b P (backG l E):=by
 unfold backG;exact W.adv hg hP fun _=>W.look fun _=>W.iteP (fun _=>W.pure) (fun _=>W.isI W.pure (W.bind (W.use hE (by omega)) fun _=>W.pure))
theorem w_rest (hg:Good l) {E:GN} (hE:W l b Any E):W l b P (restG l E):=by
 unfold restG;exact W.here fun _=>W.bind (W.use hE (by omega)) fun _=>W.isI (W.adv hg (fun a h=>ne_word h.2) fun _=>W.bind (W.use hE (by omega)) fun _=>W.pure) W.pure
theorem w_simple (hg:Good l) {E L:GN} (hE:W l b Any E) (hL:W l (b - 1 - 1) (NE l) L):W l b P (simpleG l E L):=by
 unfold simpleG;refine W.look fun t=>W.iteP (fun q=>W.look fun n=>W.iteP (fun q1=> ?_) (fun _=>W.iteP (fun q1=> ?_) (fun _=>w_rest hg hE))) (fun _=>w_rest hg hE)
 ·refine W.advQ hg (Q:=NE l) (fun a h=>ne_kind (k:=0) (by decide) q a h.1) (fun a h=> ?_) fun _=>W.adv hg (fun a h=>h) fun _=>W.bind (W.use hE (by omega)) fun _=>W.pure
  have:=h.2;subst this;exact ne_word q1
 ·refine W.advQ hg (Q:=NE l) (fun a h=>ne_kind (k:=0) (by decide) q a h.1) (fun a h=> ?_) fun _=>W.adv hg (fun a h=>h) fun _=>W.isI (W.bind (W.weak hL fun a h=>ne_word h.2) fun _=>W.pure) W.fail
  have:=h.2;subst this;exact ne_word q1
theorem w_stmt (hg:Good l) {V C B I L R M:GN} (hV:W l b (NE l) V) (hC:W l b (NE l) C) (hB:W l b Any B) (hI:W l b (NE l) I) (hL:W l b (NE l) L) (hR:W l b (NE l) R) (hM:W l b Any M):W l b P (stmtG l V C B I L R M):=by
 unfold stmtG;exact W.isI (W.weak hV fun a h=>ne_word h.2) (W.isI (W.weak hC fun a h=>ne_word h.2) (W.isI (W.use hB (by omega)) (W.isI (W.weak hI fun a h=>ne_word h.2) (W.isI (W.weak hL fun a h=>ne_word h.2) (W.isI (W.weak hR fun a h=>ne_word h.2)
  (W.isI (w_leave hg fun a h=>ne_word h.2) (W.isI (w_leave hg fun a h=>ne_word h.2) (W.use hM (by omega)))))))))
theorem w_decl (hg:Good l) {V C S F:GN} (hV:W l b (NE l) V) (hC:W l b (NE l) C) (hS:W l b (NE l) S) (hF:W l b (NE l) F):W l b P (declG l V C S F):=by
 unfold declG;exact W.isI (W.weak hV fun a h=>ne_word h.2) (W.isI (W.weak hC fun a h=>ne_word h.2) (W.isI (W.weak hS fun a h=>ne_word h.2) (W.isI (W.weak hF fun a h=>ne_word h.2) W.fail)))
theorem w_binaryL (hg:Good l) {Y:Int→GN} {B:Nat} (hY:∀r,W l (B - 1) Any (Y r)):∀(n b:Nat) (rk:Int) (x:Nd),b≤B→b≤n→∀P,W l b P (binaryLG l Y n rk x)
 | 0,b,rk,x,hb,hn=>fun P d a h1 h2 h3=>by omega
 | n + 1,b,rk,x,hb,hn=>by
  intro P;unfold binaryLG;exact W.look fun t=>W.iteP (fun _=>W.pure) fun q=>W.iteP (fun _=>W.pure) fun _=>W.iteP (fun _=>W.pure) fun _=>W.adv hg (ne_kind4 q) fun _=>W.bind (W.use (hY _) (by omega)) fun _=>w_binaryL hg hY n (b - 1) rk _ (by omega) (by omega) _
theorem w_binary (hg:Good l) {U:GN} {Y:Int→GN} {N:Nat} (hU:W l b Any U) (hY:∀r,W l (b - 1) Any (Y r)) (hN:b≤N) (rk:Int):W l b P (binaryG l U Y N rk):=by
 unfold binaryG;exact W.bind (W.use hU (by omega)) fun x=>w_binaryL hg hY N b rk x (by omega) hN _
theorem w_unary (hg:Good l) {U F:GN} (hU:W l (b - 1) Any U) (hF:W l b Any F):W l b P (unaryG l U F):=by
 unfold unaryG;exact W.look fun t=>W.iteP (fun _=>W.use hF (by omega)) fun q=>W.iteP (fun _=>W.nest (W.adv hg (ne_kind4 q) fun _=>W.bind (W.use hU (by omega)) fun _=>W.pure)) fun _=>W.use hF (by omega)
theorem w_first (hg:Good l) {E:GN} (hE:W l (b - 1) Any E):W l b P (firstG l E):=by
 unfold firstG;exact W.look fun t=>W.iteP (fun q=>W.adv hg (ne_kind (k:=0) (by decide) q) fun _=>W.pure) fun _=>W.iteP (fun q=>W.adv hg (ne_kind (k:=0) (by decide) q) fun _=>W.pure) fun _=>W.iteP (fun q=>W.adv hg (ne_kind (k:=0) (by decide) q) fun _=>W.pure) fun _=>
  W.isI (W.nest (W.adv hg (fun a h=>ne_word h.2) fun _=>W.bind (W.use hE (by omega)) fun _=>W.want0 hg fun _=>W.pure)) W.fail
theorem w_primL (hg:Good l) {K:Nd→GN} {B:Nat} (hK:∀b,b≤B→∀x,WS l b (NE l) (K x)):∀(n b:Nat) (x:Nd),b≤B→b≤n→∀P,W l b P (primLG l K n x)
 | 0,b,x,hb,hn=>fun P d a h1 h2 h3=>by omega
 | n + 1,b,x,hb,hn=>by
  intro P;unfold primLG;refine W.isI ?_ (W.isI (W.adv hg (fun a h=>ne_word h.2) fun _=>W.kind hg (by decide) fun _=>w_primL hg hK n (b - 1 - 1) _ (by omega) (by omega) _) W.pure);refine W.weak (Q:=NE l) ?_ fun a h=>ne_word h.2
  exact(W.bindS (hK b hb x) fun y=>w_primL hg hK n (b - 1) y (by omega) (by omega) _).w
theorem callL_at {E:GN} {n:Nat} (hn:1≤n) (ks:List Nd):W l b (fun a=>P a∧Pp.word (tokAt l a) ⟨#[41]⟩=true) (callLG l E n ks):=by
 obtain⟨m,rfl⟩:∃m,n=m + 1:=⟨n - 1,by omega⟩
 intro d a h1 h2 h3;simp only[callLG,Gr.bind,isG,Res.andThen,h3.2,Gr.ite,if_true,Gr.pure];exact⟨Nat.le_refl _,h1⟩
theorem w_callL (hg:Good l) {E:GN} {B:Nat} (hE:W l B Any E):∀(n b:Nat) (ks:List Nd),b≤B→b + 1≤n→∀P,W l b P (callLG l E n ks)
 | 0,b,ks,hb,hn=>by omega
 | n + 1,b,ks,hb,hn=>by
  intro P;unfold callLG;refine W.isI W.pure (W.bind (W.use hE (by omega)) fun x=> ?_);intro d a h1 h2 h3;exact W.isI (P:=Any) (b:=b) (callL_at (by omega) _) (W.want0 hg fun _=>W.isI W.fail (w_callL hg hE n (b - 1) _ (by omega) (by omega) _)) d a h1 h2 True.intro
theorem w_call (hg:Good l) {E:GN} {N:Nat} (hE:W l (b - 1) Any E) (hN:b + 1≤N) (x:Nd):WS l b (NE l) (callG l E N x):=by
 unfold callG;exact WS.nest (WS.advQ hg (Q:=Any) (fun a h=>h) (fun _ _=>True.intro) fun _=>W.bind (w_callL hg (B:=b - 1) hE N (b - 1) [x] (by omega) (by omega) _) fun _=>W.want0 hg fun _=>W.pure)
theorem w_prim (hg:Good l) {E:GN} {N:Nat} (hE:W l (b - 1) Any E) (hN:b + 1≤N):W l b P (primG l (firstG l E) (callG l E N) N):=by
 unfold primG;exact W.bind (w_first hg hE) fun x=>w_primL hg (B:=b) (fun c hc y=>w_call hg (W.use hE (by omega)) (by omega) y) N b x (by omega) (by omega) _
theorem w_fileI (hg:Good l) {N:Nat}:∀(n b:Nat) (ks:List Nd),b≤n→b≤N→∀P,W l b P (fileIG l N n ks)
 | 0,b,ks,hn,hN=>fun P d a h1 h2 h3=>by omega
 | n + 1,b,ks,hn,hN=>by
  intro P;unfold fileIG;exact W.isI (W.adv hg (fun a h=>ne_word h.2) fun _=>W.kind hg (by decide) fun _=>W.kind hg (by decide) fun _=>W.bind (W.semis0 hg N _ (by omega)) fun _=>w_fileI hg n _ _ (by omega) (by omega) _) W.pure
theorem w_fileD (hg:Good l) {D:GN} {N B:Nat} (hD:W l B Any D):∀(n b:Nat) (ks:List Nd),b≤B→b≤n→b≤N→∀P,W l b P (fileDG l D N n ks)
 | 0,b,ks,hb,hn,hN=>fun P d a h1 h2 h3=>by omega
 | n + 1,b,ks,hb,hn,hN=>by
  intro P;unfold fileDG;exact W.look fun t=>W.iteP (fun _=>W.bind (W.use hD (by omega)) fun _=>W.kind hg (by decide) fun _=>W.bind (W.semis0 hg N _ (by omega)) fun _=>w_fileD hg hD n (b - 1) _ (by omega) (by omega) (by omega) _) fun _=>W.pure
theorem w_file (hg:Good l) {D:GN} {N:Nat} (hD:W l b Any D) (hN:b≤N):W l b P (fileG l D N):=by
 unfold fileG;exact W.want0 hg fun _=>W.kind hg (by decide) fun _=>W.kind hg (by decide) fun _=>W.bind (W.semis0 hg N _ (by omega)) fun _=>W.bind (w_fileI hg N _ _ (by omega) (by omega) _) fun _=>W.bind (w_fileD hg (B:=b) hD N _ _ (by omega) (by omega) (by omega) _) fun _=>W.pure
structure WF (l:List Tok) (b n:Nat) (F:SF):Prop where
 unary:3 * b + 1≤n→W l b Any F.unary
 binary:3 * b + 2≤n→∀rk,W l b Any (F.binary rk)
 block:3 * b + 3≤n→W l b Any F.block
 branch:3 * b + 3≤n→W l b (NE l) F.branch
 stmt:3 * b + 4≤n→W l b Any F.stmt
theorem zeroW {s:G α} (h:b=0):W l b P s:=fun d a h1 h2 h3=>by omega
theorem sf_w (hg:Good l) {N:Nat}:∀n b,b + 2≤N→WF l b n (sf l N n)
 | 0,b,hN=>⟨fun h=>by omega,fun h=>by omega,fun h=>by omega,fun h=>by omega,fun h=>by omega⟩
 | n + 1,b,hN=>by
  have h0:=sf_w (N:=N) hg n b hN;have h1:=sf_w (N:=N) hg n (b - 1) (by omega);rcases Nat.eq_zero_or_pos b with hb | hb
  ·exact⟨fun _=>zeroW hb,fun _ _=>zeroW hb,fun _=>zeroW hb,fun _=>zeroW hb,fun _=>zeroW hb⟩
  refine⟨fun h=> ?_,fun h rk=> ?_,fun h=> ?_,fun h=> ?_,fun h=> ?_⟩
  ·exact w_unary (b:=b) hg (h1.unary (by omega)) (w_prim (b:=b) hg (h1.binary (by omega) 1) (by omega))
  ·exact w_binary (b:=b) hg (h0.unary (by omega)) (fun r=>h1.binary (by omega) r) (by omega) rk
  ·exact w_block (b:=b) hg (h1.stmt (by omega)) (by omega)
  ·exact w_branch (b:=b) hg (fun a h=>h) (h1.binary (by omega) 1) (h1.block (by omega)) (h1.branch (by omega))
  ·have e1:=h1.binary (by omega) 1;have e0:=h0.binary (by omega) 1;have b1:=h1.block (by omega);have hl:=w_loop (b:=b) (P:=NE l) hg (fun a h=>h) e1 b1;exact w_stmt (b:=b) hg (w_variable hg (fun a h=>h) e1) (w_constant hg (fun a h=>h) e1) (h0.block (by omega)) (h0.branch (by omega)) hl (w_back hg (fun a h=>h) e1)
    (w_simple hg e0 (fun d a q1 q2 q3=>hl d a q1 (by omega) q3))
theorem fileS_fin (hg:Good l) {N n:Nat} (hN:l.length + 2≤N) (hn:3 * l.length + 4≤n):Fin l.length 0 (fileS l N (sf l N n) 0 0):=by
 have h1:=sf_w hg (N:=N) n (l.length - 1) (by omega);have e1:=h1.binary (by omega) 1;have hd:=w_decl (b:=l.length) (P:=Any) hg (w_variable hg (fun a h=>h) e1) (w_constant hg (fun a h=>h) e1) (w_structure (b:=l.length) (N:=N) hg (fun a h=>h) (by omega)) (w_function hg (fun a h=>h) (h1.block (by omega)) (by omega:l.length≤N));exact w_file (b:=l.length) (P:=Any) hg hd (by omega) 0 0 hg.pos (by omega) True.intro
end Gr
end Go.Proofs.Dm
set_option maxHeartbeats 4000000
namespace Go.Proofs.Dm
open Go Go.Proofs Go.Proofs.Dm.Sc
namespace Gr
inductive Small (B:Nat):Nd→Prop
 | mk {k t:Int} {ks:List Nd} (h1:ks.length≤B) (h2:∀x∈ks,Small B x):Small B (.mk k t ks)
variable {α β:Type} {l:List Tok} {B:Nat}
def Po (Q:α→Prop) (s:G α):Prop:=∀d a x a',s d a= .ok x a'→Q x
theorem Po.bind {Q:α→Prop} {R:β→Prop} {s:G α} {t:α→G β} (h:Po Q s) (ht:∀x,Q x→Po R (t x)):Po R (Gr.bind s t):=by
 intro d a x a' q;simp only[Gr.bind]at q;cases hs:s d a with
 | ok y a1=>rw[hs]at q;exact ht y (h d a y a1 hs) d a1 x a' q
 | bad k=>rw[hs]at q;cases q
 | out=>rw[hs]at q;cases q
theorem Po.on {R:β→Prop} {s:G α} {t:α→G β} (ht:∀x,Po R (t x)):Po R (Gr.bind s t):=Po.bind (Q:=fun _=>True) (fun _ _ _ _ _=>True.intro) fun x _=>ht x
theorem Po.ite {Q:α→Prop} {c:Bool} {s t:G α} (h1:Po Q s) (h2:Po Q t):Po Q (Gr.ite c s t):=by cases c <;> assumption
theorem Po.pure {Q:α→Prop} {x:α} (h:Q x):Po Q (Gr.pure x):=by
 intro d a y a' q;injection q with q1 q2
 subst q1;exact h
theorem Po.fail {Q:α→Prop}:Po Q (Gr.fail:G α):=fun d a y a' q=>by cases q
theorem Po.stop {Q:α→Prop}:Po Q (Gr.stop:G α):=fun d a y a' q=>by cases q
theorem Po.nest {Q:α→Prop} {s:G α} (h:Po Q s):Po Q (Gr.nest s):=by
 intro d a y a' q;unfold Gr.nest at q;split at q
 ·cases q
 ·exact h _ _ _ _ q
abbrev PS (B:Nat) (s:GN):Prop:=Po (Small B) s
def SL (B n:Nat) (ks:List Nd):Prop:=ks.length≤n∧∀x∈ks,Small B x
theorem sm0 {k t:Int}:Small B (.mk k t []):= .mk (Nat.zero_le _) fun x h=>by cases h
theorem sm1 {k t:Int} {x:Nd} (hB:3≤B) (h:Small B x):Small B (.mk k t [x]):= .mk (by simp;omega) fun y hy=>by
 simp only[List.mem_singleton]at hy;subst hy;exact h
theorem sm2 {k t:Int} {x y:Nd} (hB:3≤B) (h:Small B x) (g:Small B y):Small B (.mk k t [x,y]):= .mk (by simp;omega) fun z hz=>by
 simp only[List.mem_cons,List.not_mem_nil,or_false]at hz;rcases hz with rfl | rfl <;> assumption
theorem sm3 {k t:Int} {x y z:Nd} (hB:3≤B) (h:Small B x) (g:Small B y) (i:Small B z):Small B (.mk k t [x,y,z]):= .mk (by simp;omega) fun w hw=>by
 simp only[List.mem_cons,List.not_mem_nil,or_false]at hw;rcases hw with rfl | rfl | rfl <;> assumption
theorem SL.small {n:Nat} {ks:List Nd} {k t:Int} (h:SL B n ks) (hn:n≤B):Small B (.mk k t ks):= .mk (by have:=h.1;omega) h.2
theorem SL.add {n:Nat} {ks:List Nd} {x:Nd} (h:SL B n ks) (hx:Small B x):SL B (n + 1) (ks ++ [x]):=by
 refine⟨by simp;exact h.1,fun y hy=> ?_⟩;simp only[List.mem_append,List.mem_singleton]at hy;rcases hy with q | rfl
 ·exact h.2 y q
 ·exact hx
theorem SL.nil:SL B 0 []:=⟨Nat.le_refl _,fun x h=>by cases h⟩
theorem SL.one {x:Nd} (hx:Small B x):SL B 1 [x]:=⟨by simp,fun y hy=>by
 simp only[List.mem_singleton]at hy;subst hy;exact hx⟩
theorem SL.le {n m:Nat} {ks:List Nd} (h:SL B n ks) (hm:n≤m):SL B m ks:=⟨by have:=h.1;omega,h.2⟩
theorem po_typ (hB:3≤B):PS B (typG l):=Po.on fun _=>Po.on fun _=>Po.ite (Po.on fun _=>Po.on fun _=>Po.pure (sm1 hB sm0)) (Po.pure sm0)
theorem po_variable (hB:3≤B) {E:GN} (hE:PS B E):PS B (variableG l E):=Po.on fun _=>Po.on fun _=>Po.bind (po_typ hB) fun _ h=>Po.on fun _=>Po.ite (Po.on fun _=>Po.bind hE fun _ g=>Po.pure (sm2 hB h g)) (Po.pure (sm1 hB h))
theorem po_constant (hB:3≤B) {E:GN} (hE:PS B E):PS B (constantG l E):=Po.on fun _=>Po.on fun _=>Po.on fun _=>Po.bind hE fun _ g=>Po.pure (sm1 hB g)
theorem po_curlyL (hB:3≤B) {S:GN} (hS:PS B S) {N:Nat}:∀(n m:Nat) (ks:List Nd),SL B m ks→Po (SL B (m + n)) (curlyLG l S N n ks)
 | 0,m,ks,h=>Po.stop
 | n + 1,m,ks,h=>by
  unfold curlyLG;have e:m +(n + 1)=m + 1 + n:=by omega
  rw[e];exact Po.on fun _=>Po.ite (Po.pure (h.le (by omega))) (Po.bind hS fun x g=>Po.on fun _=>Po.ite (po_curlyL hB hS n (m + 1) _ (h.add g)) (Po.on fun _=>Po.on fun _=>po_curlyL hB hS n (m + 1) _ (h.add g)))
theorem po_curly (hB:3≤B) {S:GN} (hS:PS B S) {N:Nat}:Po (fun r:Int×List Nd=>SL B N r.2) (curlyG l S N):=
 Po.on fun _=>Po.ite (Po.nest (Po.on fun _=>Po.on fun _=>Po.bind (po_curlyL hB hS N 0 [] SL.nil) fun ks h=>Po.on fun _=>Po.pure (by rw[Nat.zero_add]at h;exact h))) Po.fail
theorem po_block (hB:3≤B) {S:GN} (hS:PS B S) {N:Nat} (hN:N≤B):PS B (blockG l S N):=Po.bind (po_curly hB hS) fun _ h=>Po.pure (SL.small h hN)
theorem po_field (hB:3≤B):PS B (fieldG l):=Po.on fun _=>Po.bind (po_typ hB) fun _ h=>Po.pure (sm1 hB h)
theorem po_structure (hB:3≤B) {N:Nat} (hN:N≤B):PS B (structureG l N):=Po.on fun _=>Po.on fun _=>Po.on fun _=>Po.bind (po_curly hB (po_field hB)) fun _ h=>Po.pure (SL.small h hN)
theorem po_funcL (hB:3≤B):∀(n m:Nat) (ks:List Nd),SL B m ks→Po (SL B (m + n)) (funcLG l n ks)
 | 0,m,ks,h=>Po.stop
 | n + 1,m,ks,h=>by
  unfold funcLG;have e:m +(n + 1)=m + 1 + n:=by omega
  rw[e];exact Po.on fun _=>Po.ite (Po.pure (h.le (by omega))) (Po.on fun _=>Po.bind (po_typ hB) fun x g=>Po.on fun _=>Po.ite (po_funcL hB n (m + 1) _ (h.add (sm1 hB g))) (Po.on fun _=>Po.on fun _=>Po.ite Po.fail (po_funcL hB n (m + 1) _ (h.add (sm1 hB g)))))
theorem po_function (hB:3≤B) {C:GN} (hC:PS B C) {N:Nat} (hN:N + 2≤B):PS B (functionG l C N):=
 Po.on fun _=>Po.on fun _=>Po.on fun _=>Po.bind (po_funcL hB N 0 [] SL.nil) fun ks h=>Po.on fun _=>Po.on fun _=>Po.ite (Po.bind (po_typ hB) fun _ g=>Po.bind hC fun _ i=>Po.pure (SL.small ((h.add g).add i) (by omega))) (Po.bind hC fun _ i=>Po.pure (SL.small (h.add i) (by omega)))
theorem po_leave (hB:3≤B) (k:Int):PS B (leaveG l k):=Po.on fun _=>Po.on fun _=>Po.ite (Po.on fun _=>Po.pure (sm1 hB sm0)) (Po.pure sm0)
theorem po_branch (hB:3≤B) {E C R:GN} (hE:PS B E) (hC:PS B C) (hR:PS B R):PS B (branchG l E C R):=
 Po.on fun _=>Po.bind hE fun _ e=>Po.bind hC fun _ c=>Po.on fun _=>Po.ite (Po.on fun _=>Po.on fun _=>Po.ite (Po.bind (Po.nest hR) fun _ r=>Po.pure (sm3 hB e c r)) (Po.bind hC fun _ r=>Po.pure (sm3 hB e c r))) (Po.pure (sm2 hB e c))
theorem po_loop (hB:3≤B) {E C:GN} (hE:PS B E) (hC:PS B C):PS B (loopG l E C):=Po.on fun _=>Po.bind hE fun _ e=>Po.bind hC fun _ c=>Po.pure (sm2 hB e c)
theorem po_back (hB:3≤B) {E:GN} (hE:PS B E):PS B (backG l E):=Po.on fun _=>Po.on fun _=>Po.ite (Po.pure sm0) (Po.on fun _=>Po.ite (Po.pure sm0) (Po.bind hE fun _ e=>Po.pure (sm1 hB e)))
theorem po_rest (hB:3≤B) {E:GN} (hE:PS B E):PS B (restG l E):=Po.on fun _=>Po.bind hE fun _ e=>Po.on fun _=>Po.ite (Po.on fun _=>Po.bind hE fun _ f=>Po.pure (sm2 hB e f)) (Po.pure (sm1 hB e))
theorem po_simple (hB:3≤B) {E L:GN} (hE:PS B E) (hL:PS B L):PS B (simpleG l E L):=
 Po.on fun _=>Po.ite (Po.on fun _=>Po.ite (Po.on fun _=>Po.on fun _=>Po.bind hE fun _ e=>Po.pure (sm1 hB e)) (Po.ite (Po.on fun _=>Po.on fun _=>Po.on fun _=>Po.ite (Po.bind hL fun _ e=>Po.pure (sm1 hB e)) Po.fail) (po_rest hB hE))) (po_rest hB hE)
theorem po_stmt (hB:3≤B) {V C K I L R M:GN} (hV:PS B V) (hC:PS B C) (hK:PS B K) (hI:PS B I) (hL:PS B L) (hR:PS B R) (hM:PS B M):PS B (stmtG l V C K I L R M):=
 Po.on fun _=>Po.ite hV (Po.on fun _=>Po.ite hC (Po.on fun _=>Po.ite hK (Po.on fun _=>Po.ite hI (Po.on fun _=>Po.ite hL (Po.on fun _=>Po.ite hR (Po.on fun _=>Po.ite (po_leave hB 17) (Po.on fun _=>Po.ite (po_leave hB 18) hM)))))))
theorem po_decl (hB:3≤B) {V C S F:GN} (hV:PS B V) (hC:PS B C) (hS:PS B S) (hF:PS B F):PS B (declG l V C S F):=
 Po.on fun _=>Po.ite hV (Po.on fun _=>Po.ite hC (Po.on fun _=>Po.ite hS (Po.on fun _=>Po.ite hF Po.fail)))
theorem po_binaryL (hB:3≤B) {Y:Int→GN} (hY:∀r,PS B (Y r)):∀(n:Nat) (rk:Int) (x:Nd),Small B x→PS B (binaryLG l Y n rk x)
 | 0,rk,x,h=>Po.stop
 | n + 1,rk,x,h=>by
  unfold binaryLG;exact Po.on fun _=>Po.ite (Po.pure h) (Po.ite (Po.pure h) (Po.ite (Po.pure h) (Po.on fun _=>Po.bind (hY _) fun _ g=>po_binaryL hB hY n rk _ (sm2 hB h g))))
theorem po_binary (hB:3≤B) {U:GN} {Y:Int→GN} (hU:PS B U) (hY:∀r,PS B (Y r)) {N:Nat} (rk:Int):PS B (binaryG l U Y N rk):=Po.bind hU fun _ h=>po_binaryL hB hY N rk _ h
theorem po_unary (hB:3≤B) {U F:GN} (hU:PS B U) (hF:PS B F):PS B (unaryG l U F):=Po.on fun _=>Po.ite hF (Po.ite (Po.nest (Po.on fun _=>Po.bind hU fun _ h=>Po.pure (sm1 hB h))) hF)
theorem po_first (hB:3≤B) {E:GN} (hE:PS B E):PS B (firstG l E):=
 Po.on fun _=>Po.ite (Po.on fun _=>Po.pure sm0) (Po.ite (Po.on fun _=>Po.pure sm0) (Po.ite (Po.on fun _=>Po.pure sm0) (Po.on fun _=>Po.ite (Po.nest (Po.on fun _=>Po.bind hE fun _ h=>Po.on fun _=>Po.pure (sm1 hB h))) Po.fail)))
theorem po_primL (hB:3≤B) {K:Nd→GN} (hK:∀x,Small B x→PS B (K x)):∀(n:Nat) (x:Nd),Small B x→PS B (primLG l K n x)
 | 0,x,h=>Po.stop
 | n + 1,x,h=>by
  unfold primLG;exact Po.on fun _=>Po.ite (Po.bind (hK x h) fun _ g=>po_primL hB hK n _ g) (Po.on fun _=>Po.ite (Po.on fun _=>Po.on fun _=>po_primL hB hK n _ (sm1 hB h)) (Po.pure h))
theorem po_callL (hB:3≤B) {E:GN} (hE:PS B E):∀(n m:Nat) (ks:List Nd),SL B m ks→Po (SL B (m + n)) (callLG l E n ks)
 | 0,m,ks,h=>Po.stop
 | n + 1,m,ks,h=>by
  unfold callLG;have e:m +(n + 1)=m + 1 + n:=by omega
  rw[e];exact Po.on fun _=>Po.ite (Po.pure (h.le (by omega))) (Po.bind hE fun x g=>Po.on fun _=>Po.ite (po_callL hB hE n (m + 1) _ (h.add g)) (Po.on fun _=>Po.on fun _=>Po.ite Po.fail (po_callL hB hE n (m + 1) _ (h.add g))))
theorem po_call (hB:3≤B) {E:GN} (hE:PS B E) {N:Nat} (hN:N + 2≤B) (x:Nd) (hx:Small B x):PS B (callG l E N x):=
 Po.nest (Po.on fun _=>Po.bind (po_callL hB hE N 1 [x] (SL.one hx)) fun _ h=>Po.on fun _=>Po.pure (SL.small h (by omega)))
theorem po_prim (hB:3≤B) {E:GN} (hE:PS B E) {N:Nat} (hN:N + 2≤B):PS B (primG l (firstG l E) (callG l E N) N):=Po.bind (po_first hB hE) fun x h=>po_primL hB (fun y hy=>po_call hB hE hN y hy) N x h
theorem po_fileI (hB:3≤B) {N:Nat}:∀(n m:Nat) (ks:List Nd),SL B m ks→Po (SL B (m + n)) (fileIG l N n ks)
 | 0,m,ks,h=>Po.stop
 | n + 1,m,ks,h=>by
  unfold fileIG;have e:m +(n + 1)=m + 1 + n:=by omega
  rw[e];exact Po.on fun _=>Po.ite (Po.on fun _=>Po.on fun _=>Po.on fun _=>Po.on fun _=>po_fileI hB n (m + 1) _ (h.add sm0)) (Po.pure (h.le (by omega)))
theorem po_fileD (hB:3≤B) {D:GN} (hD:PS B D) {N:Nat}:∀(n m:Nat) (ks:List Nd),SL B m ks→Po (SL B (m + n)) (fileDG l D N n ks)
 | 0,m,ks,h=>Po.stop
 | n + 1,m,ks,h=>by
  unfold fileDG;have e:m +(n + 1)=m + 1 + n:=by omega
  rw[e];exact Po.on fun _=>Po.ite (Po.bind hD fun _ g=>Po.on fun _=>Po.on fun _=>po_fileD hB hD n (m + 1) _ (h.add g)) (Po.pure (h.le (by omega)))
theorem po_file (hB:3≤B) {D:GN} (hD:PS B D) {N:Nat} (hN:1 + N + N≤B):PS B (fileG l D N):=
 Po.on fun _=>Po.on fun _=>Po.on fun _=>Po.on fun _=>Po.bind (po_fileI hB N 1 _ (SL.one sm0)) fun _ h=>Po.bind (po_fileD hB hD N (1 + N) _ h) fun _ g=>Po.pure (SL.small g hN)
structure PoF (B:Nat) (F:SF):Prop where
 unary:PS B F.unary
 binary:∀rk,PS B (F.binary rk)
 block:PS B F.block
 branch:PS B F.branch
 stmt:PS B F.stmt
theorem sf_po (hB:3≤B) {N:Nat} (hN:N + 2≤B):∀n,PoF B (sf l N n)
 | 0=>⟨Po.stop,fun _=>Po.stop,Po.stop,Po.stop,Po.stop⟩
 | n + 1=>by
  have h:=sf_po hB hN n;have hl:=po_loop (l:=l) hB (h.binary 1) h.block;exact⟨po_unary hB h.unary (po_prim hB (h.binary 1) hN),fun rk=>po_binary hB h.unary h.binary rk,po_block hB h.stmt (by omega),po_branch hB (h.binary 1) h.block h.branch,
   po_stmt hB (po_variable hB (h.binary 1)) (po_constant hB (h.binary 1)) h.block h.branch hl (po_back hB (h.binary 1)) (po_simple hB (h.binary 1) hl)⟩
theorem fileS_po (hB:3≤B) {N:Nat} (hN:1 + N + N≤B) (h1:1≤N) (n:Nat):PS B (fileS l N (sf l N n)):=by
 have h:=sf_po (l:=l) hB (by omega:N + 2≤B) n;exact po_file hB (po_decl hB (po_variable hB (h.binary 1)) (po_constant hB (h.binary 1)) (po_structure hB (by omega)) (po_function hB h.block (by omega))) hN
end Gr
end Go.Proofs.Dm
set_option maxHeartbeats 4000000
namespace Go.Proofs.Dm
open Go Go.Proofs Go.Proofs.Dm.Sc
namespace Gr
mutual
def cnt:Nd→Nat
 | .mk _ _ ks=>1 + cnts ks
def cnts:List Nd→Nat
 | []=>0
 | x::xs=>cnt x + cnts xs
end
theorem cnts_app:∀(ks:List Nd) (x:Nd),cnts (ks ++ [x])=cnts ks + cnt x
 | [],x=>by simp[cnts]
 | k::ks,x=>by
  simp only[List.cons_append,cnts,cnts_app ks x];omega
variable {α β:Type} {l:List Tok}
def Cn (b:Nat) (w:α→Nat) (s:G α):Prop:=∀d a x a',s d a= .ok x a'→a≤a'∧w x≤b + 2 *(a' - a)
variable {b:Nat}
theorem Cn.bind {w:α→Nat} {v:β→Nat} {s:G α} {t:α→G β} (h:Cn b w s) (ht:∀x,Cn (w x) v (t x)):Cn b v (Gr.bind s t):=by
 intro d a x a' q;simp only[Gr.bind]at q;cases hs:s d a with
 | ok y a1=>
  rw[hs]at q;have h1:=h d a y a1 hs;have h2:=ht y d a1 x a' q;omega
 | bad k=>rw[hs]at q;cases q
 | out=>rw[hs]at q;cases q
theorem Cn.adv {v:β→Nat} {t:Int→G β} (ht:∀x,Cn (b + 2) v (t x)):Cn b v (Gr.bind (Gr.adv l) t):=Cn.bind (w:=fun _=>b + 2) (fun d a x a' q=>by
 simp only[Gr.adv]at q;split at q
 ·cases q
 ·injection q with q1 q2;subst q2;exact⟨by omega,by (try dsimp only);omega⟩) ht
theorem Cn.kind {k:Int} {v:β→Nat} {t:Int→G β} (ht:∀x,Cn (b + 2) v (t x)):Cn b v (Gr.bind (kindG l k) t):=Cn.bind (w:=fun _=>b + 2) (fun d a x a' q=>by
 simp only[kindG]at q;split at q
 ·split at q
  ·cases q
  ·injection q with q1 q2;subst q2;exact⟨by omega,by (try dsimp only);omega⟩
 ·cases q) ht
theorem Cn.want {s:ByteArray} {v:β→Nat} {t:Int→G β} (ht:∀x,Cn (b + 2) v (t x)):Cn b v (Gr.bind (wantG l s) t):=Cn.bind (w:=fun _=>b + 2) (fun d a x a' q=>by
 simp only[wantG]at q;split at q
 ·injection q with q1 q2;subst q2;exact⟨by omega,by (try dsimp only);omega⟩
 ·cases q) ht
theorem Cn.is {s:ByteArray} {v:β→Nat} {t:Bool→G β} (ht:∀x,Cn b v (t x)):Cn b v (Gr.bind (isG l s) t):=fun d a x a' q=>ht _ d a x a' q
theorem Cn.look {k:Nat} {v:β→Nat} {t:Tok→G β} (ht:∀x,Cn b v (t x)):Cn b v (Gr.bind (Gr.look l k) t):=fun d a x a' q=>ht _ d a x a' q
theorem Cn.here {v:β→Nat} {t:Int→G β} (ht:∀x,Cn b v (t x)):Cn b v (Gr.bind Gr.here t):=fun d a x a' q=>ht _ d a x a' q
theorem semis_le:∀(n d a:Nat) (x:Unit) (a':Nat),semisG l n d a= .ok x a'→a≤a'
 | 0,d,a,x,a',q=>by cases q
 | n + 1,d,a,x,a',q=>by
  simp only[semisG]at q;split at q
  ·have:=semis_le n d (a + 1) x a' q;omega
  ·injection q with q1 q2;omega
theorem Cn.semis {n:Nat} {v:β→Nat} {t:Unit→G β} (ht:∀x,Cn b v (t x)):Cn b v (Gr.bind (semisG l n) t):=Cn.bind (w:=fun _=>b) (fun d a x a' q=>by have:=semis_le n d a x a' q;exact⟨this,by (try dsimp only);omega⟩) ht
theorem Cn.ite {w:α→Nat} {c:Bool} {s t:G α} (h1:Cn b w s) (h2:Cn b w t):Cn b w (Gr.ite c s t):=by cases c <;> assumption
theorem Cn.pure {w:α→Nat} {x:α} (h:w x≤b):Cn b w (Gr.pure x):=by
 intro d a y a' q;injection q with q1 q2
 subst q1;subst q2;omega
theorem Cn.fail {w:α→Nat}:Cn b w (Gr.fail:G α):=fun d a y a' q=>by cases q
theorem Cn.stop {w:α→Nat}:Cn b w (Gr.stop:G α):=fun d a y a' q=>by cases q
theorem Cn.nest {w:α→Nat} {s:G α} (h:Cn b w s):Cn b w (Gr.nest s):=by
 intro d a y a' q;unfold Gr.nest at q;split at q
 ·cases q
 ·exact h _ _ _ _ q
theorem Cn.up {c:Nat} {w v:α→Nat} {s:G α} (h:Cn b w s) (hc:∀x,v x + b≤w x + c):Cn c v s:=fun d a x a' q=>by
 have h1:=h d a x a' q;have h2:=hc x;omega
abbrev CE (s:GN):Prop:=∀b,Cn b (fun x=>b + cnt x + 1) s
abbrev CS (s:GN):Prop:=∀b,Cn b (fun x=>b + cnt x) s
theorem CE.cs {s:GN} (h:CE s):CS s:=fun b=>(h b).up fun x=>by (try dsimp only);omega
theorem cn_typ:CE (typG l):=fun b=>Cn.kind fun _=>Cn.is fun _=>Cn.ite (Cn.adv fun _=>Cn.kind fun _=>Cn.pure (by simp[cnt,cnts])) (Cn.pure (by simp[cnt,cnts]))
theorem cn_variable {E:GN} (hE:CE E):CS (variableG l E):=fun b=>Cn.adv fun _=>Cn.kind fun _=>Cn.bind (cn_typ _) fun _=>Cn.is fun _=>Cn.ite (Cn.adv fun _=>Cn.bind (hE _) fun _=>Cn.pure (by simp only[cnt,cnts];omega)) (Cn.pure (by simp only[cnt,cnts];omega))
theorem cn_constant {E:GN} (hE:CE E):CS (constantG l E):=fun b=>Cn.adv fun _=>Cn.kind fun _=>Cn.want fun _=>Cn.bind (hE _) fun _=>Cn.pure (by simp only[cnt,cnts];omega)
theorem cn_curlyL {S:GN} (hS:CS S) {N:Nat}:∀(n:Nat) (ks:List Nd) (b:Nat),Cn (b + cnts ks) (fun r=>b + cnts r) (curlyLG l S N n ks)
 | 0,ks,b=>Cn.stop
 | n + 1,ks,b=>by
  unfold curlyLG;refine Cn.is fun _=>Cn.ite (Cn.pure (Nat.le_refl _)) (Cn.bind (hS _) fun x=>Cn.is fun _=>Cn.ite ?_ (Cn.kind fun _=>Cn.semis fun _=> ?_))
  ·refine Cn.up (cn_curlyL hS n (ks ++ [x]) b) (fun r=> ?_);rw[cnts_app];omega
  ·refine Cn.up (cn_curlyL hS n (ks ++ [x]) (b + 2)) (fun r=> ?_);rw[cnts_app];omega
theorem cn_curly {S:GN} (hS:CS S) {N:Nat} (b:Nat):Cn b (fun r:Int×List Nd=>b + cnts r.2 + 4) (curlyG l S N):=
 Cn.is fun _=>Cn.ite (Cn.nest (Cn.adv fun _=>Cn.semis fun _=>Cn.bind ((cn_curlyL hS N [] (b + 2)).up (v:=fun r=>b + 2 + cnts r) fun r=>by simp[cnts]) fun ks=>Cn.want fun _=>Cn.pure (by simp only;omega))) Cn.fail
theorem cn_block {S:GN} (hS:CS S) {N:Nat}:CE (blockG l S N):=fun b=>Cn.bind (cn_curly hS b) fun _=>Cn.pure (by simp only[cnt,cnts];omega)
theorem cn_structure {N:Nat}:CS (structureG l N):=fun b=>Cn.adv fun _=>Cn.kind fun _=>Cn.want fun _=>Cn.bind (cn_curly (fun b=>Cn.kind fun _=>Cn.bind (cn_typ _) fun _=>Cn.pure (by simp only[cnt,cnts];omega)) _) fun _=>Cn.pure (by simp only[cnt,cnts];omega)
theorem cn_funcL:∀(n:Nat) (ks:List Nd) (b:Nat),Cn (b + cnts ks) (fun r=>b + cnts r) (funcLG l n ks)
 | 0,ks,b=>Cn.stop
 | n + 1,ks,b=>by
  unfold funcLG;refine Cn.is fun _=>Cn.ite (Cn.pure (Nat.le_refl _)) (Cn.kind fun t=>Cn.bind (cn_typ _) fun y=>Cn.is fun _=>Cn.ite ?_ (Cn.want fun _=>Cn.is fun _=>Cn.ite Cn.fail ?_))
  ·refine Cn.up (cn_funcL n (ks ++ [.mk 9 t [y]]) b) (fun r=> ?_);rw[cnts_app];simp only[cnt,cnts];omega
  ·refine Cn.up (cn_funcL n (ks ++ [.mk 9 t [y]]) b) (fun r=> ?_);rw[cnts_app];simp only[cnt,cnts];omega
theorem cn_function {C:GN} (hC:CE C) {N:Nat}:CS (functionG l C N):=fun b=>
 Cn.adv fun _=>Cn.kind fun _=>Cn.want fun _=>Cn.bind ((cn_funcL N [] (b + 6)).up (v:=fun r=>b + 6 + cnts r) fun r=>by simp[cnts]) fun ks=>Cn.want fun _=>Cn.look fun _=>Cn.ite (Cn.bind (cn_typ _) fun _=>Cn.bind (hC _) fun _=>Cn.pure (by simp only[cnt,cnts_app];omega)) (Cn.bind (hC _) fun _=>Cn.pure (by simp only[cnt,cnts_app];omega))
theorem cn_leave (k:Int):CS (leaveG l k):=fun b=>Cn.adv fun _=>Cn.look fun _=>Cn.ite (Cn.adv fun _=>Cn.pure (by simp only[cnt,cnts];omega)) (Cn.pure (by simp only[cnt,cnts];omega))
theorem cn_branch {E C R:GN} (hE:CE E) (hC:CE C) (hR:CS R):CS (branchG l E C R):=fun b=>
 Cn.adv fun _=>Cn.bind (hE _) fun _=>Cn.bind (hC _) fun _=>Cn.is fun _=>Cn.ite (Cn.adv fun _=>Cn.is fun _=>Cn.ite (Cn.bind (Cn.nest (hR _)) fun _=>Cn.pure (by simp only[cnt,cnts];omega)) (Cn.bind (hC _) fun _=>Cn.pure (by simp only[cnt,cnts];omega))) (Cn.pure (by simp only[cnt,cnts];omega))
theorem cn_loop {E C:GN} (hE:CE E) (hC:CE C):CS (loopG l E C):=fun b=>Cn.adv fun _=>Cn.bind (hE _) fun _=>Cn.bind (hC _) fun _=>Cn.pure (by simp only[cnt,cnts];omega)
theorem cn_back {E:GN} (hE:CE E):CS (backG l E):=fun b=>Cn.adv fun _=>Cn.look fun _=>Cn.ite (Cn.pure (by simp only[cnt,cnts];omega)) (Cn.is fun _=>Cn.ite (Cn.pure (by simp only[cnt,cnts];omega)) (Cn.bind (hE _) fun _=>Cn.pure (by simp only[cnt,cnts];omega)))
theorem cn_rest {E:GN} (hE:CE E):CS (restG l E):=fun b=>Cn.here fun _=>Cn.bind (hE _) fun _=>Cn.is fun _=>Cn.ite (Cn.adv fun _=>Cn.bind (hE _) fun _=>Cn.pure (by simp only[cnt,cnts];omega)) (Cn.pure (by simp only[cnt,cnts];omega))
theorem cn_simple {E L:GN} (hE:CE E) (hL:CS L):CS (simpleG l E L):=fun b=>
 Cn.look fun _=>Cn.ite (Cn.look fun _=>Cn.ite (Cn.adv fun _=>Cn.adv fun _=>Cn.bind (hE _) fun _=>Cn.pure (by simp only[cnt,cnts];omega)) (Cn.ite (Cn.adv fun _=>Cn.adv fun _=>Cn.is fun _=>Cn.ite (Cn.bind (hL _) fun _=>Cn.pure (by simp only[cnt,cnts];omega)) Cn.fail) (cn_rest hE b))) (cn_rest hE b)
theorem cn_stmt {V C K I L R M:GN} (hV:CS V) (hC:CS C) (hK:CE K) (hI:CS I) (hL:CS L) (hR:CS R) (hM:CS M):CS (stmtG l V C K I L R M):=fun b=>
 Cn.is fun _=>Cn.ite (hV b) (Cn.is fun _=>Cn.ite (hC b) (Cn.is fun _=>Cn.ite (hK.cs b) (Cn.is fun _=>Cn.ite (hI b) (Cn.is fun _=>Cn.ite (hL b) (Cn.is fun _=>Cn.ite (hR b) (Cn.is fun _=>Cn.ite (cn_leave 17 b) (Cn.is fun _=>Cn.ite (cn_leave 18 b) (hM b))))))))
theorem cn_decl {V C S F:GN} (hV:CS V) (hC:CS C) (hS:CS S) (hF:CS F):CS (declG l V C S F):=fun b=>
 Cn.is fun _=>Cn.ite (hV b) (Cn.is fun _=>Cn.ite (hC b) (Cn.is fun _=>Cn.ite (hS b) (Cn.is fun _=>Cn.ite (hF b) Cn.fail)))
theorem cn_binaryL {Y:Int→GN} (hY:∀r,CE (Y r)):∀(n:Nat) (rk:Int) (x:Nd) (b:Nat),Cn (b + cnt x + 1) (fun r=>b + cnt r + 1) (binaryLG l Y n rk x)
 | 0,rk,x,b=>Cn.stop
 | n + 1,rk,x,b=>by
  unfold binaryLG;refine Cn.look fun _=>Cn.ite (Cn.pure (Nat.le_refl _)) (Cn.ite (Cn.pure (Nat.le_refl _)) (Cn.ite (Cn.pure (Nat.le_refl _)) (Cn.adv fun o=>Cn.bind (hY _ _) fun y=> ?_)))
  refine Cn.up (cn_binaryL hY n rk (.mk 24 o [x,y]) b) (fun r=> ?_);simp only[cnt,cnts];omega
theorem cn_binary {U:GN} {Y:Int→GN} (hU:CE U) (hY:∀r,CE (Y r)) {N:Nat} (rk:Int):CE (binaryG l U Y N rk):=fun b=>Cn.bind (hU b) fun x=>cn_binaryL hY N rk x b
theorem cn_unary {U F:GN} (hU:CE U) (hF:CE F):CE (unaryG l U F):=fun b=>Cn.look fun _=>Cn.ite (hF b) (Cn.ite (Cn.nest (Cn.adv fun _=>Cn.bind (hU _) fun _=>Cn.pure (by simp only[cnt,cnts];omega))) (hF b))
theorem cn_first {E:GN} (hE:CE E):CE (firstG l E):=fun b=>
 Cn.look fun _=>Cn.ite (Cn.adv fun _=>Cn.pure (by simp only[cnt,cnts];omega)) (Cn.ite (Cn.adv fun _=>Cn.pure (by simp only[cnt,cnts];omega)) (Cn.ite (Cn.adv fun _=>Cn.pure (by simp only[cnt,cnts];omega)) (Cn.is fun _=>Cn.ite (Cn.nest (Cn.adv fun _=>Cn.bind (hE _) fun _=>Cn.want fun _=>Cn.pure (by simp only[cnt,cnts];omega))) Cn.fail)))
theorem cn_primL {K:Nd→GN} (hK:∀(x:Nd) (b:Nat),Cn (b + cnt x + 1) (fun y=>b + cnt y + 1) (K x)):∀(n:Nat) (x:Nd) (b:Nat),Cn (b + cnt x + 1) (fun r=>b + cnt r + 1) (primLG l K n x)
 | 0,x,b=>Cn.stop
 | n + 1,x,b=>by
  unfold primLG;refine Cn.is fun _=>Cn.ite (Cn.bind (hK x b) fun y=>cn_primL hK n y b) (Cn.is fun _=>Cn.ite (Cn.adv fun _=>Cn.kind fun t=> ?_) (Cn.pure (Nat.le_refl _)))
  refine Cn.up (cn_primL hK n (.mk 27 t [x]) b) (fun r=> ?_);simp only[cnt,cnts];omega
theorem cn_callL {E:GN} (hE:CE E):∀(n:Nat) (ks:List Nd) (b:Nat),Cn (b + cnts ks) (fun r=>b + cnts r) (callLG l E n ks)
 | 0,ks,b=>Cn.stop
 | n + 1,ks,b=>by
  unfold callLG;refine Cn.is fun _=>Cn.ite (Cn.pure (Nat.le_refl _)) (Cn.bind (hE _) fun x=>Cn.is fun _=>Cn.ite ?_ (Cn.want fun _=>Cn.is fun _=>Cn.ite Cn.fail ?_))
  ·refine Cn.up (cn_callL hE n (ks ++ [x]) b) (fun r=> ?_);rw[cnts_app];omega
  ·refine Cn.up (cn_callL hE n (ks ++ [x]) b) (fun r=> ?_);rw[cnts_app];omega
theorem cn_call {E:GN} (hE:CE E) {N:Nat} (x:Nd) (b:Nat):Cn (b + cnt x + 1) (fun y=>b + cnt y + 1) (callG l E N x):=
 Cn.nest (Cn.adv fun _=>Cn.bind ((cn_callL hE N [x] (b + 3)).up (v:=fun r=>b + 3 + cnts r) fun r=>by simp only[cnts];omega) fun ks=>Cn.want fun _=>Cn.pure (by simp only[cnt];omega))
theorem cn_prim {E:GN} (hE:CE E) {N:Nat}:CE (primG l (firstG l E) (callG l E N) N):=fun b=>Cn.bind (cn_first hE b) fun x=>cn_primL (fun y c=>cn_call hE y c) N x b
theorem cn_fileI {N:Nat}:∀(n:Nat) (ks:List Nd) (b:Nat),Cn (b + cnts ks) (fun r=>b + cnts r) (fileIG l N n ks)
 | 0,ks,b=>Cn.stop
 | n + 1,ks,b=>by
  unfold fileIG;refine Cn.is fun _=>Cn.ite (Cn.adv fun _=>Cn.kind fun t=>Cn.kind fun _=>Cn.semis fun _=> ?_) (Cn.pure (Nat.le_refl _))
  refine Cn.up (cn_fileI n (ks ++ [.mk 3 t []]) b) (fun r=> ?_);rw[cnts_app];simp only[cnt,cnts];omega
theorem cn_fileD {D:GN} (hD:CS D) {N:Nat}:∀(n:Nat) (ks:List Nd) (b:Nat),Cn (b + cnts ks) (fun r=>b + cnts r) (fileDG l D N n ks)
 | 0,ks,b=>Cn.stop
 | n + 1,ks,b=>by
  unfold fileDG;refine Cn.look fun _=>Cn.ite (Cn.bind (hD _) fun x=>Cn.kind fun _=>Cn.semis fun _=> ?_) (Cn.pure (Nat.le_refl _))
  refine Cn.up (cn_fileD hD n (ks ++ [x]) b) (fun r=> ?_);rw[cnts_app];omega
theorem cn_file {D:GN} (hD:CS D) {N:Nat}:CS (fileG l D N):=fun b=>
 Cn.want fun _=>Cn.kind fun t=>Cn.kind fun _=>Cn.semis fun _=>Cn.bind ((cn_fileI N [.mk 2 t []] (b + 5)).up (v:=fun r=>b + 5 + cnts r) fun r=>by simp only[cnts,cnt];omega) fun ks=>Cn.bind (cn_fileD hD N ks (b + 5)) fun r=>Cn.pure (by simp only[cnt];omega)
structure CnF (F:SF):Prop where
 unary:CE F.unary
 binary:∀rk,CE (F.binary rk)
 block:CE F.block
 branch:CS F.branch
 stmt:CS F.stmt
theorem sf_cn {N:Nat}:∀n,CnF (sf l N n)
 | 0=>⟨fun _=>Cn.stop,fun _ _=>Cn.stop,fun _=>Cn.stop,fun _=>Cn.stop,fun _=>Cn.stop⟩
 | n + 1=>by
  have h:=sf_cn (N:=N) n;have hl:=cn_loop (l:=l) (h.binary 1) h.block;exact⟨cn_unary h.unary (cn_prim (h.binary 1)),fun rk=>cn_binary h.unary h.binary rk,cn_block h.stmt,cn_branch (h.binary 1) h.block h.branch,
   cn_stmt (cn_variable (h.binary 1)) (cn_constant (h.binary 1)) h.block h.branch hl (cn_back (h.binary 1)) (cn_simple (h.binary 1) hl)⟩
theorem fileS_cnt {N n:Nat} {a:Nat} {x:Nd} {a':Nat} (h:fileS l N (sf l N n) 0 a= .ok x a'):cnt x≤2 *(a' - a):=by
 have q:=sf_cn (l:=l) (N:=N) n;have:=cn_file (N:=N) (cn_decl (cn_variable (q.binary 1)) (cn_constant (q.binary 1)) cn_structure (cn_function q.block)) 0 0 a x a' h;dsimp only at this;omega
end Gr
end Go.Proofs.Dm
