/- Part of the proof: contracts of the functions, walked by the D-machine. No condition. -/
import Derived.Test.YtmlhdhpjcipcdaaGreatDoorGa
import Derived.Test.YtmlhdhpjcipcdaaGreatDoorGb
set_option linter.unusedSimpArgs false
set_option linter.unusedVariables false
set_option maxHeartbeats 4000000
namespace Go.Proofs.Dm
open Go Go.Proofs Go.Proofs.Dm.Sc
namespace Gr
variable {α β:Type} {l:List Tok}
def LeP (P:Nat→Prop) (s t:G α):Prop:=∀d a,P a→s d a= .out∨t d a=s d a
def Al:Nat→Prop:=fun _=>True
variable {P:Nat→Prop}
theorem LeP.rfl' {s:G α}:LeP P s s:=fun _ _ _=> .inr rfl
theorem LeP.weak {Q:Nat→Prop} {s t:G α} (h:LeP Q s t) (hq:∀a,P a→Q a):LeP P s t:=fun d a h1=>h d a (hq a h1)
theorem LeP.all {s t:G α} (h:LeP Al s t):LeP P s t:=fun d a _=>h d a True.intro
theorem LeP.trans {s t u:G α} (h1:LeP P s t) (h2:LeP P t u):LeP P s u:=fun d a h=>by
 rcases h1 d a h with q | q
 ·exact .inl q
 ·rcases h2 d a h with r | r
  ·exact .inl (by rw[←q];exact r)
  ·exact .inr (by rw[r,q])
theorem LeP.bindQ {Q:α→Nat→Prop} {s s':G α} {t t':α→G β} (h:LeP P s s') (hq:∀d a x a',P a→s d a= .ok x a'→Q x a') (ht:∀x,LeP (Q x) (t x) (t' x)):LeP P (Gr.bind s t) (Gr.bind s' t'):=by
 intro d a h1;unfold Gr.bind;rcases h d a h1 with q | q
 ·exact .inl (by rw[q];rfl)
 ·rw[q];cases hs:s d a with
  | ok x a'=>exact ht x d a' (hq d a x a' h1 hs)
  | bad k=>exact .inr rfl
  | out=>exact .inl rfl
theorem LeP.bind {s s':G α} {t t':α→G β} (h:LeP P s s') (ht:∀x,LeP Al (t x) (t' x)):LeP P (Gr.bind s t) (Gr.bind s' t'):=LeP.bindQ h (Q:=fun _ _=>True) (fun _ _ _ _ _ _=>True.intro) ht
theorem LeP.to {s:G α} {t t':α→G β} (ht:∀x,LeP Al (t x) (t' x)):LeP P (Gr.bind s t) (Gr.bind s t'):=LeP.bind LeP.rfl' ht
theorem LeP.nest {s s':G α} (h:LeP P s s'):LeP P (Gr.nest s) (Gr.nest s'):=by
 intro d a h1;unfold Gr.nest;split
 ·exact .inr rfl
 ·exact h (d + 1) a h1
theorem LeP.is {w:ByteArray} {s s' t t':G α} (h1:LeP (fun a=>P a∧Pp.word (tokAt l a) w=true) s s') (h2:LeP (fun a=>P a∧Pp.word (tokAt l a) w=false) t t'):LeP P (Gr.bind (isG l w) fun c=>Gr.ite c s t) (Gr.bind (isG l w) fun c=>Gr.ite c s' t'):=by
 intro d a q;simp only[Gr.bind,isG,Res.andThen,Gr.ite];cases h:Pp.word (tokAt l a) w with
 | true=>exact h1 d a ⟨q,h⟩
 | false=>exact h2 d a ⟨q,h⟩
theorem LeP.isA {w:ByteArray} {s s' t t':G α} (h1:LeP (fun a=>Pp.word (tokAt l a) w=true) s s') (h2:LeP Al t t'):LeP P (Gr.bind (isG l w) fun c=>Gr.ite c s t) (Gr.bind (isG l w) fun c=>Gr.ite c s' t'):=LeP.is (LeP.weak h1 fun _ h=>h.2) (LeP.all h2)
theorem LeP.ite {c:Bool} {s s' t t':G α} (h1:LeP P s s') (h2:LeP P t t'):LeP P (Gr.ite c s t) (Gr.ite c s' t'):=by cases c <;> assumption
theorem word_ne7 {t:Tok} {s:ByteArray} (h:Pp.word t s=true):(t.kind==7)=false:=by
 rcases word_kind h with q | q <;> rw[q] <;> rfl
theorem LeP.adv {w:ByteArray} {t t':Int→G β} (ht:∀x,LeP Al (t x) (t' x)):LeP (fun a=>Pp.word (tokAt l a) w=true) (Gr.bind (Gr.adv l) t) (Gr.bind (wantG l w) t'):=by
 intro d a h;simp only[Gr.bind,Gr.adv,wantG,word_ne7 h,h,Bool.false_eq_true,if_false,if_true,Res.andThen];exact ht _ d (a + 1) True.intro
theorem bind_assoc {γ:Type} (s:G α) (t:α→G β) (u:β→G γ):Gr.bind (Gr.bind s t) u=Gr.bind s fun x=>Gr.bind (t x) u:=by
 funext d a
 simp only[Gr.bind];cases s d a <;> rfl
theorem pure_bind (x:α) (t:α→G β):Gr.bind (Gr.pure x) t=t x:=rfl
theorem is_at (w:ByteArray) (F:Bool→G α) (d a:Nat):Gr.bind (isG l w) F d a=F (Pp.word (tokAt l a) w) d a:=rfl
theorem kq_at (k:Int) (F:Bool→G α) (d a:Nat):Gr.bind (kqG l k) F d a=F ((tokAt l a).kind==k) d a:=rfl
theorem look_at (k:Nat) (F:Tok→G α) (d a:Nat):Gr.bind (look l k) F d a=F (tokAt l (a + k)) d a:=rfl
theorem tok_at (F:Tok→G α) (d a:Nat):Gr.bind (tokG l) F d a=F (tokAt l a) d a:=rfl
theorem ite_t {c:Bool} (h:c=true) (s t:G α):Gr.ite c s t=s:=by subst h;rfl
theorem ite_f {c:Bool} (h:c=false) (s t:G α):Gr.ite c s t=t:=by subst h;rfl
theorem bne_t {a b:Int} (h:(a==b)=true):(a !=b)=false:=by simp only[bne,h];rfl
theorem bne_f {a b:Int} (h:(a==b)=false):(a !=b)=true:=by simp only[bne,h];rfl
theorem semis_monoA:∀{n m:Nat},n≤m→LeP Al (semisG l n) (semisG l m)
 | 0,m,h=>fun d a _=> .inl rfl
 | n + 1,0,h=>by omega
 | n + 1,m + 1,h=>fun d a q=>by
  simp only[semisG];cases (tokAt l a).kind==6 with
  | true=>exact semis_monoA (by omega) d (a + 1) True.intro
  | false=>exact .inr rfl
theorem semis_mono {n m:Nat} (h:n≤m):LeP P (semisG l n) (semisG l m):=LeP.all (semis_monoA h)
theorem semis_nb:∀(n d a:Nat),semisG l n d a= .out∨∃a',semisG l n d a= .ok () a'
 | 0,d,a=> .inl rfl
 | n + 1,d,a=>by
  simp only[semisG];cases (tokAt l a).kind==6 with
  | true=>exact semis_nb n d (a + 1)
  | false=>exact .inr ⟨a,rfl⟩
theorem semis_word {n:Nat} (hn:1≤n) {w:ByteArray} {d a:Nat} (h:Pp.word (tokAt l a) w=true):semisG l n d a= .ok () a:=by
 obtain⟨m,rfl⟩:∃m,n=m + 1:=⟨n - 1,by omega⟩
 simp only[semisG];have:((tokAt l a).kind==6)=false:=by rcases word_kind h with q | q <;> rw[q] <;> rfl
 rw[this];rfl
theorem word_two {t:Tok} {v w:ByteArray} (h:Pp.word t v=true) (hn:(v.toList==w.toList)=false):Pp.word t w=false:=by
 have hv:t.text.toList=v.toList:=by simpa using(show _∧_ by simpa [Pp.word]using h).2
 cases hw:Pp.word t w with
 | false=>rfl
 | true=>
  have hw':t.text.toList=w.toList:=by simpa using(show _∧_ by simpa [Pp.word]using hw).2
  rw[←hv,hw']at hn;simp at hn
theorem le_typ:LeP P (typG l) (types2 l):=LeP.rfl'
theorem le_variable {E E':GN} (hE:LeP Al E E'):LeP (fun a=>Pp.word (tokAt l a) ⟨#[118,97,114]⟩=true) (variableG l E) (vars2 l E'):=
 LeP.adv fun _=>LeP.to fun _=>LeP.to fun _=>LeP.isA (LeP.to fun _=>LeP.bind hE fun _=>LeP.rfl') LeP.rfl'
theorem le_constant {E E':GN} (hE:LeP Al E E'):LeP (fun a=>Pp.word (tokAt l a) ⟨#[99,111,110,115,116]⟩=true) (constantG l E) (consts2 l E'):=
 LeP.adv fun _=>LeP.to fun _=>LeP.to fun _=>LeP.bind hE fun _=>LeP.rfl'
theorem le_loop {E E' B B':GN} (hE:LeP Al E E') (hB:LeP Al B B'):LeP (fun a=>Pp.word (tokAt l a) ⟨#[102,111,114]⟩=true) (loopG l E B) (fors2 l E' B'):=
 LeP.adv fun _=>LeP.bind hE fun _=>LeP.bind hB fun _=>LeP.rfl'
theorem le_branch {E E' B B' R R':GN} (hE:LeP Al E E') (hB:LeP Al B B') (hR:LeP (fun a=>Pp.word (tokAt l a) ⟨#[105,102]⟩=true) R R'):LeP (fun a=>Pp.word (tokAt l a) ⟨#[105,102]⟩=true) (branchG l E B R) (ifs2 l E' B' R'):=
 LeP.adv fun _=>LeP.bind hE fun _=>LeP.bind hB fun _=>LeP.isA (LeP.to fun _=>LeP.isA (LeP.bind (LeP.nest hR) fun _=>LeP.rfl') (LeP.bind hB fun _=>LeP.rfl')) LeP.rfl'
theorem le_back {E E':GN} (hE:LeP Al E E'):LeP P (backG l E) (back2 l E'):=by
 refine LeP.to fun t=> ?_
 show LeP Al (Gr.bind (kqG l 6) fun b=>Gr.ite b (Gr.pure (Nd.mk 16 t [])) (Gr.bind (isG l ⟨#[125]⟩) fun b=>Gr.ite b (Gr.pure (.mk 16 t [])) (Gr.bind E fun e=>Gr.pure (.mk 16 t [e])))) _;exact LeP.to fun _=>LeP.ite LeP.rfl' (LeP.isA LeP.rfl' (LeP.bind hE fun _=>LeP.rfl'))
theorem le_leave (c:Bool) (k:Int) (hk:k=if c then 18 else 17):LeP P (leaveG l k) (leave2 l c):=by
 subst hk;intro d a _;simp only[leaveG,leave2,Gr.bind,Gr.here,Gr.adv,Res.andThen,kqG,look,Nat.add_zero];cases (tokAt l a).kind==7 with
 | true=>exact .inl rfl
 | false=>exact .inr rfl
theorem le_rest {E E':GN} (hE:LeP Al E E'):LeP P (restG l E) (rest2 l E'):=
 LeP.to fun _=>LeP.bind (LeP.all hE) fun _=>LeP.isA (LeP.to fun _=>LeP.bind hE fun _=>LeP.rfl') LeP.rfl'
def Keys (l:List Tok):Prop:=∀t∈l,t.kind=5→t.text.toList≠ [45]∧t.text.toList≠ [33]∧t.text.toList≠ [58,61]∧t.text.toList≠ [58]
theorem keys_at (hk:Keys l) (a:Nat) (h:(tokAt l a).kind=5):(tokAt l a).text.toList≠ [45]∧(tokAt l a).text.toList≠ [33]∧(tokAt l a).text.toList≠ [58,61]∧(tokAt l a).text.toList≠ [58]:=by
 rcases Nat.lt_or_ge a l.length with q | q
 ·refine hk _ ?_ h;have:=tok_lt a q;exact List.mem_of_getElem? this
 ·rw[tok_ge a q]at h;exact absurd h (by decide)
theorem word_op (hk:Keys l) (a:Nat) {w:ByteArray} (hw:w.toList= [45]∨w.toList= [33]∨w.toList= [58,61]∨w.toList= [58]):Pp.word (tokAt l a) w=((tokAt l a).kind==4&&((tokAt l a).text.toList==w.toList)):=by
 simp only[Pp.word];cases h4:(tokAt l a).kind==4 with
 | true=>rfl
 | false=>
  cases h5:(tokAt l a).kind==5 with
  | false=>rfl
  | true=>
   have h5':(tokAt l a).kind=5:=by simpa using h5
   obtain⟨q1,q2,q3,q4⟩:=keys_at hk a h5';simp only[Bool.false_or,Bool.true_and,Bool.false_and,beq_eq_false_iff_ne,ne_eq];rcases hw with q | q | q | q <;> rw[q] <;> assumption
theorem le_unary (hk:Keys l) {U U' F F':GN} (hU:LeP Al U U') (hF:LeP Al F F'):LeP Al (unaryG l U F) (unary2 l U' F'):=by
 intro d a _;have e1:=word_op hk a (w:=⟨#[45]⟩) (.inl (by kernel_rfl));have e2:=word_op hk a (w:=⟨#[33]⟩) (.inr (.inl (by kernel_rfl)));rw[show(⟨#[45]⟩:ByteArray).toList= [45]by kernel_rfl]at e1;rw[show(⟨#[33]⟩:ByteArray).toList= [33]by kernel_rfl]at e2;have hn:LeP Al (nest (Gr.bind (adv l) fun o=>Gr.bind U fun x=>Gr.pure (Nd.mk 23 o [x]))) (nest (Gr.bind (adv l) fun o=>Gr.bind U' fun x=>Gr.pure (Nd.mk 23 o [x]))):=LeP.nest (LeP.to fun _=>LeP.bind hU fun _=>LeP.rfl');simp only[unaryG,unary2,Gr.bind,isG,look,Res.andThen,Gr.ite,Nat.add_zero,e1,e2,Pp.unaryS,bne];rcases Bool.eq_false_or_eq_true ((tokAt l a).kind==4)with h4 | h4
 ·rcases Bool.eq_false_or_eq_true ((tokAt l a).text.toList== [45])with h1 | h1
  ·simp only[h4,h1,Bool.true_and,Bool.true_or,Bool.not_true,Bool.false_eq_true,if_true,if_false];exact hn d a True.intro
  ·rcases Bool.eq_false_or_eq_true ((tokAt l a).text.toList== [33])with h2 | h2
   ·simp only[h4,h1,h2,Bool.true_and,Bool.false_or,Bool.not_true,Bool.false_eq_true,if_true,if_false];exact hn d a True.intro
   ·simp only[h4,h1,h2,Bool.true_and,Bool.false_or,Bool.not_true,Bool.false_eq_true,if_true,if_false];exact hF d a True.intro
 ·simp only[h4,Bool.false_and,Bool.not_false,Bool.false_eq_true,if_true,if_false];exact hF d a True.intro
theorem le_simple (hk:Keys l) {E E' L L':GN} (hE:LeP Al E E') (hL:LeP (fun a=>Pp.word (tokAt l a) ⟨#[102,111,114]⟩=true) L L') (hL2:∀d a,Pp.word (tokAt l a) ⟨#[102,111,114]⟩=false→L' d a= .bad a):LeP Al (simpleG l E L) (simple2 l E' L'):=by
 intro d a _;have e1:=word_op hk (a + 1) (w:=⟨#[58,61]⟩) (.inr (.inr (.inl (by kernel_rfl))));have e2:=word_op hk (a + 1) (w:=⟨#[58]⟩) (.inr (.inr (.inr (by kernel_rfl))));rw[show(⟨#[58,61]⟩:ByteArray).toList= [58,61]by kernel_rfl]at e1;rw[show(⟨#[58]⟩:ByteArray).toList= [58]by kernel_rfl]at e2;have hr:=le_rest (l:=l) (P:=Al) hE d a True.intro;simp only[simpleG,simple2,assMG,isAssT];show Gr.ite ((tokAt l (a + 0)).kind==1) (fun d a=>Gr.ite (Pp.word (tokAt l (a + 1)) ⟨#[58,61]⟩) (Gr.bind (adv l) fun t=>Gr.bind (adv l) fun _=>Gr.bind E fun e=>Gr.pure (Nd.mk 11 t [e])) (Gr.ite (Pp.word (tokAt l (a + 1)) ⟨#[58]⟩) (Gr.bind (adv l) fun t=>Gr.bind (adv l) fun _=>Gr.bind (isG l ⟨#[102,111,114]⟩) fun b=>Gr.ite b (Gr.bind L fun x=>Gr.pure (Nd.mk 19 t [x])) Gr.fail) (restG l E)) d a) (restG l E) d a=_∨Gr.ite ((tokAt l a).kind==1&&((tokAt l (a + 1)).kind==4&&((tokAt l (a + 1)).text.toList== [58,61] ||(tokAt l (a + 1)).text.toList== [58]))) (ass2 l E' L') (rest2 l E') d a=Gr.ite ((tokAt l (a + 0)).kind==1) (fun d a=>Gr.ite (Pp.word (tokAt l (a + 1)) ⟨#[58,61]⟩) (Gr.bind (adv l) fun t=>Gr.bind (adv l) fun _=>Gr.bind E fun e=>Gr.pure (Nd.mk 11 t [e])) (Gr.ite (Pp.word (tokAt l (a + 1)) ⟨#[58]⟩) (Gr.bind (adv l) fun t=>Gr.bind (adv l) fun _=>Gr.bind (isG l ⟨#[102,111,114]⟩) fun b=>Gr.ite b (Gr.bind L fun x=>Gr.pure (Nd.mk 19 t [x])) Gr.fail) (restG l E)) d a) (restG l E) d a;simp only[Gr.ite,e1,e2,Nat.add_zero];cases h1:(tokAt l a).kind==1 with
 | false=>exact hr
 | true=>
  have h7:((tokAt l a).kind==7)=false:=by
   have:(tokAt l a).kind=1:=by simpa using h1
   rw[this];rfl
  cases h4:(tokAt l (a + 1)).kind==4 with
  | false=>exact hr
  | true=>
   have h47:((tokAt l (a + 1)).kind==7)=false:=by
    have:(tokAt l (a + 1)).kind=4:=by simpa using h4
    rw[this];rfl
   simp only[h4,Bool.true_and]at e1 e2;cases h2:(tokAt l (a + 1)).text.toList== [58,61]with
   | true=>
    simp only[Bool.true_and,Bool.true_or,if_true,Gr.bind,Gr.adv,h7,h47,Bool.false_eq_true,if_false,Res.andThen,ass2,isG,e1,h2,Gr.ite];rcases hE d (a + 1 + 1) True.intro with q | q
    ·exact .inl (by rw[q])
    ·exact .inr (by rw[q])
   | false=>
    cases h3:(tokAt l (a + 1)).text.toList== [58]with
    | false=>exact hr
    | true=>
     simp only[Bool.true_and,Bool.false_or,Bool.or_true,if_true,Gr.bind,Gr.adv,h7,h47,Bool.false_eq_true,if_false,Res.andThen,ass2,isG,e1,h2,h3,Gr.ite];cases hf:Pp.word (tokAt l (a + 1 + 1)) ⟨#[102,111,114]⟩with
     | true=>
      rcases hL d (a + 1 + 1) hf with q | q
      ·exact .inl (by rw[if_pos rfl,q])
      ·exact .inr (by rw[if_pos rfl,q])
     | false=>exact .inr (by rw[hL2 d _ hf];rfl)
theorem fors2_no {E B:GN} {d a:Nat} (h:Pp.word (tokAt l a) ⟨#[102,111,114]⟩=false):fors2 l E B d a= .bad a:=by
 simp only[fors2,Gr.bind,wantG,h,Bool.false_eq_true,if_false,Res.andThen]
theorem le_stmt {V C B I L R M V' C' B' I' L' M' E':GN} (hV:LeP (fun a=>Pp.word (tokAt l a) ⟨#[118,97,114]⟩=true) V V') (hC:LeP (fun a=>Pp.word (tokAt l a) ⟨#[99,111,110,115,116]⟩=true) C C') (hB:LeP Al B B') (hI:LeP (fun a=>Pp.word (tokAt l a) ⟨#[105,102]⟩=true) I I')
  (hL:LeP (fun a=>Pp.word (tokAt l a) ⟨#[102,111,114]⟩=true) L L') (hR:LeP Al R (back2 l E')) (hM:LeP Al M M'):LeP Al (stmtG l V C B I L R M) (stmt2 l V' C' B' I' L' M' E'):=by
 unfold stmtG stmt2;refine LeP.isA hV (LeP.isA hC (LeP.isA (LeP.all hB) (LeP.isA hI (LeP.isA hL (LeP.isA (LeP.all hR) ?_)))));intro d a _;simp only[Gr.bind,isG,Res.andThen,Gr.ite];cases h6:Pp.word (tokAt l a) ⟨#[98,114,101,97,107]⟩with
 | true=>
  rw[word_two h6 (show((⟨#[98,114,101,97,107]⟩:ByteArray).toList==(⟨#[99,111,110,116,105,110,117,101]⟩:ByteArray).toList)=false by kernel_rfl)];exact le_leave (P:=Al) false 17 rfl d a True.intro
 | false=>
  cases h7:Pp.word (tokAt l a) ⟨#[99,111,110,116,105,110,117,101]⟩with
  | true=>exact le_leave (P:=Al) true 18 rfl d a True.intro
  | false=>exact hM d a True.intro
theorem le_decl {V C S F V' C' S' F':GN} (hV:LeP (fun a=>Pp.word (tokAt l a) ⟨#[118,97,114]⟩=true) V V') (hC:LeP (fun a=>Pp.word (tokAt l a) ⟨#[99,111,110,115,116]⟩=true) C C') (hS:LeP (fun a=>Pp.word (tokAt l a) ⟨#[116,121,112,101]⟩=true) S S') (hF:LeP (fun a=>Pp.word (tokAt l a) ⟨#[102,117,110,99]⟩=true) F F'):LeP Al (declG l V C S F) (decl2 l V' C' S' F'):=by
 unfold declG decl2;exact LeP.isA hV (LeP.isA hC (LeP.isA hS (LeP.isA hF LeP.rfl')))
theorem le_curlyL {S S':GN} (hS:LeP Al S S') {N M:Nat} (hN:1≤N) (hM:N≤M):∀(n m:Nat) (ks:List Nd),n≤m→LeP Al (Gr.bind (semisG l N) fun _=>curlyLG l S N n ks) (blockL2 l S' M m ks)
 | 0,m,ks,h=>fun d a _=>by
  simp only[Gr.bind];rcases semis_nb (l:=l) N d a with q | ⟨a',q⟩
  ·exact .inl (by rw[q];rfl)
  ·exact .inl (by rw[q];rfl)
 | n + 1,0,ks,h=>by omega
 | n + 1,m + 1,ks,h=>by
  have ih:=fun ks=>le_curlyL hS hN hM n m ks (by omega)
  unfold blockL2 curlyLG;refine LeP.bind (semis_mono hM) fun _=>LeP.isA LeP.rfl' (LeP.bind hS fun x=>LeP.isA (fun d a hw=> ?_) (LeP.to fun _=>ih _))
  have:=ih (ks ++ [x]) d a True.intro;simp only[Gr.bind,semis_word hN hw,Res.andThen]at this;exact this
theorem le_curly {S S':GN} (hS:LeP Al S S') {N M:Nat} (hN:1≤N) (hM:N≤M) (F:Int→List Nd→Nd):LeP P (Gr.bind (curlyG l S N) fun r=>Gr.pure (F r.1 r.2)) (Gr.bind Gr.here fun t=>Gr.bind (braced2 l S' M) fun ks=>Gr.pure (F t ks)):=by
 intro d a _;have h1:=le_curlyL (l:=l) hS hN hM N M [] hM (d + 1) (a + 1) True.intro;simp only[curlyG,braced2,Gr.bind,isG,Gr.here,Res.andThen,Gr.ite];cases hw:Pp.word (tokAt l a) ⟨#[123]⟩with
 | false=>exact .inr rfl
 | true=>
  simp only[if_true,Gr.nest]
  by_cases hd:40 < d + 1
  ·rw[if_pos hd,if_pos hd];exact .inr rfl
  ·rw[if_neg hd,if_neg hd];simp only[Gr.adv,word_ne7 hw,curly2,Gr.bind,wantG,hw,if_true,Bool.false_eq_true,if_false,Res.andThen];simp only[Gr.bind]at h1;rcases semis_nb (l:=l) N (d + 1) (a + 1)with q | ⟨a',q⟩
   ·exact .inl (by rw[q])
   ·rw[q]at h1⊢;simp only[Res.andThen]at h1⊢;rcases h1 with q2 | q2
    ·exact .inl (by rw[q2])
    ·rw[q2];refine .inr ?_;cases curlyLG l S N N [] (d + 1) a' with
     | ok ks a2=>
      dsimp only;cases Pp.word (tokAt l a2) ⟨#[125]⟩ <;> rfl
     | bad k=>rfl
     | out=>rfl
theorem le_block {S S':GN} (hS:LeP Al S S') {N M:Nat} (hN:1≤N) (hM:N≤M):LeP P (blockG l S N) (block2 l S' M):=le_curly hS hN hM fun t ks=> .mk 10 t ks
theorem le_structure {N M:Nat} (hN:1≤N) (hM:N≤M):LeP (fun a=>Pp.word (tokAt l a) ⟨#[116,121,112,101]⟩=true) (structureG l N) (structs2 l M):=
 LeP.adv fun _=>LeP.to fun t=>LeP.to fun _=>le_curly (S:=fieldG l) (S':=field2 l) LeP.rfl' hN hM fun _ ks=> .mk 6 t ks
theorem word_ne1 {t:Tok} {s:ByteArray} (h:Pp.word t s=true):(t.kind==1)=false∧(t.kind==2)=false∧(t.kind==3)=false:=by
 rcases word_kind h with q | q <;> rw[q] <;> exact⟨rfl,rfl,rfl⟩
theorem le_funcR:∀(n m:Nat) (ks:List Nd),n + 1≤m→LeP Al (Gr.bind (isG l ⟨#[41]⟩) fun c=>Gr.ite c (funcLG l n ks) (Gr.bind (wantG l ⟨#[44]⟩) fun _=>Gr.bind (isG l ⟨#[41]⟩) fun e=>Gr.ite e Gr.fail (funcLG l n ks))) (funcL2 l m false ks)
 | _,0,ks,h=>by omega
 | n,m + 1,ks,h=>by
  unfold funcL2;refine LeP.isA (fun d a hw=> ?_) (LeP.to fun _=> ?_)
  ·cases n with
   | zero=>exact .inl rfl
   | succ n=>exact .inr (by simp only[funcLG,Gr.bind,isG,Res.andThen,hw,Gr.ite,if_true])
  ·intro d a _;simp only[Gr.bind,isG,Res.andThen,Gr.ite];cases hw:Pp.word (tokAt l a) ⟨#[41]⟩with
   | true=>exact .inr (by simp only[kindG,(word_ne1 hw).1,Bool.false_eq_true,if_false,if_true];rfl)
   | false=>
    cases n with
    | zero=>exact .inl rfl
    | succ n=>
     have ih:=fun ks=>le_funcR n m ks (by omega)
     have : LeP Al (Gr.bind (kindG l 1) fun t => Gr.bind (typG l) fun y => Gr.bind (isG l ⟨#[41]⟩) fun c => Gr.ite c (funcLG l n (ks ++ [.mk 9 t [y]])) (Gr.bind (wantG l ⟨#[44]⟩) fun _ => Gr.bind (isG l ⟨#[41]⟩) fun e => Gr.ite e Gr.fail (funcLG l n (ks ++ [.mk 9 t [y]]))))
         (Gr.bind (kindG l 1) fun t=>Gr.bind (types2 l) fun y=>funcL2 l m false (ks ++ [.mk 9 t [y]])):=LeP.to fun t=>LeP.bind le_typ fun y=>ih _
     have:=this d a True.intro;simp only[Bool.false_eq_true,if_false];rw[show funcLG l (n + 1) ks d a=(Gr.bind (kindG l 1) fun t=>Gr.bind (typG l) fun y=>Gr.bind (isG l ⟨#[41]⟩) fun c=>Gr.ite c (funcLG l n (ks ++ [.mk 9 t [y]])) (Gr.bind (wantG l ⟨#[44]⟩) fun _=>Gr.bind (isG l ⟨#[41]⟩) fun e=>Gr.ite e Gr.fail (funcLG l n (ks ++ [.mk 9 t [y]])))) d a by
      rw[funcLG];simp only[Gr.bind,isG,Res.andThen,Gr.ite,hw,Bool.false_eq_true,if_false]]
     exact this
theorem le_funcL:∀(n m:Nat) (ks:List Nd),n + 1≤m→LeP P (funcLG l n ks) (funcL2 l m true ks)
 | 0,m,ks,h=>fun d a _=> .inl rfl
 | n + 1,0,ks,h=>by omega
 | n + 1,m + 1,ks,h=>by
  unfold funcL2 funcLG;exact LeP.isA LeP.rfl' (LeP.to fun t=>LeP.bind le_typ fun y=>le_funcR n m _ (by omega))
theorem le_function {B B':GN} (hB:LeP Al B B') {N M:Nat} (hM:N + 1≤M):LeP (fun a=>Pp.word (tokAt l a) ⟨#[102,117,110,99]⟩=true) (functionG l B N) (funcs2 l B' M):=by
 refine LeP.adv fun _=>LeP.to fun t=>LeP.to fun _=>LeP.bind (le_funcL N M [] hM) fun ks=>LeP.to fun _=> ?_
 show LeP Al (Gr.bind (kqG l 1) fun b=>Gr.ite b (Gr.bind (typG l) fun y=>Gr.bind B fun b=>Gr.pure (Nd.mk 8 t (ks ++ [y] ++ [b]))) (Gr.bind B fun b=>Gr.pure (.mk 8 t (ks ++ [b])))) _;exact LeP.to fun _=>LeP.ite (LeP.bind le_typ fun _=>LeP.bind hB fun _=>LeP.rfl') (LeP.bind hB fun _=>LeP.rfl')
def Shuts (l:List Tok) (E:GN):Prop:=∀d a,Pp.word (tokAt l a) ⟨#[41]⟩=true→E d a= .bad a
theorem le_callR {E E':GN} (hE:LeP Al E E') (hs:Shuts l E'):∀(n m:Nat) (ks:List Nd),n + 1≤m→LeP Al (Gr.bind (isG l ⟨#[41]⟩) fun c=>Gr.ite c (callLG l E n ks) (Gr.bind (wantG l ⟨#[44]⟩) fun _=>Gr.bind (isG l ⟨#[41]⟩) fun e=>Gr.ite e Gr.fail (callLG l E n ks))) (callL2 l E' m false ks)
 | _,0,ks,h=>by omega
 | n,m + 1,ks,h=>by
  unfold callL2;refine LeP.isA (fun d a hw=> ?_) (LeP.to fun _=> ?_)
  ·cases n with
   | zero=>exact .inl rfl
   | succ n=>exact .inr (by simp only[callLG,Gr.bind,isG,Res.andThen,hw,Gr.ite,if_true])
  ·intro d a _;simp only[Gr.bind,isG,Res.andThen,Gr.ite];cases hw:Pp.word (tokAt l a) ⟨#[41]⟩with
   | true=>exact .inr (by rw[hs d a hw];rfl)
   | false=>
    cases n with
    | zero=>exact .inl rfl
    | succ n=>
     have ih:=fun ks=>le_callR hE hs n m ks (by omega)
     have : LeP Al (Gr.bind E fun x => Gr.bind (isG l ⟨#[41]⟩) fun c => Gr.ite c (callLG l E n (ks ++ [x])) (Gr.bind (wantG l ⟨#[44]⟩) fun _ => Gr.bind (isG l ⟨#[41]⟩) fun e => Gr.ite e Gr.fail (callLG l E n (ks ++ [x]))))
         (Gr.bind E' fun x=>callL2 l E' m false (ks ++ [x])):=LeP.bind hE fun x=>ih _
     have:=this d a True.intro;simp only[Bool.false_eq_true,if_false];rw[show callLG l E (n + 1) ks d a=(Gr.bind E fun x=>Gr.bind (isG l ⟨#[41]⟩) fun c=>Gr.ite c (callLG l E n (ks ++ [x])) (Gr.bind (wantG l ⟨#[44]⟩) fun _=>Gr.bind (isG l ⟨#[41]⟩) fun e=>Gr.ite e Gr.fail (callLG l E n (ks ++ [x])))) d a by
      rw[callLG];simp only[Gr.bind,isG,Res.andThen,Gr.ite,hw,Bool.false_eq_true,if_false]]
     exact this
theorem le_callL {E E':GN} (hE:LeP Al E E') (hs:Shuts l E'):∀(n m:Nat) (ks:List Nd),n + 1≤m→LeP P (callLG l E n ks) (callL2 l E' m true ks)
 | 0,m,ks,h=>fun d a _=> .inl rfl
 | n + 1,0,ks,h=>by omega
 | n + 1,m + 1,ks,h=>by
  unfold callL2 callLG;exact LeP.isA LeP.rfl' (LeP.bind hE fun y=>le_callR hE hs n m _ (by omega))
theorem le_call {E E':GN} (hE:LeP Al E E') (hs:Shuts l E') {N M:Nat} (hM:N + 1≤M) (x:Nd):LeP P (callG l E N x) (call2 l E' M x):=
 LeP.nest (LeP.to fun _=>LeP.bind (le_callL hE hs N M [x] hM) fun _=>LeP.rfl')
theorem le_primL {K K':Nd→GN} (hK:∀x,LeP Al (K x) (K' x)):∀(n m:Nat) (x:Nd),n≤m→LeP Al (primLG l K n x) (primL2 l K' m x)
 | 0,m,x,h=>fun d a _=> .inl rfl
 | n + 1,0,x,h=>by omega
 | n + 1,m + 1,x,h=>by
  have ih:=fun x=>le_primL hK n m x (by omega)
  intro d a _;rw[primLG,primL2];simp only[Gr.bind,isG,Res.andThen,Gr.ite];cases h1:Pp.word (tokAt l a) ⟨#[40]⟩with
  | true=>
   rw[word_two h1 (show((⟨#[40]⟩:ByteArray).toList==(⟨#[46]⟩:ByteArray).toList)=false by kernel_rfl)];exact LeP.bind (hK x) (fun y=>ih y) d a True.intro
  | false=>
   cases h2:Pp.word (tokAt l a) ⟨#[46]⟩with
   | true=>exact LeP.to (P:=Al) (s:=adv l) (fun _=>LeP.to (s:=kindG l 1) fun t=>ih (.mk 27 t [x])) d a True.intro
   | false=>exact .inr rfl
theorem le_prim {E E':GN} (hE:LeP Al E E') {K K':Nd→GN} (hK:∀x,LeP Al (K x) (K' x)) {N M:Nat} (hM:N≤M):LeP Al (primG l (firstG l E) K N) (prim2 l E' K' M):=by
 have ih:=fun x=>le_primL (l:=l) hK N M x hM
 unfold primG firstG prim2;show LeP Al (Gr.bind (Gr.bind (look l 0) fun t=>Gr.ite (t.kind==1) _ _) _) _;intro d a _;simp only[Gr.bind,look,kqG,isG,Res.andThen,Gr.ite,Nat.add_zero];cases h1:(tokAt l a).kind==1 with
 | true=>
  have:=LeP.to (P:=Al) (s:=adv l) (fun o=>ih (.mk 20 o [])) d a True.intro;simp only[Gr.bind]at this;simp only[if_true,Gr.pure];cases hadv:adv l d a with
  | ok o a1=>rw[hadv]at this;exact this
  | bad k=>exact .inr rfl
  | out=>exact .inl rfl
 | false=>
  cases h2:(tokAt l a).kind==2 with
  | true=>
   have:=LeP.to (P:=Al) (s:=adv l) (fun o=>ih (.mk 21 o [])) d a True.intro;simp only[Gr.bind]at this;simp only[if_true,Gr.pure,Bool.false_eq_true,if_false];cases hadv:adv l d a with
   | ok o a1=>rw[hadv]at this;exact this
   | bad k=>exact .inr rfl
   | out=>exact .inl rfl
  | false=>
   cases h3:(tokAt l a).kind==3 with
   | true=>
    have:=LeP.to (P:=Al) (s:=adv l) (fun o=>ih (.mk 22 o [])) d a True.intro;simp only[Gr.bind]at this;simp only[if_true,Gr.pure,Bool.false_eq_true,if_false];cases hadv:adv l d a with
    | ok o a1=>rw[hadv]at this;exact this
    | bad k=>exact .inr rfl
    | out=>exact .inl rfl
   | false=>
    cases h4:Pp.word (tokAt l a) ⟨#[40]⟩with
    | false=>exact .inr rfl
    | true=>exact LeP.bind (P:=Al) (LeP.nest (LeP.to (s:=adv l) fun o=>LeP.bind hE fun x=>LeP.to (s:=wantG l ⟨#[41]⟩) fun _=>LeP.rfl' (s:=Gr.pure (.mk 25 o [x])))) (fun x=>ih x) d a True.intro
theorem prim2_shut {E:GN} {K:Nd→GN} {N:Nat}:Shuts l (prim2 l E K N):=by
 intro d a h;obtain⟨h1,h2,h3⟩:=word_ne1 h;have h4:=word_two h (show((⟨#[41]⟩:ByteArray).toList==(⟨#[40]⟩:ByteArray).toList)=false by kernel_rfl);simp only[prim2,Gr.bind,kqG,isG,Res.andThen,Gr.ite,h1,h2,h3,h4,Bool.false_eq_true,if_false];rfl
theorem unary2_shut {U F:GN} (hF:Shuts l F):Shuts l (unary2 l U F):=by
 intro d a h;have h1:=word_two h (show((⟨#[41]⟩:ByteArray).toList==(⟨#[45]⟩:ByteArray).toList)=false by kernel_rfl);have h2:=word_two h (show((⟨#[41]⟩:ByteArray).toList==(⟨#[33]⟩:ByteArray).toList)=false by kernel_rfl);simp only[unary2,Gr.bind,isG,Res.andThen,Gr.ite,h1,h2,Bool.false_eq_true,if_false];exact hF d a h
theorem exprT2_shut {U:GN} {N:Nat} (hU:Shuts l U):∀j,Shuts l (exprT2 l U N j)
 | 0=>hU
 | j + 1=>fun d a h=>by simp only[exprT2,Gr.bind,exprT2_shut hU j d a h,Res.andThen]
theorem le_fileD {D D':GN} (hD:LeP Al D D') {N M:Nat} (hM:N≤M):∀(n m:Nat) (ks:List Nd),n≤m→LeP Al (Gr.bind (semisG l N) fun _=>fileDG l D N n ks) (fileL2 l D' M m false ks)
 | 0,m,ks,h=>fun d a _=>by
  simp only[Gr.bind];rcases semis_nb (l:=l) N d a with q | ⟨a',q⟩
  ·exact .inl (by rw[q];rfl)
  ·exact .inl (by rw[q];rfl)
 | n + 1,0,ks,h=>by omega
 | n + 1,m + 1,ks,h=>by
  have ih:=fun ks=>le_fileD hD hM n m ks (by omega)
  unfold fileL2 fileDG;refine LeP.bind (semis_mono hM) fun _=> ?_
  intro d a _;rw[look_at,kq_at,Nat.add_zero];rcases Bool.eq_false_or_eq_true ((tokAt l a).kind==7)with h7 | h7
  ·rw[ite_f (bne_t h7),ite_t h7];exact .inr rfl
  ·rw[ite_t (bne_f h7),ite_f h7,is_at,ite_f (Bool.false_and _)];exact LeP.bind hD (fun x=>LeP.to (s:=kindG l 6) fun _=>ih (ks ++ [x])) d a True.intro
theorem le_fileI {D D':GN} (hD:LeP Al D D') {N M:Nat} (hM:N≤M) (n2:Nat):∀(n m:Nat) (ks:List Nd),n + n2≤m→LeP Al (Gr.bind (semisG l N) fun _=>Gr.bind (fileIG l N n ks) fun ks2=>fileDG l D N n2 ks2) (fileL2 l D' M m true ks)
 | 0,m,ks,h=>fun d a _=>by
  simp only[Gr.bind];rcases semis_nb (l:=l) N d a with q | ⟨a',q⟩
  ·exact .inl (by rw[q];rfl)
  ·exact .inl (by rw[q];rfl)
 | n + 1,0,ks,h=>by omega
 | n + 1,m + 1,ks,h=>by
  have ih:=fun ks=>le_fileI hD hM n2 n m ks (by omega)
  have e:(Gr.bind (fileIG l N (n + 1) ks) fun ks2=>fileDG l D N n2 ks2)=Gr.bind (isG l ⟨#[105,109,112,111,114,116]⟩) fun b=>Gr.ite b (Gr.bind (adv l) fun _=>Gr.bind (kindG l 1) fun t=>Gr.bind (kindG l 6) fun _=>Gr.bind (semisG l N) fun _=>Gr.bind (fileIG l N n (ks ++ [.mk 3 t []])) fun ks2=>fileDG l D N n2 ks2) (fileDG l D N n2 ks):=by
   rw[fileIG,bind_assoc]
   congr 1;funext b
   cases b with
   | true=>rw[ite_t rfl,ite_t rfl];simp only[bind_assoc]
   | false=>rw[ite_f rfl,ite_f rfl];rfl
  rw[e];unfold fileL2;refine LeP.bind (semis_mono hM) fun _=> ?_
  intro d a _;rw[is_at,kq_at];rcases Bool.eq_false_or_eq_true ((tokAt l a).kind==7)with h7 | h7
  ·have hw:Pp.word (tokAt l a) ⟨#[105,109,112,111,114,116]⟩=false:=by
    rcases Bool.eq_false_or_eq_true (Pp.word (tokAt l a) ⟨#[105,109,112,111,114,116]⟩)with hw | hw
    ·rw[word_ne7 hw]at h7;cases h7
    ·exact hw
   rw[ite_f hw,ite_t h7];cases n2 with
   | zero=>exact .inl rfl
   | succ n2=>
    rw[fileDG,look_at,Nat.add_zero,ite_f (bne_t h7)];exact .inr rfl
  ·rw[ite_f h7,is_at,Bool.true_and];rcases Bool.eq_false_or_eq_true (Pp.word (tokAt l a) ⟨#[105,109,112,111,114,116]⟩)with hw | hw
   ·rw[ite_t hw,ite_t hw];exact LeP.to (P:=Al) (s:=adv l) (fun _=>LeP.to (s:=kindG l 1) fun t=>LeP.to (s:=kindG l 6) fun _=>ih (ks ++ [.mk 3 t []])) d a True.intro
   ·rw[ite_f hw,ite_f hw];cases n2 with
    | zero=>exact .inl rfl
    | succ n2=>
     have ih2:=fun ks=>le_fileD (l:=l) hD hM n2 m ks (by omega)
     rw[fileDG,look_at,Nat.add_zero,ite_t (bne_f h7)];exact LeP.bind hD (fun x=>LeP.to (s:=kindG l 6) fun _=>ih2 (ks ++ [x])) d a True.intro
theorem le_file {D D':GN} (hD:LeP Al D D') {N M:Nat} (hM:N + N≤M):LeP Al (fileG l D N) (file2 l D' M):=by
 unfold fileG file2;refine LeP.to fun _=>LeP.to fun t=>LeP.to fun _=> ?_
 have h:=le_fileI (l:=l) hD (N:=N) (M:=M) (by omega) N N M [.mk 2 t []] (by omega);have e:(Gr.bind (semisG l N) fun _=>Gr.bind (fileIG l N N [Nd.mk 2 t []]) fun ks=>Gr.bind (fileDG l D N N ks) fun ks2=>Gr.pure (Nd.mk 1 0 ks2))=Gr.bind (Gr.bind (semisG l N) fun _=>Gr.bind (fileIG l N N [Nd.mk 2 t []]) fun ks=>fileDG l D N N ks) fun ks2=>Gr.pure (Nd.mk 1 0 ks2):=by
  simp only[bind_assoc]
 rw[e];exact LeP.bind h fun ks=>LeP.rfl'
end Gr
end Go.Proofs.Dm
set_option maxHeartbeats 4000000
namespace Go.Proofs.Dm
open Go Go.Proofs Go.Proofs.Dm.Sc
namespace Gr
variable {α β:Type} {l:List Tok}
theorem exprL2_mono (X:GN) (k:Int):∀(n m:Nat) (x:Nd),n≤m→LeP Al (exprL2 l X k n x) (exprL2 l X k m x)
 | 0,m,x,h=>fun d a _=> .inl rfl
 | n + 1,0,x,h=>by omega
 | n + 1,m + 1,x,h=>by
  unfold exprL2;exact LeP.to fun t=>LeP.ite (LeP.ite (LeP.to fun o=>LeP.to fun y=>exprL2_mono X k n m _ (by omega)) LeP.rfl') LeP.rfl'
def lvl (l:List Tok) (U:GN) (M m i:Nat):Nat→Nd→GN
 | 0,x=>Gr.pure x
 | k + 1,x=>Gr.bind (lvl l U M m i k x) fun y=>exprL2 l (exprT2 l U M (i + k)) (5 -((i + k:Nat):Int)) m y
theorem exprT2_lvl (U:GN) (M:Nat):∀j,exprT2 l U M j=Gr.bind U fun x=>lvl l U M M 0 j x
 | 0=>by
  funext d a
  simp only[exprT2,lvl,Gr.bind,Gr.pure];cases U d a <;> rfl
 | j + 1=>by
  show(Gr.bind (exprT2 l U M j) fun x=>exprL2 l (exprT2 l U M j) (5 -(j:Int)) M x)=_
  conv=>lhs;arg 1;rw[exprT2_lvl U M j]
  rw[bind_assoc]
  congr 1;funext x
  simp only[lvl,Nat.zero_add]
theorem lvl_split (U:GN) (M m i j:Nat) (x:Nd):∀k,lvl l U M m i (j + k) x=Gr.bind (lvl l U M m i j x) fun y=>lvl l U M m (i + j) k y
 | 0=>by
  funext d a
  simp only[lvl,Gr.bind,Gr.pure,Nat.add_zero];cases lvl l U M m i j x d a <;> rfl
 | k + 1=>by
  show lvl l U M m i ((j + k)+ 1) x=_;rw[lvl,lvl_split U M m i j x k,bind_assoc]
  congr 1;funext y
  rw[lvl,show i +(j + k)=i + j + k by omega]
theorem lvl_mono (U:GN) (M:Nat) {m m':Nat} (h:m≤m') (i:Nat):∀(k:Nat) (x:Nd),LeP Al (lvl l U M m i k x) (lvl l U M m' i k x)
 | 0,x=>LeP.rfl'
 | k + 1,x=>LeP.bind (lvl_mono U M h i k x) fun y=>exprL2_mono _ _ m m' y h
def Ends (l:List Tok) (r:Int) (a:Nat):Prop:=(tokAt l a).kind≠4∨Pp.rank (tokAt l a).text < r∨Pp.rank (tokAt l a).text=0
theorem lvl_pass (U:GN) (M:Nat) {m:Nat} (hm:1≤m) {d a:Nat}:∀(k:Nat) (x:Nd),k≤5→Ends l (6 -(k:Int)) a→lvl l U M m 0 k x d a= .ok x a
 | 0,x,_,h=>rfl
 | k + 1,x,hk,h=>by
  have h':Ends l (6 -(k:Int)) a:=by
   rcases h with q | q | q
   ·exact .inl q
   ·exact .inr (.inl (by omega))
   ·exact .inr (.inr q)
  rw[lvl];simp only[Gr.bind,lvl_pass U M hm k x (by omega) h',Res.andThen,Nat.zero_add];obtain⟨m',rfl⟩:∃m',m=m' + 1:=⟨m - 1,by omega⟩
  rw[exprL2,tok_at];rcases Bool.eq_false_or_eq_true ((tokAt l a).kind==4)with h4 | h4
  ·rw[ite_t h4];have hne:(Pp.rank (tokAt l a).text==(5 -(k:Int)))=false:=by
    have h4':(tokAt l a).kind=4:=by simpa using h4
    rcases h with q | q | q
    ·exact absurd h4' q
    ·simp;omega
    ·simp;omega
   rw[ite_f hne];rfl
  ·rw[ite_f h4];rfl
theorem lvl_from (U:GN) (M:Nat) {m:Nat} (hm:1≤m) {d a r k:Nat} (hr:r≤5) (h:Ends l (6 -(r:Int)) a) (x:Nd):lvl l U M m 0 (r +(1 + k)) x d a=Gr.bind (exprL2 l (exprT2 l U M r) (5 -(r:Int)) m x) (fun z=>lvl l U M m (r + 1) k z) d a:=by
 rw[lvl_split U M m 0 r x (1 + k)];simp only[Gr.bind,lvl_pass U M hm r x hr h,Res.andThen,Nat.zero_add];rw[lvl_split U M m r 1 x k];rfl
theorem le_binaryL {U':GN} {M:Nat} {Y:Int→GN} (hY:∀r:Nat,r≤4→LeP Al (Y (6 -(r:Int))) (exprT2 l U' M r)) (hE:∀(r:Int) d a y a',Y r d a= .ok y a'→Ends l r a'):
  ∀(n m j:Nat) (x:Nd),n≤m→j≤5→LeP Al (binaryLG l Y n (6 -(j:Int)) x) (lvl l U' M m 0 j x)
 | 0,m,j,x,h,hj=>fun d a _=> .inl rfl
 | n + 1,m,j,x,h,hj=>by
  intro d a _;rw[binaryLG,look_at,Nat.add_zero];have hr:=rank_le (tokAt l a).text;rcases Bool.eq_false_or_eq_true ((tokAt l a).kind==4)with h4 | h4
  rotate_left
  ·rw[ite_t (bne_f h4)];refine .inr ?_;exact lvl_pass U' M (by omega) j x hj (.inl (by simpa using h4))
  rw[ite_f (bne_t h4)];rcases Bool.eq_false_or_eq_true (decide (Pp.rank (tokAt l a).text < 6 -(j:Int)))with h1 | h1
  ·rw[ite_t h1];exact .inr (lvl_pass U' M (by omega) j x hj (.inr (.inl (by simpa using h1))))
  rw[ite_f h1];rcases Bool.eq_false_or_eq_true (Pp.rank (tokAt l a).text==0)with h0 | h0
  ·rw[ite_t h0];exact .inr (lvl_pass U' M (by omega) j x hj (.inr (.inr (by simpa using h0))))
  rw[ite_f h0];have h1':¬Pp.rank (tokAt l a).text < 6 -(j:Int):=by simpa using h1
  have h0':Pp.rank (tokAt l a).text≠0:=by simpa using h0
  obtain⟨r,hr'⟩:∃r:Nat,Pp.rank (tokAt l a).text=5 -(r:Int):=⟨(5 - Pp.rank (tokAt l a).text).toNat,by omega⟩
  obtain⟨k,rfl⟩:∃k,j=r +(1 + k):=⟨j - r - 1,by omega⟩
  obtain⟨m',rfl⟩:∃m',m=m' + 1:=⟨m - 1,by omega⟩
  have hr4:r≤4:=by omega
  have e1:Pp.rank (tokAt l a).text + 1=6 -(r:Int):=by omega
  have e2:(Pp.rank (tokAt l a).text==5 -(r:Int))=true:=by simp;omega
  have hR:lvl l U' M (m' + 1) 0 (r +(1 + k)) x d a=Gr.bind (adv l) (fun o=>Gr.bind (exprT2 l U' M r) fun y=>Gr.bind (exprL2 l (exprT2 l U' M r) (5 -(r:Int)) m' (.mk 24 o [x,y])) fun z=>lvl l U' M (m' + 1) (r + 1) k z) d a:=by
   rw[lvl_from U' M (by omega) (by omega) (.inr (.inl (by omega))) x,exprL2,bind_assoc,tok_at,ite_t h4,ite_t e2,bind_assoc]
   congr 1;funext o
   rw[bind_assoc]
  rw[hR,e1];refine LeP.to (P:=Al) (s:=adv l) (fun o=>LeP.bindQ (Q:=fun _ a'=>Ends l (6 -(r:Int)) a') (hY r hr4) (fun d a y a' _ h=>hE _ d a y a' h) fun y=> ?_) d a True.intro;intro d a' hend;rcases Nat.eq_zero_or_pos n with hn | hn
  ·subst hn;exact .inl rfl
  ·have ih:=le_binaryL hY hE n m' (r +(1 + k)) (.mk 24 o [x,y]) (by omega) hj d a' True.intro;rw[lvl_from U' M (by omega) (by omega) hend]at ih;have h2:=LeP.to (P:=Al) (s:=exprL2 l (exprT2 l U' M r) (5 -(r:Int)) m' (.mk 24 o [x,y])) (fun z=>lvl_mono (l:=l) U' M (Nat.le_succ m') (r + 1) k z) d a' True.intro;rcases ih with q | q
   ·exact .inl q
   ·rcases h2 with q2 | q2
    ·exact .inl (by rw[←q];exact q2)
    ·exact .inr (by rw[q2,q])
theorem binaryL_ends {Y:Int→GN}:∀(n:Nat) (rk:Int) (x:Nd) (d a:Nat) (y:Nd) (a':Nat),binaryLG l Y n rk x d a= .ok y a'→Ends l rk a'
 | 0,rk,x,d,a,y,a',h=>by simp[binaryLG,stop]at h
 | n + 1,rk,x,d,a,y,a',h=>by
  rw[binaryLG,look_at,Nat.add_zero]at h;rcases Bool.eq_false_or_eq_true ((tokAt l a).kind==4)with h4 | h4
  rotate_left
  ·rw[ite_t (bne_f h4)]at h;injection h with h5 h6
   subst h6;exact .inl (by simpa using h4)
  rw[ite_f (bne_t h4)]at h;rcases Bool.eq_false_or_eq_true (decide (Pp.rank (tokAt l a).text < rk))with h1 | h1
  ·rw[ite_t h1]at h;injection h with h5 h6
   subst h6;exact .inr (.inl (by simpa using h1))
  rw[ite_f h1]at h;rcases Bool.eq_false_or_eq_true (Pp.rank (tokAt l a).text==0)with h0 | h0
  ·rw[ite_t h0]at h;injection h with h5 h6
   subst h6;exact .inr (.inr (by simpa using h0))
  rw[ite_f h0]at h;simp only[Gr.bind]at h;cases h5:adv l d a with
  | ok o a1=>
   rw[h5]at h;simp only[Res.andThen]at h;cases h6:Y (Pp.rank (tokAt l a).text + 1) d a1 with
   | ok z a2=>
    rw[h6]at h;exact binaryL_ends n rk _ d a2 y a' h
   | bad k=>rw[h6]at h;cases h
   | out=>rw[h6]at h;cases h
  | bad k=>rw[h5]at h;cases h
  | out=>rw[h5]at h;cases h
theorem binary_ends {U:GN} {Y:Int→GN} {N:Nat} {rk:Int} {d a:Nat} {y:Nd} {a':Nat} (h:binaryG l U Y N rk d a= .ok y a'):Ends l rk a':=by
 simp only[binaryG,Gr.bind]at h;cases h5:U d a with
 | ok o a1=>rw[h5]at h;exact binaryL_ends N rk o d a1 y a' h
 | bad k=>rw[h5]at h;cases h
 | out=>rw[h5]at h;cases h
theorem sf_ends {N:Nat}:∀(n:Nat) (r:Int) (d a:Nat) (y:Nd) (a':Nat),(sf l N n).binary r d a= .ok y a'→Ends l r a'
 | 0,r,d,a,y,a',h=>by simp[sf,stop]at h
 | n + 1,r,d,a,y,a',h=>binary_ends (U:=(sf l N n).unary) (Y:=(sf l N n).binary) h
structure LeF (l:List Tok) (M:Nat) (F:SF) (G:SF2):Prop where
 unary:LeP Al F.unary G.unary
 binary:∀j:Nat,j≤5→LeP Al (F.binary (6 -(j:Int))) (exprT2 l G.unary M j)
 block:LeP Al F.block G.block
 branch:LeP (fun a=>Pp.word (tokAt l a) ⟨#[105,102]⟩=true) F.branch G.ifs
 stmt:LeP Al F.stmt G.stmt
theorem LeF.expr {M:Nat} {F:SF} {G:SF2} (h:LeF l M F G):LeP Al (F.binary 1) (exprE2 l M G.unary):=h.binary 5 (by omega)
theorem sf_le (hk:Keys l) {N M:Nat} (hN:1≤N) (hM:N + 1≤M):∀n m,n + 1≤m→LeF l M (sf l N n) (sf2 l M m)
 | 0,m,h=>⟨fun d a _=> .inl rfl,fun j _ d a _=> .inl rfl,fun d a _=> .inl rfl,fun d a _=> .inl rfl,fun d a _=> .inl rfl⟩
 | n + 1,0,h=>by omega
 | n + 1,m + 1,h=>by
  have ih:=sf_le hk hN hM n m (by omega);have ih1:=sf_le hk hN hM n (m + 1) (by omega);obtain⟨m0,rfl⟩:∃m0,m=m0 + 1:=⟨m - 1,by omega⟩
  have hs:Shuts l (exprE2 l M (sf2 l M (m0 + 1)).unary):=exprT2_shut (unary2_shut prim2_shut) 5;have hl:=le_loop (l:=l) ih.expr ih.block;refine⟨?_,fun j hj=> ?_,?_,?_,?_⟩
  ·exact le_unary hk ih.unary (le_prim ih.expr (fun x=>le_call ih.expr hs hM x) (by omega))
  ·rw[exprT2_lvl];exact LeP.bind ih1.unary fun x=>le_binaryL (fun r hr=>ih1.binary r (by omega)) (fun r d a y a' h=>sf_ends n r d a y a' h) N M j x (by omega) hj
  ·exact le_block ih.stmt hN (by omega)
  ·exact le_branch ih.expr ih.block ih.branch
  ·exact le_stmt (le_variable ih.expr) (le_constant ih.expr) ih.block ih.branch hl (le_back ih.expr) (le_simple hk ih.expr hl fun d a h=>fors2_no h)
theorem fileS_le (hk:Keys l) {N M n m:Nat} (hN:1≤N) (hM:N + N≤M) (hm:n + 1≤m):LeP Al (fileS l N (sf l N n)) (fileS2 l M (sf2 l M m)):=by
 have h:=sf_le hk hN (by omega:N + 1≤M) n m hm;exact le_file (le_decl (le_variable h.expr) (le_constant h.expr) (le_structure hN (by omega)) (le_function h.block (by omega))) hM
end Gr
end Go.Proofs.Dm
