/- Part of the proof: contracts of the functions, walked by the D-machine. No condition. -/
import Derived.Test.YtmlhdhpjcipcdaaGreatDoorGax
import Derived.Test.YtmlhdhpjcipcdaaGreatDoorGbx
set_option linter.unusedSimpArgs false
set_option linter.unusedVariables false
set_option maxHeartbeats 4000000
namespace Go.Proofs.Dm
open Go Go.Proofs Go.Proofs.Dm.Sc
namespace Gr
variable {α β:Type} {l:List Tok}
def LeP (P:Nat→Prop) (s t:G α):Prop:=∀d a,P a→s d a= .out∨t d a=s d a
def Al:Nat→Prop:=fun _=>True
variable {P:Nat→Prop}
theorem LeP.rfl' {s:G α}:LeP P s s:=fun _ _ _=> .inr rfl
theorem LeP.weak {Q:Nat→Prop} {s t:G α} (h:LeP Q s t) (hq:∀a,P a→Q a):LeP P s t:=fun d a h1=>h d a (hq a h1)
theorem LeP.all {s t:G α} (h:LeP Al s t):LeP P s t:=fun d a _=>h d a True.intro
theorem LeP.trans {s t u:G α} (h1:LeP P s t) (h2:LeP P t u):LeP P s u:=fun d a h=>by
 rcases h1 d a h with q | q
 ·exact .inl q
 ·rcases h2 d a h with r | r
  ·exact .inl (by rw[←q];exact r)
  ·exact .inr (by rw[r,q])
theorem LeP.bindQ {Q:α→Nat→Prop} {s s':G α} {t t':α→G β} (h:LeP P s s') (hq:∀d a x a',P a→s d a= .ok x a'→Q x a') (ht:∀x,LeP (Q x) (t x) (t' x)):LeP P (Gr.bind s t) (Gr.bind s' t'):=by
 intro d a h1;unfold Gr.bind;rcases h d a h1 with q | q
 ·exact .inl (by rw[q];rfl)
 ·rw[q];cases hs:s d a with
  | ok x a'=>exact ht x d a' (hq d a x a' h1 hs)
  | bad k=>exact .inr rfl
  | out=>exact .inl rfl
theorem LeP.bind {s s':G α} {t t':α→G β} (h:LeP P s s') (ht:∀x,LeP Al (t x) (t' x)):LeP P (Gr.bind s t) (Gr.bind s' t'):=LeP.bindQ h (Q:=fun _ _=>True) (fun _ _ _ _ _ _=>True.intro) ht
theorem LeP.to {s:G α} {t t':α→G β} (ht:∀x,LeP Al (t x) (t' x)):LeP P (Gr.bind s t) (Gr.bind s t'):=LeP.bind LeP.rfl' ht
theorem LeP.nest {s s':G α} (h:LeP P s s'):LeP P (Gr.nest s) (Gr.nest s'):=by
 intro d a h1;unfold Gr.nest;split
 ·exact .inr rfl
 ·exact h (d + 1) a h1
theorem LeP.is {w:ByteArray} {s s' t t':G α} (h1:LeP (fun a=>P a∧Pp.word (tokAt l a) w=true) s s') (h2:LeP (fun a=>P a∧Pp.word (tokAt l a) w=false) t t'):LeP P (Gr.bind (isG l w) fun c=>Gr.ite c s t) (Gr.bind (isG l w) fun c=>Gr.ite c s' t'):=by
 intro d a q;simp only[Gr.bind,isG,Res.andThen,Gr.ite];cases h:Pp.word (tokAt l a) w with
 | true=>exact h1 d a ⟨q,h⟩
 | false=>exact h2 d a ⟨q,h⟩
theorem LeP.ite {c:Bool} {s s' t t':G α} (h1:LeP P s s') (h2:LeP P t t'):LeP P (Gr.ite c s t) (Gr.ite c s' t'):=by cases c <;> assumption
theorem word_ne7 {t:Tok} {s:ByteArray} (h:Pp.word t s=true):(t.kind==7)=false:=by
 rcases word_kind h with q | q <;> rw[q] <;> rfl
theorem LeP.adv {w:ByteArray} {t t':Int→G β} (ht:∀x,LeP Al (t x) (t' x)):LeP (fun a=>Pp.word (tokAt l a) w=true) (Gr.bind (Gr.adv l) t) (Gr.bind (wantG l w) t'):=by
 intro d a h;simp only[Gr.bind,Gr.adv,wantG,word_ne7 h,h,Bool.false_eq_true,if_false,if_true,Res.andThen];exact ht _ d (a + 1) True.intro
theorem bind_assoc {γ:Type} (s:G α) (t:α→G β) (u:β→G γ):Gr.bind (Gr.bind s t) u=Gr.bind s fun x=>Gr.bind (t x) u:=by
 funext d a
 simp only[Gr.bind];cases s d a <;> rfl
theorem pure_bind (x:α) (t:α→G β):Gr.bind (Gr.pure x) t=t x:=rfl
theorem is_at (w:ByteArray) (F:Bool→G α) (d a:Nat):Gr.bind (isG l w) F d a=F (Pp.word (tokAt l a) w) d a:=rfl
theorem look_at (k:Nat) (F:Tok→G α) (d a:Nat):Gr.bind (look l k) F d a=F (tokAt l (a + k)) d a:=rfl
theorem ite_t {c:Bool} (h:c=true) (s t:G α):Gr.ite c s t=s:=by subst h;rfl
theorem ite_f {c:Bool} (h:c=false) (s t:G α):Gr.ite c s t=t:=by subst h;rfl
def Keys (l:List Tok):Prop:=∀t∈l,t.kind=5→t.text.toList≠ [45]∧t.text.toList≠ [33]∧t.text.toList≠ [58,61]∧t.text.toList≠ [58]
end Gr
end Go.Proofs.Dm
set_option maxHeartbeats 4000000
namespace Go.Proofs.Dm
open Go Go.Proofs Go.Proofs.Dm.Sc
namespace Gr
variable {α β:Type} {l:List Tok}
structure LeF (l:List Tok) (M:Nat) (F:SF) (G:SF2):Prop where
 unary:LeP Al F.unary G.unary
 binary:∀j:Nat,j≤5→LeP Al (F.binary (6 -(j:Int))) (exprT2 l G.unary M j)
 block:LeP Al F.block G.block
 branch:LeP (fun a=>Pp.word (tokAt l a) ⟨#[105,102]⟩=true) F.branch G.ifs
 stmt:LeP Al F.stmt G.stmt
theorem LeF.expr {M:Nat} {F:SF} {G:SF2} (h:LeF l M F G):LeP Al (F.binary 1) (exprE2 l M G.unary):=h.binary 5 (by omega)
end Gr
end Go.Proofs.Dm

