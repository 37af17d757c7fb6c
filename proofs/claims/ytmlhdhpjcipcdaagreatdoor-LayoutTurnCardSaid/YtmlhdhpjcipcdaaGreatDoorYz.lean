/- Part of the proof: contracts of the functions, walked by the D-machine. No condition. -/
import Derived.Test.YtmlhdhpjcipcdaaGreatDoorFa
import Derived.Lib.Strings
import Derived.Lib.TrimByte
set_option linter.unusedSimpArgs false
set_option linter.unusedVariables false
namespace Go.Proofs.Dm
open Go Go.Proofs
open Sc Fo
namespace La
def opT (o:Int) (t:Tok):Int:=if isO t [123]then o + 1 else if isO t [125]then o - 1 else o
def opens (l:List Tok):Int:=l.foldl opT 0
def tabsS (l:List Tok) (c:Bool):Int×Bool:=
 if c then(opens l - 1,false)else match l.getLast? with
  | none=>(opens l,false)
  | some t=>(opens l,t.kind !=6&& !isO t [123]&& !isO t [125])
def mayS (n:Int) (l:List Tok) (c:Bool):Bool:=n==(tabsS l c).1 ||((tabsS l c).2&&n==(tabsS l c).1 + 1)
def tl9 (s:ByteArray):ByteArray:=⟨(Lib.trimLeftB s.data.toList 9).toArray⟩
def chop (s:ByteArray):ByteArray:=⟨(Lib.trimSuffix s.data.toList [10]).toArray⟩
def skipD (at_:Int):List Tok→Nat→Nat
 | [],n=>n
 | t::r,n=>if t.at_ < at_ then skipD at_ r (n + 1)else n
def emptyB (s:ByteArray):Bool:=s.toList.isEmpty
def badL (L:List ByteArray) (l:List Tok) (i:Nat) (ln:ByteArray) (nx:Nat):Bool:=
 if !((trimR ln).toList==ln.toList)then true
 else if emptyB ln then i==0 || emptyB ((L[i - 1]?).getD ⟨#[]⟩)|| i + 1==L.length
 else Lib.hasPrefix (tl9 ln).data.toList [32] || !mayS ((ln.size:Int)-(tl9 ln).size) (l.take nx) (Lib.hasPrefix (tl9 ln).data.toList [125])
def goF (L:List ByteArray) (l:List Tok):List ByteArray→Nat→Int→Nat→Int
 | [],_,_,_=> -1
 | ln::r,i,at_,n=>
  if badL L l i ln (skipD at_ (l.drop n) n)then(i:Int)+ 1 else goF L l r (i + 1) (at_ +((ln.size:Int)+ 1)) (skipD at_ (l.drop n) n)
theorem opens_take (l:List Tok) (i:Nat) (t:Tok) (h:l[i]? =some t):opens (l.take (i + 1))=opT (opens (l.take i)) t:=by
 unfold opens;rw[List.take_add_one,h];simp[List.foldl_append]
theorem opens_le (l:List Tok) (i:Nat): -(i:Int)≤opens (l.take i)∧opens (l.take i)≤i:=by
 induction i with
 | zero=>exact⟨Int.le_refl _,Int.le_refl _⟩
 | succ i ih=>
  cases h:l[i]? with
  | none=>
   have e:l.take (i + 1)=l.take i:=by rw[List.take_add_one,h];simp
   rw[e];omega
  | some t=>
   rw[opens_take l i t h];unfold opT;split
   ·omega
   ·split <;> omega
theorem skip_le (a:Int):∀(r:List Tok) (n:Nat),skipD a r n≤n + r.length
 | [],n=>Nat.le_refl _
 | t::r,n=>by
  unfold skipD;split
  ·have:=skip_le a r (n + 1);simp only[List.length_cons];omega
  ·simp
end La
end Go.Proofs.Dm
