/- Part of the proof: contracts of the functions, walked by the D-machine. No condition. -/
import Derived.Test.YtmlhdhpjcipcdaaGreatDoorLS1
import Derived.Test.YtmlhdhpjcipcdaaGreatDoorDo
import Derived.Shelf.Strings.SlTrimAscii
import Derived.Shelf.Strings.Split
import Derived.Deep.DeepFit
import Derived.Test.YtmlhdhpjcipcdaaGreatDoorSa
import Derived.Lib.SplitLaws
import Derived.Lib.SlTrimSet
set_option linter.unusedSimpArgs false
set_option linter.unusedVariables false
set_option maxHeartbeats 4000000
set_option maxRecDepth 100000
namespace Go.Proofs
open Go Go.RowKit Go.Shelf
theorem Tryz.sizeBuilder:(Tryz.prog.info? 64).map (·.size)=some 2:=by kernel_rfl
theorem Tryz.copyCheck_used (b k:Nat) (w:World) (h0:w.cell? ⟨b,k,none⟩=some (.pointer (some ⟨b,k,none⟩))):
  Calls Tryz.prog 97 #[.pointer (some ⟨b,k,none⟩)] w fun e w'=>e= .returned (.tuple #[])∧w'=w:=by
 obtain⟨j,hj,_⟩:=Option.map_eq_some_iff.1 Tryz.sizeBuilder
 go_enter Tryz.func97,Tryz.ntmps97
 go_wp2
 rw[Lib.run_neq_ptr_same w _ Tryz.underlying61 hj]
 go_wp2
 go_end0
 exact⟨rfl,rfl⟩
theorem Tryz.copyCheck_fresh (b k T n:Nat) (w:World) (h0:w.cell? ⟨b,k,none⟩=some (.pointer none)) (hsh:w.shape? b=some (T,n)) (hfz:w.frozen? ⟨b,k,none⟩=false) (hk:k < n)
  (hl:liesAt Tryz.prog Tryz.prog.depth T (n / Tryz.prog.cellsOf T) k 64 1=true):
  Calls Tryz.prog 97 #[.pointer (some ⟨b,k,none⟩)] w fun e w'=>e= .returned (.tuple #[])∧w'=w.setCell ⟨b,k,none⟩ (.pointer (some ⟨b,k,none⟩)):=by
 obtain⟨j,hj,hjs⟩:=Option.map_eq_some_iff.1 Tryz.sizeBuilder
 go_enter Tryz.func97,Tryz.ntmps97
 go_wp2
 rw[Lib.run_to_unsafe w ⟨b,k,none⟩ Tryz.underlying61 Tryz.underlying151 hj (by rw[hjs];decide) hsh hk];simp only[Result.andThen];rw[Oper.upon_value]
 go_wp2
 rw[run_callFunc_extern Tryz.func155 (by kernel_rfl) (by kernel_rfl) (by kernel_rfl) (e:=Extern.AbiNoEscape.same) (by kernel_rfl)];rw[Lib.run_noEscape];simp only[Result.andThen];rw[Oper.upon_value]
 go_wp2
 rw[Lib.run_from_unsafe w ⟨b,k,none⟩ Tryz.underlying151 Tryz.underlying61 hj hsh hl];simp only[Result.andThen];rw[Oper.upon_value]
 go_wp2
 go_end0
 exact⟨rfl,rfl⟩
namespace Dm
namespace Fo
open Dm Dm.Sc Go.Proofs.Tryz
attribute [local simp] takes handsOn isTmp Op.operands Call.operands
def fresh (a:DV) (k:Nat):Prop:=(∃T n,a= .bn 0 T n∧k < n∧liesAt Tryz.prog Tryz.prog.depth T (n / Tryz.prog.cellsOf T) k 64 1=true)∨a= .ref 0 k
theorem copyCheck_ok {W0 nb} {box:List DV} {k:Nat} {a:DV} (hk:box[k]? =some a) (ha:fresh a k):DCalls ⟨Tryz.prog,W0,nb⟩ 97 [.ref 0 k] [box] (.tup []) [box.set k (.ref 0 k)]:=by
 refine⟨⟨_,Tryz.func97,by kernel_rfl,rfl⟩,fun w h ow ρ ws har hHR hg=> ?_⟩;simp only[RepDs,RepD]at har;obtain⟨v1,r1,rfl,⟨b,hb,rfl⟩,rfl⟩:=har;have hne:box≠ []:=by rintro rfl;simp at hk
 have hkl:k < box.length:=(List.getElem?_eq_some_iff.1 hk).1;obtain⟨p1,p2,cs,T',hh,hl0,hrr⟩:=hHR.box 0 box b rfl hb hne;obtain⟨v,hv,hr⟩:=hrr.get k _ hk;rw[List.getElem?_take,if_pos hkl,Array.getElem?_toList]at hv;have hx:∀w' O,RepD w' h ρ (.ref 0 k) O (.pointer (some ⟨b,k,none⟩)):=fun w' O=>by simp only[RepD];exact⟨b,hb,rfl⟩
 obtain⟨hfr,hhr⟩:=setCell_hr (id:=0) (d:= .ref 0 k) hHR rfl hb hne hh hkl hx;have hcell:w.cell? ⟨b,k,none⟩=some v:=by rw[Lib.cell_of_heap hh];exact hv
 rcases ha with ⟨T,n,rfl,hkn,hl⟩ | rfl
 ·simp only[RepD]at hr;obtain⟨rfl,b',cs',f',hb',hc',hn⟩:=hr;obtain rfl:b=b':=by rw[hb]at hb';injection hb'
  rw[hh]at hc';injection hc' with hc';injection hc' with e1 e2 e3;subst e1;subst e2
  refine(Tryz.copyCheck_fresh b k T' n w hcell (by simp[World.shape?,hh,hn]) (Lib.frozen_of_heap hh k) hkn hl).mono ?_;rintro e w' ⟨rfl,rfl⟩;exact⟨_,h,ow,[],rfl,hfr,by rw[List.append_nil];exact hhr,by simp only[RepD,RepDs];exact⟨#[],rfl,rfl⟩⟩
 ·simp only[RepD]at hr;obtain⟨b',hb',rfl⟩:=hr;obtain rfl:b=b':=by rw[hb]at hb';injection hb'
  refine(Tryz.copyCheck_used b k w hcell).mono ?_;rintro e w' ⟨rfl,rfl⟩;have hset:box.set k (.ref 0 k)=box:=by
   apply List.ext_getElem?;intro j
   by_cases hj:j=k
   ·subst hj;rw[List.getElem?_set_self hkl,hk]
   ·rw[List.getElem?_set_ne (fun e=>hj e.symm)]
  rw[hset];exact⟨_,h,ow,[],rfl,Fr.refl _ _ _,by rw[List.append_nil];exact hHR,by simp only[RepD,RepDs];exact⟨#[],rfl,rfl⟩⟩
end Fo
end Dm
end Go.Proofs
namespace Go.Proofs.Dm
open Go Go.Proofs
open Sc
namespace Fo
def zeroT:Tok:=⟨0,⟨#[]⟩,0,0,false⟩
def isO (t:Tok) (x:List UInt8):Bool:=t.kind==4&&t.text.toList==x
structure LS where
 out:ByteArray
 opn:Int
 last:Int
 line:Int
 semi:Bool
 aside:Bool
def endT (l:List Tok) (x:LS):Tok:=if x.last < 0 then zeroT else(l[x.last.toNat]?).getD zeroT
def aheadT (l:List Tok) (x:LS):Tok:=if x.last < 1 then zeroT else(l[(x.last - 1).toNat]?).getD zeroT
def blank (s:ByteArray):Bool:=s.toList.all fun b=> [32,9].contains b
def emptyN (src:List ByteArray):Nat→Nat→Option Bool
 | 0,_=>some false
 | n + 1,k=>match src[k]? with
  | some s=>if blank s then some true else emptyN src n (k + 1)
  | none=>none
def emptyS (src:List ByteArray) (from_ to:Int):Option Bool:=emptyN src (to - from_ - 1).toNat from_.toNat
def nlB:ByteArray:=⟨#[10]⟩
def pad (n:Nat):ByteArray:=⟨(List.replicate n 9).toArray⟩
def goesOn (l:List Tok) (next:Int) (closes:Bool):Option Int:=
 if 0 < next&& !closes then(match l[(next - 1).toNat]? with
  | some t=>some (if t.kind !=6&& !isO t [123]&& !isO t [125]then 1 else 0)
  | none=>none)else some 0
def gapS (l:List Tok) (src:List ByteArray) (x:LS) (line:Int) (closes:Bool):Option ByteArray:=
 if 0 < x.line then(match emptyS src x.line line with
  | some e=>some (if e&& !isO (endT l x) [123]&& !closes then nlB ++ nlB else nlB)
  | none=>none)else some ⟨#[]⟩
def beginS (l:List Tok) (src:List ByteArray) (x:LS) (next line:Int) (closes:Bool):Option LS:=
 match gapS l src x line closes,goesOn l next closes with
 | some g,some k=>if 0≤x.opn + k∧x.opn + k≤64 then some {x with out:=x.out ++ g ++ pad (x.opn + k).toNat}else none
 | _,_=>none
def trimR (s:ByteArray):ByteArray:=⟨(Lib.trimRightS s.data.toList [32,9]).toArray⟩
def spB:ByteArray:=⟨#[32]⟩
def comS (l:List Tok) (src:List ByteArray) (x:LS) (c:Com):Option LS:=
 match(if 0≤x.last∧(endT l x).line=c.line then some {x with out:=x.out ++ spB}else beginS l src x c.next c.line false)with
 | some y=>some {y with out:=y.out ++ trimR c.text,line:=c.line,aside:=true}
 | none=>none
def valueT (t:Tok):Bool:=t.kind==1 || t.kind==2 || t.kind==3 || isKind t [⟨#[41]⟩]
def spaceT (p a b:Tok):Bool:=
 if isKind a [⟨#[40]⟩,⟨#[46]⟩,⟨#[33]⟩]then false
 else if isKind a [⟨#[45]⟩]&& !valueT p then false
 else if isKind b [⟨#[41]⟩,⟨#[44]⟩,⟨#[46]⟩,⟨#[58]⟩]then false
 else if isKind b [⟨#[40]⟩]&&(a.kind==1 || isKind a [⟨#[41]⟩])then false
 else if isKind a [⟨#[123]⟩]&&isKind b [⟨#[125]⟩]then false
 else true
def sepS (l:List Tok) (src:List ByteArray) (x:LS) (i:Nat) (t:Tok):Option LS:=
 let closes:=isO t [125]
 let e:=endT l x
 let pair:=closes&&isO e [123]&& !x.aside
 if x.last < 0 || x.aside ||(!pair&&(x.semi || closes || isO e [123]))then beginS l src x i t.line closes
 else if spaceT (aheadT l x) e t then some {x with out:=x.out ++ spB}else some x
def tokS (l:List Tok) (src:List ByteArray) (x:LS) (i:Nat) (t:Tok):Option LS:=
 match sepS l src {x with opn:=if isO t [125]then x.opn - 1 else x.opn} i t with
 | some y=>some {y with out:=y.out ++ t.text,opn:=if isO t [123]then y.opn + 1 else y.opn,last:=i,line:=t.line,semi:=false,aside:=false}
 | none=>none
def comsS (l:List Tok) (src:List ByteArray):LS→List Com→Option LS
 | x,[]=>some x
 | x,c::cs=>match comS l src x c with
  | some y=>comsS l src y cs
  | none=>none
def aheadC (i:Nat):List Com→List Com×List Com
 | []=>([],[])
 | c::cs=>if c.next=(i:Int)then((c::(aheadC i cs).1),(aheadC i cs).2)else([],c::cs)
def oneS (l:List Tok) (src:List ByteArray) (x:LS) (i:Nat) (t:Tok):Option LS:=
 if t.kind=6 then some {x with semi:=true}else if t.kind=7 then some x else tokS l src x i t
def goS (l:List Tok) (src:List ByteArray):List Tok→Nat→LS→List Com→Option (LS×List Com)
 | [],_,x,cs=>some (x,cs)
 | t::ts,i,x,cs=>match comsS l src x (aheadC i cs).1 with
  | some y=>(match oneS l src y i t with
   | some z=>goS l src ts (i + 1) z (aheadC i cs).2
   | none=>none)
  | none=>none
def ls0:LS:=⟨⟨#[]⟩,0,-1,0,false,false⟩
def layS (l:List Tok) (cs:List Com) (src:List ByteArray):Option ByteArray:=
 match goS l src l 0 ls0 cs with
 | some (x,rest)=>(match comsS l src x rest with
  | some y=>some (y.out ++ nlB)
  | none=>none)
 | none=>none
def linesP (s:ByteArray):List ByteArray:=Lib.splitB nlB 0 (Lib.countB s nlB) s
end Fo
end Go.Proofs.Dm
set_option maxHeartbeats 8000000
set_option maxRecDepth 100000
namespace Go.Proofs.Dm
open Go Go.Proofs Go.Proofs.Tryz Go.Proofs.Dm.Sc
namespace Fo
attribute [local simp] encT takes handsOn isTmp Op.operands Call.operands
def lbox (a:DV) (l:List Tok) (src:List ByteArray) (x:LS):List DV:=
 [.p (.sl 5 (l.map encT)),.p (.sl 1 (rowsS src)),a,.own 5 1 (bytesR x.out),i64 x.opn,i64 x.last,i64 x.line,.p (.bool x.semi),.p (.bool x.aside)]
theorem bytesR_append (a b:ByteArray):bytesR (a ++ b)=bytesR a ++ bytesR b:=by
 simp[bytesR]
theorem fresh_map {a:DV} {k:Nat} (h:fresh a k):∀f:Nat→Nat,f 0=0→mapRef f a=a:=by
 intro f hf;rcases h with ⟨T,n,rfl,_⟩ | rfl <;> simp[mapRef,hf]
theorem fresh_refs {a:DV} {k:Nat} (h:fresh a k):refsD a= [0]:=by
 rcases h with ⟨T,n,rfl,_⟩ | rfl <;> rfl
theorem fresh_own {a:DV} {k:Nat} (h:fresh a k):hasOwn a=false:=by
 rcases h with ⟨T,n,rfl,_⟩ | rfl <;> rfl
theorem fresh_fz {a:DV} {k:Nat} (h:fresh a k):fz a=a:=by
 rcases h with ⟨T,n,rfl,_⟩ | rfl <;> rfl
theorem write_ok {W0 nb l src x a} {s:ByteArray} (hf:fresh a 2) (hs:x.out.size + s.size≤140737488355328):DCalls ⟨Tryz.prog,W0,nb⟩ 56 [.ref 0 2,.p (.str s)] [lbox a l src x] (.tup [i64 s.size,.un]) [lbox (.ref 0 2) l src {x with out:=x.out ++ s}]:=by
 have c:DCalls ⟨Tryz.prog,W0,nb⟩ 97 [.ref 0 2] [lbox a l src x] (.tup []) [lbox (.ref 0 2) l src x]:=copyCheck_ok (W0:=W0) (nb:=nb) (box:=lbox a l src x) (k:=2) (a:=a) rfl hf;have h1:=bytesR_len x.out;have h2:=bytesR_len s;have h3:=bytesR_append x.out s;have hr:=fresh_refs hf;have hm:=fresh_map hf;have ho:=fresh_own hf;have hz:=fresh_fz hf;simp only[lbox]at c⊢;rw[h3];generalize bytesR x.out=A at *;refine dcalls_end Tryz.func56 rfl (by kernel_rfl) 19 Tryz.ntmps56 #[.tmp 4,.tmp 5] rfl (Nat.le_of_ble_eq_true rfl) ?_;simp[hr,hm,ho,hz];refine CallGoal.same c ?_;have z:A.length +(bytesR s).length≤140737488355328:=by omega
 have z':A.length +(bytesR s).length≤9223372036854775807:=by omega
 simp[z,z'];exact .kk
theorem fis_ok {W0 nb t} {x:ByteArray}:DCalls ⟨Tryz.prog,W0,nb⟩ 94 [.agg ((encT t).map .p),.p (.str x)] [] (.p (.bool (isO t x.toList))) []:=by
 refine dcalls_end Tryz.func94 rfl (by kernel_rfl) 14 Tryz.ntmps94 #[.tmp 4] rfl (Nat.le_of_ble_eq_true rfl) ?_;simp;cases h:t.kind==4 with
 | true=>
  simp[isO,h];exact .kk
 | false=>
  simp[isO,h];exact .kk
theorem end_ok {W0 nb l src x a} (hf:fresh a 2) (hl:l.length < 1099511627776) (hi:x.last < l.length):DCalls ⟨Tryz.prog,W0,nb⟩ 92 [.ref 0 0] [lbox a l src x] (.agg ((encT (endT l x)).map .p)) [lbox a l src x]:=by
 have hr:=fresh_refs hf;have hm:=fresh_map hf;have ho:=fresh_own hf;have hz:=fresh_fz hf;simp only[lbox];generalize bytesR x.out=A at *;refine dcalls_end Tryz.func92 rfl (by kernel_rfl) 19 Tryz.ntmps92 #[.cell 2 42] rfl (Nat.le_of_ble_eq_true rfl) ?_;simp[hr,hm,ho,hz];rcases Int.lt_or_le x.last 0 with h | h
 ·have e:endT l x=zeroT:=if_pos h;rw[e];simp[h,zeroT];exact .keep (by simp[hr]) (.refl _) (by simp) (by simp[hr]) (by simp[hr]) (by simp[hr])
 ·have h':¬x.last < 0:=by omega
  obtain⟨i,hi2⟩:=Int.eq_ofNat_of_zero_le h;have hlt:i < l.length:=by omega
  have e:endT l x=l[i]:=by
   unfold endT;rw[if_neg h',hi2,Int.toNat_natCast,List.getElem?_eq_getElem hlt];rfl
  rw[e];rw[hi2]at h'⊢;simp[h'];refine drawWp.intro [] [7] mixed (by kernel_rfl) (by kernel_rfl) (by kernel_rfl) ?_;simp[hlt];refine⟨by simp,by simp,?_⟩;simp;exact .keep (by simp[hr]) (.refl _) (by simp) (by simp[hr]) (by simp[hr]) (by simp[hr])
theorem ahead_ok {W0 nb l src x a} (hf:fresh a 2) (hl:l.length < 1099511627776) (hi:x.last < l.length):DCalls ⟨Tryz.prog,W0,nb⟩ 96 [.ref 0 0] [lbox a l src x] (.agg ((encT (aheadT l x)).map .p)) [lbox a l src x]:=by
 have hr:=fresh_refs hf;have hm:=fresh_map hf;have ho:=fresh_own hf;have hz:=fresh_fz hf;simp only[lbox];generalize bytesR x.out=A at *;refine dcalls_end Tryz.func96 rfl (by kernel_rfl) 20 Tryz.ntmps96 #[.cell 2 42] rfl (Nat.le_of_ble_eq_true rfl) ?_;simp[hr,hm,ho,hz];rcases Int.lt_or_le x.last 1 with h | h
 ·have e:aheadT l x=zeroT:=if_pos h;rw[e];simp[h,zeroT];exact .keep (by simp[hr]) (.refl _) (by simp) (by simp[hr]) (by simp[hr]) (by simp[hr])
 ·have h':¬x.last < 1:=by omega
  obtain⟨j,hj⟩:=Int.eq_ofNat_of_zero_le (show 0≤x.last by omega);obtain⟨i,rfl⟩:∃i,j=i + 1:=⟨j - 1,by omega⟩
  have hlt:i < l.length:=by omega
  have hw:IntKind.i64.wrap (((i + 1:Nat):Int)- 1)=(i:Int):=by
   have:=w64_id (n:=((i + 1:Nat):Int)- 1) (by omega) (by omega);simp only[w64]at this;rw[this];omega
  have e:aheadT l x=l[i]:=by
   unfold aheadT;rw[if_neg h',hj];have:(((i + 1:Nat):Int)- 1).toNat=i:=by omega
   rw[this,List.getElem?_eq_getElem hlt];rfl
  rw[e];rw[hj]at h'⊢;generalize hz:((i + 1:Nat):Int)=z at *;simp[h'];refine drawWp.intro [] [7] mixed (by kernel_rfl) (by kernel_rfl) (by kernel_rfl) ?_;simp[hw,hlt];refine⟨by simp[hw],by simp[hw],?_⟩;simp[hw];exact .keep (by simp[hr]) (.refl _) (by simp) (by simp[hr]) (by simp[hr]) (by simp[hr])
end Fo
end Go.Proofs.Dm
