/- Part of the proof: contracts of the functions, walked by the D-machine. No condition. -/
import Derived.Test.YtmlhdhpjcipcdaaGreatDoorFa
import Derived.Shelf.Strings.BuilderF
import Derived.Test.YtmlhdhpjcipcdaaGreatDoorFc
set_option linter.unusedSimpArgs false
set_option linter.unusedVariables false
set_option maxHeartbeats 4000000
set_option maxRecDepth 100000
namespace Go.Proofs
open Go Go.RowKit Go.Shelf
theorem Tryz.cellsByte:Tryz.prog.cellsOf 5=1:=by kernel_rfl
theorem Tryz.builder_String (b k g cap:Nat) (l:List UInt8) (cur:Array Value) (fz:Nat×Nat) (w:World) (h1:w.cell? ⟨b,k + 1,none⟩=some (.slice (some ⟨g,0,none⟩) l.length cap)) (hg:w.heap[g]? =some (.cells cur 5 fz))
  (hcap:cap≠0) (hcells:∀(j:Nat) (x:UInt8),l[j]? =some x→cur[j]? =some (Value.int .u8 x.toNat)) (h0:l≠ []) (hle:l.length≤cur.size) (hm:l.length≤140737488355328):
  Calls Tryz.prog 58 #[.pointer (some ⟨b,k,none⟩)] w fun e w'=>e= .returned (.string ⟨l.toArray⟩)∧w'=w.drew.freeze ⟨g,0,none⟩ l.length:=by
 have c1:w.drew.cell? ⟨b,k + 1,none⟩=some (.slice (some ⟨g,0,none⟩) l.length cap):=h1;have hl0:l.length≠0:=by simpa using h0
 have hg':w.drew.heap[g]? =some (.cells cur 5 fz):=hg;have hSD:(Builtin.unsafeSliceData_ #[62] 119 #[.slice (some ⟨g,0,none⟩) l.length cap]).run Tryz.prog w.drew= .ok (.pointer (some ⟨g,0,none⟩)) w.drew:=
  Lib.run_unsafeSliceData_row _ _ _ _ _ _ hcap
 have hUS:(Builtin.unsafeString_ #[119,3] 9 #[.pointer (some ⟨g,0,none⟩),.int .i64 l.length]).run Tryz.prog w.drew= .ok (.string ⟨l.toArray⟩) (w.drew.freeze ⟨g,0,none⟩ l.length):=by
  refine Lib.run_unsafeString_row w.drew 119 3 9 5 Tryz.underlying119 Tryz.cellsByte g cur.size (by simp[World.shape?,hg']) l h0 (by omega) (by omega) ?_;intro j x hx;have:=hcells j x hx;rw[Addr.add_lit,Nat.zero_add,Lib.cell_of_heap hg'];exact this
 have mixed:=Tryz.mixed
 go_enter Tryz.func58,Tryz.ntmps58
 go_wp2
 go_region_o
 all_goals (go_wp2;go_ret;exact⟨rfl,rfl⟩)
namespace Dm.Fo
open Dm Dm.Sc Go.Proofs.Tryz
attribute [local simp] encT takes handsOn isTmp Op.operands Call.operands
theorem len_ok {W0 nb l src x a} (hf:fresh a 2):DCalls ⟨Tryz.prog,W0,nb⟩ 57 [.ref 0 2] [lbox a l src x] (i64 x.out.size) [lbox a l src x]:=by
 have hr:=fresh_refs hf;have hm:=fresh_map hf;have ho:=fresh_own hf;have hz:=fresh_fz hf;have hb:=bytesR_len x.out;refine dcalls_end Tryz.func57 rfl (by kernel_rfl) 8 Tryz.ntmps57 #[.tmp 2] rfl (Nat.le_of_ble_eq_true rfl) ?_;simp[lbox,hr,hm,ho,hz,hb];exact .keep (by simp[lbox,hr,hb]) (.refl _) (by simp) (by simp[lbox,hr,hb]) (by simp[lbox,hr,hb]) (by simp[lbox,hr,hb])
theorem string_ok {W0 nb l src x a} (h0:0 < x.out.size) (hs:x.out.size≤140737488355328):DCalls ⟨Tryz.prog,W0,nb⟩ 58 [.ref 0 2] [lbox a l src x] (.p (.str x.out)) [(lbox a l src x).set 3 (.p (.sl 1 (bytesR x.out)))]:=by
 refine⟨⟨_,Tryz.func58,by kernel_rfl,rfl⟩,fun w h ow ρ ws har hHR hg=> ?_⟩;simp only[RepDs,RepD]at har;obtain⟨v1,r1,rfl,⟨b,hb,rfl⟩,rfl⟩:=har;have hne:lbox a l src x≠ []:=by simp[lbox]
 have hk:(lbox a l src x)[3]? =some (.own 5 1 (bytesR x.out)):=rfl;have hkl:3 <(lbox a l src x).length:=by simp[lbox]
 obtain⟨p1,p2,cs,T',hh,hl0,hrr⟩:=hHR.box 0 (lbox a l src x) b rfl hb hne;obtain⟨v,hv,hr⟩:=hrr.get 3 _ hk;rw[List.getElem?_take,if_pos hkl,Array.getElem?_toList]at hv;simp only[RepD]at hr;obtain⟨vals,hz0,hown,hx,hrows,hone,hmk⟩:=hr;have hbl:=bytesR_len x.out;rcases hown.2 with ⟨_,q⟩ | ⟨g,cap,cur,rfl,_,hgh,hnc,hcm,hcs,htake⟩
 ·omega
 have hlen:x.out.data.toList.length=x.out.size:=by rw[Array.length_toList];rfl
 have hcell:w.cell? ⟨b,2 + 1,none⟩=some (.slice (some ⟨g,0,none⟩) x.out.data.toList.length cap):=by
  rw[Lib.cell_of_heap hh,hlen,←hbl];exact hv
 obtain⟨ow',hfr,hhr⟩:=freeze_hr (n:=x.out.data.toList.length) (id:=0) (k:=3) hHR rfl hb hk hh (by rw[hbl]at *;exact hv);refine(Tryz.builder_String b 2 g cap x.out.data.toList cur (0,0) w hcell hgh (by omega) (fun j c hj=> ?_) (fun e=>by rw[e]at hlen;simp at hlen;omega) (by rw[hcs,hlen];rw[hbl]at hnc;omega) (by omega)).mono ?_
 ·have hrow:(bytesR x.out)[j]? =some [.int .u8 c.toNat]:=by
   simp only[bytesR,List.getElem?_map,hj];rfl
  have h2:=hrows.get hx j _ hrow;obtain⟨u,hu,hru⟩:=h2.get 0 _ rfl;simp only[Rep]at hru;subst hru;have hjl:j < x.out.size:=by rw[←hlen];exact(List.getElem?_eq_some_iff.1 hj).1
  have e1:vals[j]? =cur.toList[j]? :=by
   rw[←htake,List.getElem?_take,if_pos (by rw[hbl];omega)]
  have e2:j * 1 + 0=j:=by omega
  rw[e2,e1,Array.getElem?_toList]at hu;exact hu
 ·rintro e w' ⟨rfl,rfl⟩;exact⟨_,h,ow',[],rfl,hfr,by rw[List.append_nil];exact hhr,by simp only[RepD,Rep]⟩
end Dm.Fo
end Go.Proofs
namespace Go.Proofs.Dm
open Go Go.Proofs Go.Proofs.Dm.Sc
namespace Fo
theorem gap_size {l src x line closes g} (h:gapS l src x line closes=some g):g.size≤2:=by
 unfold gapS at h;split at h
 ·split at h
  ·injection h with h;subst h
   split
   ·show(nlB ++ nlB).size≤2;rw[ByteArray.size_append,nl_size];omega
   ·rw[nl_size];omega
  ·cases h
 ·injection h with h;subst h
  show(⟨#[]⟩:ByteArray).size≤2;exact Nat.zero_le _
theorem begin_grow {l src x next line closes y} (h:beginS l src x next line closes=some y):y.out.size≤x.out.size + 66∧y.opn=x.opn∧y.last=x.last∧y.line=x.line:=by
 unfold beginS at h;split at h
 ·rename_i g k hg hk;have:=gap_size hg;split at h
  ·rename_i ho;injection h with h;subst h
   refine⟨?_,rfl,rfl,rfl⟩;simp only[ByteArray.size_append,pad_size];omega
  ·cases h
 ·cases h
theorem com_grow {l src x c y} (ht:(trimR c.text).size≤c.text.size) (h:comS l src x c=some y):y.out.size≤x.out.size + 66 + c.text.size∧y.opn=x.opn∧y.last=x.last∧y.line=c.line:=by
 unfold comS at h;split at h
 ·rename_i z hz;injection h with h;subst h
  have hsp:spB.size=1:=rfl;have:z.out.size≤x.out.size + 66∧z.opn=x.opn∧z.last=x.last:=by
   split at hz
   ·injection hz with hz;subst hz
    refine⟨?_,rfl,rfl⟩;simp only[ByteArray.size_append,hsp];omega
   ·have:=begin_grow hz;exact⟨this.1,this.2.1,this.2.2.1⟩
  refine⟨?_,this.2.1,this.2.2,rfl⟩;simp only[ByteArray.size_append];omega
 ·cases h
theorem sep_grow {l src x i t y} (h:sepS l src x i t=some y):y.out.size≤x.out.size + 66∧y.opn=x.opn:=by
 have hsp:spB.size=1:=rfl;unfold sepS at h;dsimp only at h;split at h
 ·have:=begin_grow h;exact⟨this.1,this.2.1⟩
 ·split at h
  ·injection h with h;subst h
   refine⟨?_,rfl⟩;simp only[ByteArray.size_append,hsp];omega
  ·injection h with h;subst h
   exact⟨by omega,rfl⟩
theorem tok_grow {l src x i t y} (h:tokS l src x i t=some y):y.out.size≤x.out.size + 66 + t.text.size∧x.opn - 1≤y.opn∧y.opn≤x.opn + 1∧y.last=i∧y.line=t.line:=by
 unfold tokS at h;split at h
 ·rename_i z hz;injection h with h;subst h
  obtain⟨h1,h2⟩:=sep_grow hz;dsimp only at h1 h2⊢;refine⟨by simp only[ByteArray.size_append];omega,?_,?_,rfl,rfl⟩
  ·rw[h2];split <;> split <;> omega
  ·rw[h2];split <;> split <;> omega
 ·cases h
structure Sized (l:List Tok) (cs:List Com) (src:List ByteArray) (B:Nat):Prop where
 len:l.length≤300000
 clen:cs.length≤300000
 tok:∀t∈l,t.line < 1000000000∧t.text.size≤B
 com:∀c∈cs,c.line < 1000000000∧c.next < 1000000000∧c.text.size≤B
 lines:∀s∈src,s.size≤9223372036854775807
 b:B≤300000
structure At (l:List Tok) (B k:Nat) (x:LS):Prop where
 out:x.out.size≤k *(B + 66)
 opn: -(k:Int)≤x.opn∧x.opn≤k
 last:x.last < l.length
 line:x.line < 1000000000
theorem At.fits {l cs src B k x} (s:Sized l cs src B) (h:At l B k x) (hk:k≤600000):Fits l src x:=by
 have h1:=h.out;have h2:k *(B + 66)≤600000 * 300066:=Nat.mul_le_mul hk (by have:=s.b;omega);exact⟨by have:=s.len;omega,s.lines,h.last,h.line,by have:=h.opn;omega,by omega⟩
theorem At.com {l cs src B k x c y} (s:Sized l cs src B) (h:At l B k x) (hc:c∈cs) (ht:(trimR c.text).size≤c.text.size) (q:comS l src x c=some y):At l B (k + 1) y:=by
 obtain⟨g1,g2,g3,g4⟩:=com_grow ht q;obtain⟨c1,c2,c3⟩:=s.com c hc;have h1:=h.out;have e:(k + 1)*(B + 66)=k *(B + 66)+(B + 66):=by rw[Nat.add_mul,Nat.one_mul]
 exact⟨by omega,by have:=h.opn;omega,by rw[g3];exact h.last,by rw[g4];exact c1⟩
theorem At.tok {l cs src B k x i t y} (s:Sized l cs src B) (h:At l B k x) (hi:l[i]? =some t) (q:tokS l src x i t=some y):At l B (k + 1) y:=by
 obtain⟨g1,g2,g3,g4,g5⟩:=tok_grow q;obtain⟨c1,c2⟩:=s.tok t (List.mem_of_getElem? hi);have h1:=h.out;have hil:=(List.getElem?_eq_some_iff.1 hi).1;have e:(k + 1)*(B + 66)=k *(B + 66)+(B + 66):=by rw[Nat.add_mul,Nat.one_mul]
 exact⟨by omega,by have:=h.opn;omega,by rw[g4];omega,by rw[g5];exact c1⟩
end Fo
end Go.Proofs.Dm
