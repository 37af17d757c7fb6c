/- Part of the proof: contracts of the functions, walked by the D-machine. No condition. -/
import Derived.Test.YtmlhdhpjcipcdaaGreatDoorLF
import Derived.Test.YtmlhdhpjcipcdaaGreatDoorBb
import Derived.Test.YtmlhdhpjcipcdaaGreatDoorSb
import Derived.Test.YtmlhdhpjcipcdaaGreatDoorTe
import Derived.Test.YtmlhdhpjcipcdaaGreatDoorHe
set_option linter.unusedSimpArgs false
namespace Go.Proofs.Tryz
open Go Go.Proofs Go.Proofs.Dm
@[simp] theorem tsz_75:tsz prog 75=some 1:=by kernel_rfl
@[simp] theorem tagg_75:tagg prog 75=some false:=by kernel_rfl
@[simp] theorem tcells_75:tcells prog 75= [75]:=by kernel_rfl
@[simp] theorem tslice_75:tslice prog 75=some 78:=by kernel_rfl
@[simp] theorem tkind_75:tkind prog 75=some 3:=by kernel_rfl
@[simp] theorem tint_75:tint prog 75=none:=by kernel_rfl
@[simp] theorem tbytes_75:tbytes prog 75=some 24:=by kernel_rfl
@[simp] theorem tplaces_75:tplaces prog 75=none:=by kernel_rfl
@[simp] theorem tzero_75:tzero prog 75=some (Value.slice none 0 0):=by kernel_rfl
@[simp] theorem tptr_75:tptr prog 75=false:=by kernel_rfl
@[simp] theorem tflat_75:tflat prog 75=none:=by kernel_rfl
@[simp] theorem tbuild_75:tbuild prog 75=none:=by kernel_rfl
@[simp] theorem tsz_78:tsz prog 78=some 4:=by kernel_rfl
@[simp] theorem tagg_78:tagg prog 78=some true:=by kernel_rfl
@[simp] theorem tcells_78:tcells prog 78= [3,3,9,4]:=by kernel_rfl
@[simp] theorem tslice_78:tslice prog 78=none:=by kernel_rfl
@[simp] theorem tkind_78:tkind prog 78=some 4:=by kernel_rfl
@[simp] theorem tint_78:tint prog 78=none:=by kernel_rfl
@[simp] theorem tbytes_78:tbytes prog 78=some 40:=by kernel_rfl
@[simp] theorem tplaces_78:tplaces prog 78=some [(0,1),(1,1),(2,1),(3,1)]:=by kernel_rfl
@[simp] theorem tzero_78:tzero prog 78=some (Value.agg #[Value.int IntKind.i64 0,Value.int IntKind.i64 0,Value.string ⟨#[]⟩,Value.bool false]):=by kernel_rfl
@[simp] theorem tptr_78:tptr prog 78=false:=by kernel_rfl
@[simp] theorem tflat_78:tflat prog 78=some [2,2,0,1]:=by kernel_rfl
@[simp] theorem tbuild_78:tbuild prog 78=none:=by kernel_rfl
@[simp] theorem tfield_78_0:tfield prog 78 0=some (0,1,false):=by kernel_rfl
@[simp] theorem tfield_78_1:tfield prog 78 1=some (1,1,false):=by kernel_rfl
@[simp] theorem tfield_78_2:tfield prog 78 2=some (2,1,false):=by kernel_rfl
@[simp] theorem tfield_78_3:tfield prog 78 3=some (3,1,false):=by kernel_rfl
@[simp] theorem zc_75:((Value.slice none 0 0):Value).cells.size=1:=by kernel_rfl
@[simp] theorem zc_78:((Value.agg #[Value.int IntKind.i64 0,Value.int IntKind.i64 0,Value.string ⟨#[]⟩,Value.bool false]):Value).cells.size=4:=by kernel_rfl
end Go.Proofs.Tryz
set_option linter.unusedVariables false
set_option maxHeartbeats 8000000
set_option maxRecDepth 100000
namespace Go.Proofs.Dm
open Go Go.Proofs Go.Proofs.Tryz Go.Proofs.Dm.Sc
open Fo (isO zeroT nlB spB pad trimR linesP)
namespace Rf
attribute [local simp] encT encC takes handsOn isTmp Op.operands Call.operands
def encI (x:It):List PD:= [.int .i64 x.tok,.int .i64 x.line,.str x.note,.bool x.com]
theorem ris_ok {W0 nb t} {x:ByteArray}:DCalls ⟨Tryz.prog,W0,nb⟩ 99 [.agg ((encT t).map .p),.p (.str x)] [] (.p (.bool (isO t x.toList))) []:=by
 refine dcalls_end Tryz.func99 rfl (by kernel_rfl) 14 Tryz.ntmps99 #[.tmp 4] rfl (Nat.le_of_ble_eq_true rfl) ?_;simp;cases h:t.kind==4 with
 | true=>
  simp[isO,h];exact .keep (by simp) (.refl _) (by simp) (by simp) (by simp) (by simp)
 | false=>
  simp[isO,h];exact .keep (by simp) (.refl _) (by simp) (by simp) (by simp) (by simp)
theorem trimRight_snoc (l cs:List UInt8) (b:UInt8):Lib.trimRightS (l ++ [b]) cs=if cs.contains b then Lib.trimRightS l cs else l ++ [b]:=by
 simp only[Lib.trimRightS,List.reverse_append,List.reverse_cons,List.reverse_nil,List.nil_append,List.singleton_append,List.dropWhile_cons];split <;> simp
theorem rtrim_ok {W0 nb s} (hs:s.size < 1099511627776):DCalls ⟨Tryz.prog,W0,nb⟩ 98 [.p (.str s)] [] (.p (.str (trimR s))) []:=by
 obtain⟨R,hR⟩:∃R,trimR s=R:=⟨_,rfl⟩
 rw[hR];refine dcalls_end Tryz.func98 rfl (by kernel_rfl) 28 Tryz.ntmps98 #[.tmp 2] rfl (Nat.le_of_ble_eq_true rfl) ?_;simp;refine⟨fun m st=>∃t,trimR t=R∧m=t.size∧t.size < 1099511627776∧st.hp= []∧st.tm 0= .p (.str t),s.size,.here ⟨s,hR,rfl,hs,by simp,by simp⟩,?_⟩;rintro m ⟨tm,hp⟩ ⟨t,h,rfl,ht,h0,g0⟩;simp only at h0 g0;subst h0;rcases Nat.eq_zero_or_pos t.size with hz | hz
 ·have ht0:t=⟨#[]⟩:=by
   apply ba_ext;have:t.data.toList.length=0:=by rw[←ba_size];exact hz
   exact List.eq_nil_of_length_eq_zero this
  have hR0:R=t:=by rw[←h,ht0];rfl
  simp[g0,hz];rw[hR0];exact .keep (by simp[g0]) (.refl _) (by simp) (by simp[g0]) (by simp[g0]) (by simp[g0])
 ·have hb:t[t.size - 1]? =some t[t.size - 1]:=by simp
  have hw:=w64_id (n:=(t.size:Int)- 1) (by omega) (by omega);simp only[w64]at hw;have hk:((t.size:Int)- 1).toNat=t.size - 1:=by omega
  have hsp:t.data.toList=(t.extract 0 (t.size - 1)).data.toList ++ [t[t.size - 1]]:=by
   have hd:=drop_next t hb;rw[ext_list,List.drop_zero,Nat.sub_zero];have:=List.take_append_drop (t.size - 1) t.data.toList;rw[hd.2,List.drop_eq_nil_of_le (by rw[←ba_size];omega)]at this;exact this.symm
  have h1:(1:Int)≤t.size:=by omega
  have h2:(t.size:Int)- 1 < t.size:=by omega
  have hlt:t.size - 1 < t.size:=by omega
  have h4:(t.size:Int)- 1≤t.size:=by omega
  simp[g0,hz,hw,hk,h1,h2,hlt];generalize hb':t[t.size - 1]=b at *;have e32:((b.toNat:Int)==32)=(b==32):=by
   rw[Bool.eq_iff_iff];simp only[beq_iff_eq];constructor
   ·intro e;exact UInt8.toNat_inj.1 (by simp;omega)
   ·rintro rfl;rfl
  have e9:((b.toNat:Int)==9)=(b==9):=by
   rw[Bool.eq_iff_iff];simp only[beq_iff_eq];constructor
   ·intro e;exact UInt8.toNat_inj.1 (by simp;omega)
   ·rintro rfl;rfl
  have hstep:([32,9]:List UInt8).contains b=true→trimR (t.extract 0 (t.size - 1))=R:=by
   intro hc;rw[←h];simp only[trimR];rw[hsp,trimRight_snoc,if_pos hc]
  have hstop:([32,9]:List UInt8).contains b=false→t=R:=by
   intro hc;rw[←h];apply ba_ext;simp only[trimR];rw[hsp,trimRight_snoc,hc];simp
  rw[e32];cases q:b==32 with
  | true=>
   simp[g0,hw,hk,h1,h4];exact .same (t.size - 1) (by omega) ⟨t.extract 0 (t.size - 1),hstep (by simp at q;subst q;rfl),by simp,by simp;omega,by simp,by simp⟩
  | false=>
   simp[g0,hw,hk,h1,h2,hlt,hb'];rw[e9];cases q9:b==9 with
   | true=>
    simp[g0,hw,hk,h1,h4];exact .same (t.size - 1) (by omega) ⟨t.extract 0 (t.size - 1),hstep (by simp at q9;subst q9;rfl),by simp,by simp;omega,by simp,by simp⟩
   | false=>
    have hR2:=hstop (by simp at q q9⊢;exact⟨q,q9⟩);subst hR2;simp[g0];exact .keep (by simp) (.refl _) (by simp) (by simp) (by simp) (by simp)
def linesG (s:ByteArray):Nat→Nat→Nat→List ByteArray
 | 0,i,a=> [s.extract a s.size]
 | n + 1,i,a=>match s[i]? with
  | some b=>if(b.toNat:Int)==10 then s.extract a i::linesG s n (i + 1) (i + 1)else linesG s n (i + 1) a
  | none=> [s.extract a s.size]
theorem drop_cut (s:ByteArray) {a i:Nat} (h:a≤i):s.data.toList.drop a=(s.data.toList.drop a).take (i - a)++ s.data.toList.drop i:=by
 have:=(List.take_append_drop (i - a) (s.data.toList.drop a)).symm
 rwa [List.drop_drop,show a +(i - a)=i by omega]at this
theorem linesG_spl (s:ByteArray):∀(n i a:Nat),s.size=i + n→a≤i→(10:UInt8)∉(s.data.toList.drop a).take (i - a)→(linesG s n i a).map (·.data.toList)=Gr.spl (s.data.toList.drop a)
 | 0,i,a,hn,ha,hno=>by
  have e:=drop_cut s ha;have e2:s.data.toList.drop i= []:=List.drop_eq_nil_of_le (by rw[←ba_size];omega);rw[e2,List.append_nil]at e;rw[←e]at hno;rw[Gr.spl_last _ hno];show [(s.extract a s.size).data.toList]=_;rw[ext_list,List.take_of_length_le];rw[List.length_drop,←ba_size];omega
 | n + 1,i,a,hn,ha,hno=>by
  have hlt:i < s.size:=by omega
  have hg:s[i]? =some s[i]:=by simp[hlt]
  have e:=drop_cut s ha;obtain⟨_,hd⟩:=drop_next s hg;unfold linesG;rw[hg];simp only;split
  ·rename_i hc;have h10:s[i]=10:=by
    rw[beq_iff_eq]at hc;apply UInt8.toNat_inj.1;show(s[i]).toNat=10;omega
   rw[h10]at hd;rw[List.map_cons,linesG_spl s n (i + 1) (i + 1) (by omega) (Nat.le_refl _) (by simp),ext_list]
   conv=>rhs;rw[e,hd]
   rw[Gr.spl_app _ _ hno]
  ·rename_i hc;have h10:s[i]≠10:=by
    intro q;rw[q]at hc;exact hc rfl
   refine linesG_spl s n (i + 1) a (by omega) (by omega) ?_;have e3:i + 1 - a=(i - a)+ 1:=by omega
   rw[e3,List.take_add_one,List.mem_append];rintro(q | q)
   ·exact hno q
   ·rw[List.getElem?_drop,show a +(i - a)=i by omega,←ba_get,hg]at q;simp at q;exact h10 q.symm
theorem linesG_eq (s:ByteArray):linesG s s.size 0 0=linesP s:=by
 apply Gr.map_data_inj;rw[linesG_spl s s.size 0 0 (by omega) (Nat.le_refl _) (by simp),List.drop_zero,Gr.lines_spl]
def lnI (s:ByteArray) (m:Nat) (st:St):Prop:=∃(i a:Nat) (L:List ByteArray),m=s.size - i∧i≤s.size∧a≤i∧L.length≤i∧L ++ linesG s (s.size - i) i a=linesP s∧
 st.hp= []∧st.tm 0= .p (.str s)∧st.tm 3= .own 9 1 (rowsS L)∧st.tm 4=i64 (a:Nat)∧st.tm 5=i64 (i:Nat)
theorem rlines_ok {W0 nb s} (hs:s.size < 100000000):DCalls ⟨Tryz.prog,W0,nb⟩ 43 [.p (.str s)] [] (.p (.sl 1 (rowsS (linesP s)))) []:=by
 refine dcalls_end Tryz.func43 rfl (by kernel_rfl) 31 Tryz.ntmps43 #[.tmp 2] rfl (Nat.le_of_ble_eq_true rfl) ?_;simp;refine⟨lnI s,s.size,.here ⟨0,0,[],by simp,by simp,by simp,by simp,by simp[linesG_eq],by simp,by simp,by simp[rowsS],by simp,by simp⟩,?_⟩;rintro m ⟨tm,hp⟩ ⟨i,a,L,rfl,hi,ha,hL,h,h0,g0,g3,g4,g5⟩;simp only at h0 g0 g3 g4 g5;subst h0;have hRl:(rowsS L).length=L.length:=by simp[rowsS]
 have ha1:(L.length + 1)* 16≤140737488355328:=by omega
 have ha2:L.length≤9223372036854775806:=by omega
 have hap:∀x:ByteArray,rowsS (L ++ [x])=rowsS L ++ [[.str x]]:=fun x=>by simp[rowsS]
 simp[g0,g5];rcases Nat.lt_or_ge i s.size with hlt | hge
 ·have hw:=w64_id (n:=(i:Int)+ 1) (by omega) (by omega);simp only[w64]at hw;have hg:s[i]? =some s[i]:=by simp[hlt]
  have hn:s.size - i=(s.size -(i + 1))+ 1:=by omega
  rw[hn]at h;unfold linesG at h;rw[hg]at h;simp only at h;have hai:(a:Int)≤i:=by omega
  have his:(i:Int)≤s.size:=by omega
  simp[hlt,g0,g5];cases hq:((s[i]).toNat:Int)==10 with
  | true=>
   rw[hq,if_pos rfl]at h;have h2:(L ++ [s.extract a i])++ linesG s (s.size -(i + 1)) (i + 1) (i + 1)=linesP s:=by rw[←h];simp
   have hr:=hap (s.extract a i);generalize rowsS L=RL at *;simp[g0,g3,g4,g5,hw,hRl,ha1,ha2,hai,his,ha,hi];exact .same (s.size -(i + 1)) (by omega) ⟨i + 1,i + 1,L ++ [s.extract a i],rfl,by omega,by omega,by simp;omega,h2,by simp,by simp[g0],by simp[hr],by simp[hw],by simp[hw]⟩
  | false=>
   rw[hq]at h;simp only[Bool.false_eq_true,if_false]at h;simp[g5,hw];exact .same (s.size -(i + 1)) (by omega) ⟨i + 1,a,L,rfl,by omega,by omega,by omega,h,by simp,by simp[g0],by simp[g3],by simp[g4],by simp[hw]⟩
 ·have hil:i=s.size:=by omega
  subst hil;rw[Nat.sub_self]at h;have h2:linesP s=L ++ [s.extract a s.size]:=h.symm;have hr:=hap (s.extract a s.size);rw[h2,hr];have has:(a:Int)≤s.size:=by omega
  generalize rowsS L=RL at *;simp[g0,g3,g4,hRl,ha1,ha2,has,ha];exact .keep (by simp;rfl) (.fr _ _ _) (by simp) (by simp) (by simp) (by simp)
theorem pad_next (n:Nat):pad n ++ ⟨#[9]⟩=pad (n + 1):=by
 apply ba_ext;simp only[pad,ByteArray.data_append,Array.toList_append];rw[List.replicate_succ']
theorem pad_len (n:Nat):(pad n).size=n:=by
 rw[ba_size];simp[pad]
theorem rpad_ok {W0 nb} {k:Int} (hk:k < 100000000):DCalls ⟨Tryz.prog,W0,nb⟩ 60 [i64 k] [] (.p (.str (pad k.toNat))) []:=by
 obtain⟨T,hT⟩:∃T,k.toNat=T:=⟨_,rfl⟩
 rw[hT];refine dcalls_end Tryz.func60 rfl (by kernel_rfl) 13 Tryz.ntmps60 #[.tmp 2] rfl (Nat.le_of_ble_eq_true rfl) ?_;simp;refine⟨fun m st=>∃i:Nat,m=T - i∧i≤T∧st.hp= []∧st.tm 0=i64 k∧st.tm 3= .p (.str (pad i))∧st.tm 4=i64 (i:Nat),T,.here ⟨0,by simp,by simp,by simp,by simp,by simp[pad],by simp⟩,?_⟩;rintro m ⟨tm,hp⟩ ⟨i,rfl,hi,h0,g0,g3,g4⟩;simp only at h0 g0 g3 g4;subst h0;simp[g0,g4]
 by_cases hlt:(i:Int)< k
 ·have hw:=w64_id (n:=(i:Int)+ 1) (by omega) (by omega);simp only[w64]at hw;have hz:=pad_len i;have hn:=pad_next i;have s9:(⟨#[9]⟩:ByteArray).size=1:=rfl;have hz2:¬(9223372036854775807:Int)<((pad i).size:Int)+(((⟨#[9]⟩:ByteArray).size:Nat):Int):=by rw[hz,s9];omega
  generalize hP:pad i=Q at *;simp[hlt,g3,g4,hw,hz2,hn];exact .same (T -(i + 1)) (by omega) ⟨i + 1,rfl,by omega,by simp,by simp[g0],by simp[hn],by simp[hw]⟩
 ·have:i=T:=by omega
  subst this;simp[hlt,g3];exact .keep (by simp) (.refl _) (by simp) (by simp) (by simp) (by simp)
def laI (l:List Tok) (x:It) (R:Tok) (m:Nat) (st:St):Prop:=m≤x.tok.toNat∧lastR l m=R∧
 st.hp= [(encI x).map .p,(encT zeroT).map .p]∧st.tm 0= .p (.sl 5 (l.map encT))∧st.tm 3= .ref 0 0∧st.tm 4= .ref 1 0∧st.tm 5=i64 ((m:Int)- 1)
theorem rlast_ok {W0 nb l} {x:It} (hl:l.length < 100000000) (h0:0≤x.tok) (h1:x.tok≤l.length):DCalls ⟨Tryz.prog,W0,nb⟩ 100 [.p (.sl 5 (l.map encT)),.agg ((encI x).map .p)] [] (.agg ((encT (lastR l x.tok.toNat)).map .p)) []:=by
 obtain⟨R,hR⟩:∃R,lastR l x.tok.toNat=R:=⟨_,rfl⟩
 rw[hR];have hw0:=w64_id (n:=x.tok - 1) (by omega) (by omega);simp only[w64]at hw0;refine dcalls_end Tryz.func100 rfl (by kernel_rfl) 24 Tryz.ntmps100 #[.cell 4 42] rfl (Nat.le_of_ble_eq_true rfl) ?_;simp[encI];refine⟨laI l x R,x.tok.toNat,.here ⟨Nat.le_refl _,hR,by simp[encI,zeroT],by simp,by simp,by simp,by simp[hw0];omega⟩,?_⟩;rintro m ⟨tm,hp⟩ ⟨hm,h,e0,g0,g3,g4,g5⟩;simp only at e0 g0 g3 g4 g5;subst e0;cases m with
 | zero=>
  have hR0:R=zeroT:=h.symm;subst hR0;have hneg:¬(0:Int)≤((0:Nat):Int)- 1:=by omega
  simp[g4,g5,hneg];exact .keep (by simp[zeroT,g4]) (.refl _) (by simp) (by simp[zeroT,g4]) (by simp[zeroT,g4]) (by simp[zeroT,g4])
 | succ m=>
  have hpos:(0:Int)≤((m + 1:Nat):Int)- 1:=by omega
  have hc:((m + 1:Nat):Int)- 1=(m:Int):=by omega
  have hlt:m < l.length:=by omega
  have hw:=w64_id (n:=(m:Int)- 1) (by omega) (by omega);simp only[w64]at hw;unfold lastR at h;obtain⟨t,ht⟩:∃t,l[m]? =some t:=⟨_,List.getElem?_eq_getElem hlt⟩
  have hti:l[m]=t:=by
   have:=List.getElem?_eq_getElem hlt;rw[ht]at this;injection this with this
   exact this.symm
  rw[tk_at ht]at h;rw[hc]at g5;have hq2:(t.kind !=6)= !(t.kind==6):=rfl;simp[g0,g5,hlt,ht,hti,hq2];cases hq:t.kind==6 with
  | true=>
   rw[hq,if_pos rfl]at h;simp[g5,hw];exact .same m (by omega) ⟨by omega,h,by simp,by simp[g0],by simp[g3],by simp[g4],by simp[hw]⟩
  | false=>
   rw[hq]at h;simp only[Bool.false_eq_true,if_false]at h;subst h;simp[g0,g4,g5,hlt,ht,hti];exact .keep (by simp[g4]) (.refl _) (by simp) (by simp[g4]) (by simp[g4]) (by simp[g4])
end Rf
end Go.Proofs.Dm
set_option maxHeartbeats 16000000
set_option maxRecDepth 100000
namespace Go.Proofs.Dm
open Go Go.Proofs Go.Proofs.Tryz Go.Proofs.Dm.Sc
open Fo (isO zeroT nlB spB pad trimR linesP)
namespace Rf
attribute [local simp] takes handsOn isTmp Op.operands Call.operands
def opB (t:Tok):ByteArray:=if t.kind==4 then t.text else⟨#[]⟩
def spaceX (v n:Bool) (X Y:List UInt8):Bool:=
 if X== [40] || X== [46] || X== [33] ||(X== [45]&& !v)then false
 else if Y== [41] || Y== [44] || Y== [46] || Y== [58]then false
 else if Y== [40]&&(n || X== [41])then false
 else if X== [123]&&Y== [125]then false
 else true
def operandR (t:Tok):Bool:=t.kind==1 || t.kind==2 || t.kind==3 ||(t.kind==4&&t.text.toList== [41])
theorem operandR_ok {W0 nb t}:DCalls ⟨Tryz.prog,W0,nb⟩ 156 [.agg ((encT t).map .p)] [] (.p (.bool (operandR t))) []:=by
 refine dcalls_end Tryz.func156 rfl (by kernel_rfl) 26 Tryz.ntmps156 #[.tmp 2] rfl (Nat.le_of_ble_eq_true rfl) ?_;simp[encT,takes,handsOn,isTmp,Op.operands,Call.operands];cases h1:t.kind==1 <;> cases h2:t.kind==2 <;> cases h3:t.kind==3 <;> cases h4:t.kind==4 <;> simp[h1,h2,h3,h4,operandR]
 all_goals exact .keep (by simp[h1,h2,h3,h4]) (.refl _) (by simp) (by simp) (by simp) (by simp)
theorem opB_is (t:Tok) (c:UInt8):isKind t [⟨#[c]⟩]=((opB t).toList== [c]):=by
 have e:(⟨#[c]⟩:ByteArray).toList= [c]:=by rw[Lib.toList_data]
 have e0:(⟨#[]⟩:ByteArray).toList= []:=by rw[Lib.toList_data]
 unfold isKind isIn opB eqB;simp only[List.any_cons,List.any_nil,Bool.or_false,e];cases t.kind==4 with
 | true=>simp
 | false=>simp[e0]
theorem isKind_cons (t:Tok) (x:ByteArray) (xs:List ByteArray):isKind t (x::xs)=(isKind t [x] || isKind t xs):=by
 unfold isKind isIn;simp only[List.any_cons,List.any_nil,Bool.or_false];cases t.kind==4 <;> simp
theorem space_eq (p a b:Tok):Fo.spaceT p a b=spaceX (operandR p) (a.kind==1) (opB a).toList (opB b).toList:=by
 unfold Fo.spaceT Fo.valueT spaceX operandR;rw[isKind_cons a ⟨#[40]⟩,isKind_cons a ⟨#[46]⟩ [⟨#[33]⟩],isKind_cons b ⟨#[41]⟩,isKind_cons b ⟨#[44]⟩,isKind_cons b ⟨#[46]⟩ [⟨#[58]⟩]];simp only[opB_is];have ep:(p.kind==1 || p.kind==2 || p.kind==3 ||((opB p).toList== [41]))=(p.kind==1 || p.kind==2 || p.kind==3 ||(p.kind==4&&p.text.toList== [41])):=by
  have:=opB_is p 41;rw[←this];unfold isKind isIn eqB;simp only[List.any_cons,List.any_nil,Bool.or_false];rw[Lib.toList_data ⟨#[41]⟩]
 rw[ep];generalize (p.kind==1 || p.kind==2 || p.kind==3 ||(p.kind==4&&p.text.toList== [41]))=v;generalize (opB a).toList=X;generalize (opB b).toList=Y;cases X== [40] <;> cases X== [46] <;> cases X== [33] <;> simp
 all_goals (cases X== [45] <;> cases v <;> simp[Bool.and_assoc])
def spJ (p a b:Tok) (X Y:ByteArray) (st:St):Prop:=st.hp= [(encT p).map .p,(encT a).map .p,(encT b).map .p]∧st.tm 3= .ref 0 0∧st.tm 4= .ref 1 0∧st.tm 5= .ref 2 0∧st.tm 7= .p (.str X)∧st.tm 8= .p (.str Y)
theorem rspace_ok {W0 nb} {p a b:Tok}:DCalls ⟨Tryz.prog,W0,nb⟩ 101 [.agg ((encT p).map .p),.agg ((encT a).map .p),.agg ((encT b).map .p)] [] (.p (.bool (Fo.spaceT p a b))) []:=by
 rw[space_eq];have co:=operandR_ok (W0:=W0) (nb:=nb) (t:=p);simp only[encT,List.map_cons,List.map_nil]at co;generalize operandR p=v at *;refine dcalls_end Tryz.func101 rfl (by kernel_rfl) 73 Tryz.ntmps101 #[.tmp 6] rfl (Nat.le_of_ble_eq_true rfl) ?_;simp[encT];refine IfGoal.cut (spJ p a b (opB a) ⟨#[]⟩) ?_ ?_
 ·cases ha:a.kind==4 with
  | true=>simp[ha];exact⟨by simp[encT],by simp,by simp,by simp,by simp[opB,ha],by simp⟩
  | false=>simp[ha];exact⟨by simp[encT],by simp,by simp,by simp,by simp[opB,ha],by simp⟩
 rintro⟨tm,hp⟩ ⟨e0,e3,e4,e5,e7,e8⟩;simp only at e0 e3 e4 e5 e7 e8;subst e0;simp[e3,e4,e5,e7,e8,encT];refine IfGoal.cut (spJ p a b (opB a) (opB b)) ?_ ?_
 ·cases hb:b.kind==4 with
  | true=>simp[hb,e3,e4,e5,e7,e8];exact⟨by simp[encT],by simp[e3],by simp[e4],by simp[e5],by simp[e7],by simp[opB,hb]⟩
  | false=>simp[hb,e3,e4,e5,e7,e8];exact⟨by simp[encT],by simp[e3],by simp[e4],by simp[e5],by simp[e7],by simp[opB,hb,e8]⟩
 clear e3 e4 e5 e7 e8;rintro⟨tm,hp⟩ ⟨e0,e3,e4,e5,e7,e8⟩;simp only at e0 e3 e4 e5 e7 e8;subst e0;obtain⟨X,hX⟩:∃X,opB a=X:=⟨_,rfl⟩
 obtain⟨Y,hY⟩:∃Y,opB b=Y:=⟨_,rfl⟩
 rw[hX]at e7⊢;rw[hY]at e8⊢;clear hX hY;cases x1:X.toList== [40]with
 | true=>
  try simp[encT,e3,e4,e5,e7,e8,x1]
  exact .keep (by simp[x1,spaceX]) (.refl _) (by simp) (by simp[x1,spaceX]) (by simp[x1,spaceX]) (by simp[x1,spaceX])
 | false=>
 try simp[encT,e3,e4,e5,e7,e8,x1]
 cases x2:X.toList== [46]with
 | true=>
  try simp[encT,e3,e4,e5,e7,e8,x2]
  exact .keep (by simp[x1,x2,spaceX]) (.refl _) (by simp) (by simp[x1,x2,spaceX]) (by simp[x1,x2,spaceX]) (by simp[x1,x2,spaceX])
 | false=>
 try simp[encT,e3,e4,e5,e7,e8,x2]
 cases x3:X.toList== [33]with
 | true=>
  try simp[encT,e3,e4,e5,e7,e8,x3]
  exact .keep (by simp[x1,x2,x3,spaceX]) (.refl _) (by simp) (by simp[x1,x2,x3,spaceX]) (by simp[x1,x2,x3,spaceX]) (by simp[x1,x2,x3,spaceX])
 | false=>
 try simp[encT,e3,e4,e5,e7,e8,x3]
 cases x4:X.toList== [45]with
 | true=>
  simp[encT,e3,e4,e5,e7,e8,x4];refine CallGoal.same co ?_;cases v with
  | false=>
   try simp[encT,e3,e4,e5,e7,e8,x4]
   exact .keep (by simp[x1,x2,x3,x4,spaceX]) (.refl _) (by simp) (by simp[x1,x2,x3,x4,spaceX]) (by simp[x1,x2,x3,x4,spaceX]) (by simp[x1,x2,x3,x4,spaceX])
  | true=>
  try simp[encT,e3,e4,e5,e7,e8,x4]
  cases y1:Y.toList== [41]with
  | true=>
   try simp[encT,e3,e4,e5,e7,e8,y1]
   exact .keep (by simp[x1,x2,x3,x4,y1,spaceX]) (.refl _) (by simp) (by simp[x1,x2,x3,x4,y1,spaceX]) (by simp[x1,x2,x3,x4,y1,spaceX]) (by simp[x1,x2,x3,x4,y1,spaceX])
  | false=>
  try simp[encT,e3,e4,e5,e7,e8,y1]
  cases y2:Y.toList== [44]with
  | true=>
   try simp[encT,e3,e4,e5,e7,e8,y2]
   exact .keep (by simp[x1,x2,x3,x4,y1,y2,spaceX]) (.refl _) (by simp) (by simp[x1,x2,x3,x4,y1,y2,spaceX]) (by simp[x1,x2,x3,x4,y1,y2,spaceX]) (by simp[x1,x2,x3,x4,y1,y2,spaceX])
  | false=>
  try simp[encT,e3,e4,e5,e7,e8,y2]
  cases y3:Y.toList== [46]with
  | true=>
   try simp[encT,e3,e4,e5,e7,e8,y3]
   exact .keep (by simp[x1,x2,x3,x4,y1,y2,y3,spaceX]) (.refl _) (by simp) (by simp[x1,x2,x3,x4,y1,y2,y3,spaceX]) (by simp[x1,x2,x3,x4,y1,y2,y3,spaceX]) (by simp[x1,x2,x3,x4,y1,y2,y3,spaceX])
  | false=>
  try simp[encT,e3,e4,e5,e7,e8,y3]
  cases y4:Y.toList== [58]with
  | true=>
   try simp[encT,e3,e4,e5,e7,e8,y4]
   exact .keep (by simp[x1,x2,x3,x4,y1,y2,y3,y4,spaceX]) (.refl _) (by simp) (by simp[x1,x2,x3,x4,y1,y2,y3,y4,spaceX]) (by simp[x1,x2,x3,x4,y1,y2,y3,y4,spaceX]) (by simp[x1,x2,x3,x4,y1,y2,y3,y4,spaceX])
  | false=>
  try simp[encT,e3,e4,e5,e7,e8,y4]
  cases y5:Y.toList== [40]with
  | true=>
   try simp[encT,e3,e4,e5,e7,e8,y5]
   cases n1:a.kind==1 with
   | true=>
    try simp[encT,e3,e4,e5,e7,e8,n1]
    exact .keep (by simp[x1,x2,x3,x4,y1,y2,y3,y4,y5,n1,spaceX]) (.refl _) (by simp) (by simp[x1,x2,x3,x4,y1,y2,y3,y4,y5,n1,spaceX]) (by simp[x1,x2,x3,x4,y1,y2,y3,y4,y5,n1,spaceX]) (by simp[x1,x2,x3,x4,y1,y2,y3,y4,y5,n1,spaceX])
   | false=>
   try simp[encT,e3,e4,e5,e7,e8,n1]
   cases x5:X.toList== [41]with
   | true=>
    try simp[encT,e3,e4,e5,e7,e8,x5]
    exact .keep (by simp[x1,x2,x3,x4,y1,y2,y3,y4,y5,n1,x5,spaceX]) (.refl _) (by simp) (by simp[x1,x2,x3,x4,y1,y2,y3,y4,y5,n1,x5,spaceX]) (by simp[x1,x2,x3,x4,y1,y2,y3,y4,y5,n1,x5,spaceX]) (by simp[x1,x2,x3,x4,y1,y2,y3,y4,y5,n1,x5,spaceX])
   | false=>
   try simp[encT,e3,e4,e5,e7,e8,x5]
   cases z1:X.toList== [123]with
   | false=>
    try simp[encT,e3,e4,e5,e7,e8,z1]
    exact .keep (by simp[x1,x2,x3,x4,y1,y2,y3,y4,y5,n1,x5,z1,spaceX]) (.refl _) (by simp) (by simp[x1,x2,x3,x4,y1,y2,y3,y4,y5,n1,x5,z1,spaceX]) (by simp[x1,x2,x3,x4,y1,y2,y3,y4,y5,n1,x5,z1,spaceX]) (by simp[x1,x2,x3,x4,y1,y2,y3,y4,y5,n1,x5,z1,spaceX])
   | true=>
   try simp[encT,e3,e4,e5,e7,e8,z1]
   cases z2:Y.toList== [125]with
   | false=>
    try simp[encT,e3,e4,e5,e7,e8,z2]
    exact .keep (by simp[x1,x2,x3,x4,y1,y2,y3,y4,y5,n1,x5,z1,z2,spaceX]) (.refl _) (by simp) (by simp[x1,x2,x3,x4,y1,y2,y3,y4,y5,n1,x5,z1,z2,spaceX]) (by simp[x1,x2,x3,x4,y1,y2,y3,y4,y5,n1,x5,z1,z2,spaceX]) (by simp[x1,x2,x3,x4,y1,y2,y3,y4,y5,n1,x5,z1,z2,spaceX])
   | true=>
    try simp[encT,e3,e4,e5,e7,e8,z2]
    exact .keep (by simp[x1,x2,x3,x4,y1,y2,y3,y4,y5,n1,x5,z1,z2,spaceX]) (.refl _) (by simp) (by simp[x1,x2,x3,x4,y1,y2,y3,y4,y5,n1,x5,z1,z2,spaceX]) (by simp[x1,x2,x3,x4,y1,y2,y3,y4,y5,n1,x5,z1,z2,spaceX]) (by simp[x1,x2,x3,x4,y1,y2,y3,y4,y5,n1,x5,z1,z2,spaceX])
  | false=>
   try simp[encT,e3,e4,e5,e7,e8,y5]
   cases z1:X.toList== [123]with
   | false=>
    try simp[encT,e3,e4,e5,e7,e8,z1]
    exact .keep (by simp[x1,x2,x3,x4,y1,y2,y3,y4,y5,z1,spaceX]) (.refl _) (by simp) (by simp[x1,x2,x3,x4,y1,y2,y3,y4,y5,z1,spaceX]) (by simp[x1,x2,x3,x4,y1,y2,y3,y4,y5,z1,spaceX]) (by simp[x1,x2,x3,x4,y1,y2,y3,y4,y5,z1,spaceX])
   | true=>
   try simp[encT,e3,e4,e5,e7,e8,z1]
   cases z2:Y.toList== [125]with
   | false=>
    try simp[encT,e3,e4,e5,e7,e8,z2]
    exact .keep (by simp[x1,x2,x3,x4,y1,y2,y3,y4,y5,z1,z2,spaceX]) (.refl _) (by simp) (by simp[x1,x2,x3,x4,y1,y2,y3,y4,y5,z1,z2,spaceX]) (by simp[x1,x2,x3,x4,y1,y2,y3,y4,y5,z1,z2,spaceX]) (by simp[x1,x2,x3,x4,y1,y2,y3,y4,y5,z1,z2,spaceX])
   | true=>
    try simp[encT,e3,e4,e5,e7,e8,z2]
    exact .keep (by simp[x1,x2,x3,x4,y1,y2,y3,y4,y5,z1,z2,spaceX]) (.refl _) (by simp) (by simp[x1,x2,x3,x4,y1,y2,y3,y4,y5,z1,z2,spaceX]) (by simp[x1,x2,x3,x4,y1,y2,y3,y4,y5,z1,z2,spaceX]) (by simp[x1,x2,x3,x4,y1,y2,y3,y4,y5,z1,z2,spaceX])
 | false=>
  try simp[encT,e3,e4,e5,e7,e8,x4]
  cases y1:Y.toList== [41]with
  | true=>
   try simp[encT,e3,e4,e5,e7,e8,y1]
   exact .keep (by simp[x1,x2,x3,x4,y1,spaceX]) (.refl _) (by simp) (by simp[x1,x2,x3,x4,y1,spaceX]) (by simp[x1,x2,x3,x4,y1,spaceX]) (by simp[x1,x2,x3,x4,y1,spaceX])
  | false=>
  try simp[encT,e3,e4,e5,e7,e8,y1]
  cases y2:Y.toList== [44]with
  | true=>
   try simp[encT,e3,e4,e5,e7,e8,y2]
   exact .keep (by simp[x1,x2,x3,x4,y1,y2,spaceX]) (.refl _) (by simp) (by simp[x1,x2,x3,x4,y1,y2,spaceX]) (by simp[x1,x2,x3,x4,y1,y2,spaceX]) (by simp[x1,x2,x3,x4,y1,y2,spaceX])
  | false=>
  try simp[encT,e3,e4,e5,e7,e8,y2]
  cases y3:Y.toList== [46]with
  | true=>
   try simp[encT,e3,e4,e5,e7,e8,y3]
   exact .keep (by simp[x1,x2,x3,x4,y1,y2,y3,spaceX]) (.refl _) (by simp) (by simp[x1,x2,x3,x4,y1,y2,y3,spaceX]) (by simp[x1,x2,x3,x4,y1,y2,y3,spaceX]) (by simp[x1,x2,x3,x4,y1,y2,y3,spaceX])
  | false=>
  try simp[encT,e3,e4,e5,e7,e8,y3]
  cases y4:Y.toList== [58]with
  | true=>
   try simp[encT,e3,e4,e5,e7,e8,y4]
   exact .keep (by simp[x1,x2,x3,x4,y1,y2,y3,y4,spaceX]) (.refl _) (by simp) (by simp[x1,x2,x3,x4,y1,y2,y3,y4,spaceX]) (by simp[x1,x2,x3,x4,y1,y2,y3,y4,spaceX]) (by simp[x1,x2,x3,x4,y1,y2,y3,y4,spaceX])
  | false=>
  try simp[encT,e3,e4,e5,e7,e8,y4]
  cases y5:Y.toList== [40]with
  | true=>
   try simp[encT,e3,e4,e5,e7,e8,y5]
   cases n1:a.kind==1 with
   | true=>
    try simp[encT,e3,e4,e5,e7,e8,n1]
    exact .keep (by simp[x1,x2,x3,x4,y1,y2,y3,y4,y5,n1,spaceX]) (.refl _) (by simp) (by simp[x1,x2,x3,x4,y1,y2,y3,y4,y5,n1,spaceX]) (by simp[x1,x2,x3,x4,y1,y2,y3,y4,y5,n1,spaceX]) (by simp[x1,x2,x3,x4,y1,y2,y3,y4,y5,n1,spaceX])
   | false=>
   try simp[encT,e3,e4,e5,e7,e8,n1]
   cases x5:X.toList== [41]with
   | true=>
    try simp[encT,e3,e4,e5,e7,e8,x5]
    exact .keep (by simp[x1,x2,x3,x4,y1,y2,y3,y4,y5,n1,x5,spaceX]) (.refl _) (by simp) (by simp[x1,x2,x3,x4,y1,y2,y3,y4,y5,n1,x5,spaceX]) (by simp[x1,x2,x3,x4,y1,y2,y3,y4,y5,n1,x5,spaceX]) (by simp[x1,x2,x3,x4,y1,y2,y3,y4,y5,n1,x5,spaceX])
   | false=>
   try simp[encT,e3,e4,e5,e7,e8,x5]
   cases z1:X.toList== [123]with
   | false=>
    try simp[encT,e3,e4,e5,e7,e8,z1]
    exact .keep (by simp[x1,x2,x3,x4,y1,y2,y3,y4,y5,n1,x5,z1,spaceX]) (.refl _) (by simp) (by simp[x1,x2,x3,x4,y1,y2,y3,y4,y5,n1,x5,z1,spaceX]) (by simp[x1,x2,x3,x4,y1,y2,y3,y4,y5,n1,x5,z1,spaceX]) (by simp[x1,x2,x3,x4,y1,y2,y3,y4,y5,n1,x5,z1,spaceX])
   | true=>
   try simp[encT,e3,e4,e5,e7,e8,z1]
   cases z2:Y.toList== [125]with
   | false=>
    try simp[encT,e3,e4,e5,e7,e8,z2]
    exact .keep (by simp[x1,x2,x3,x4,y1,y2,y3,y4,y5,n1,x5,z1,z2,spaceX]) (.refl _) (by simp) (by simp[x1,x2,x3,x4,y1,y2,y3,y4,y5,n1,x5,z1,z2,spaceX]) (by simp[x1,x2,x3,x4,y1,y2,y3,y4,y5,n1,x5,z1,z2,spaceX]) (by simp[x1,x2,x3,x4,y1,y2,y3,y4,y5,n1,x5,z1,z2,spaceX])
   | true=>
    try simp[encT,e3,e4,e5,e7,e8,z2]
    exact .keep (by simp[x1,x2,x3,x4,y1,y2,y3,y4,y5,n1,x5,z1,z2,spaceX]) (.refl _) (by simp) (by simp[x1,x2,x3,x4,y1,y2,y3,y4,y5,n1,x5,z1,z2,spaceX]) (by simp[x1,x2,x3,x4,y1,y2,y3,y4,y5,n1,x5,z1,z2,spaceX]) (by simp[x1,x2,x3,x4,y1,y2,y3,y4,y5,n1,x5,z1,z2,spaceX])
  | false=>
   try simp[encT,e3,e4,e5,e7,e8,y5]
   cases z1:X.toList== [123]with
   | false=>
    try simp[encT,e3,e4,e5,e7,e8,z1]
    exact .keep (by simp[x1,x2,x3,x4,y1,y2,y3,y4,y5,z1,spaceX]) (.refl _) (by simp) (by simp[x1,x2,x3,x4,y1,y2,y3,y4,y5,z1,spaceX]) (by simp[x1,x2,x3,x4,y1,y2,y3,y4,y5,z1,spaceX]) (by simp[x1,x2,x3,x4,y1,y2,y3,y4,y5,z1,spaceX])
   | true=>
   try simp[encT,e3,e4,e5,e7,e8,z1]
   cases z2:Y.toList== [125]with
   | false=>
    try simp[encT,e3,e4,e5,e7,e8,z2]
    exact .keep (by simp[x1,x2,x3,x4,y1,y2,y3,y4,y5,z1,z2,spaceX]) (.refl _) (by simp) (by simp[x1,x2,x3,x4,y1,y2,y3,y4,y5,z1,z2,spaceX]) (by simp[x1,x2,x3,x4,y1,y2,y3,y4,y5,z1,z2,spaceX]) (by simp[x1,x2,x3,x4,y1,y2,y3,y4,y5,z1,z2,spaceX])
   | true=>
    try simp[encT,e3,e4,e5,e7,e8,z2]
    exact .keep (by simp[x1,x2,x3,x4,y1,y2,y3,y4,y5,z1,z2,spaceX]) (.refl _) (by simp) (by simp[x1,x2,x3,x4,y1,y2,y3,y4,y5,z1,z2,spaceX]) (by simp[x1,x2,x3,x4,y1,y2,y3,y4,y5,z1,z2,spaceX]) (by simp[x1,x2,x3,x4,y1,y2,y3,y4,y5,z1,z2,spaceX])
end Rf
end Go.Proofs.Dm
set_option maxHeartbeats 16000000
set_option maxRecDepth 100000
namespace Go.Proofs.Dm
open Go Go.Proofs Go.Proofs.Tryz Go.Proofs.Dm.Sc
open Fo (isO zeroT nlB spB pad trimR linesP)
namespace Rf
attribute [local simp] encT encI takes handsOn isTmp Op.operands Call.operands
theorem get_tok {l:List Tok} {i:Nat} (h:i < l.length):∃t,l[i]? =some t∧l[i]=t:=⟨l[i],List.getElem?_eq_getElem h,rfl⟩
theorem b123:(⟨#[123]⟩:ByteArray).toList= [123]:=by rw[Lib.toList_data]
theorem b125:(⟨#[125]⟩:ByteArray).toList= [125]:=by rw[Lib.toList_data]
theorem is_one {t:Tok} (h:isO t [123]=true):isO t [125]=false:=by
 unfold isO at h⊢;rw[Bool.and_eq_true,beq_iff_eq,beq_iff_eq]at h;rw[h.2,Bool.and_eq_false_iff];right;decide
def rtI (l:List Tok) (x:It) (T m:Nat) (st:St):Prop:=∃i:Nat,m=T - i∧i≤T∧
 st.hp= [(encI x).map .p]∧st.tm 0= .p (.sl 5 (l.map encT))∧st.tm 3= .ref 0 0∧st.tm 5=i64 (La.opens (l.take i))∧st.tm 6=i64 (i:Nat)
def rtJ (l:List Tok) (x:It) (T:Nat) (st:St):Prop:=st.hp= [(encI x).map .p]∧st.tm 0= .p (.sl 5 (l.map encT))∧st.tm 3= .ref 0 0∧st.tm 5=i64 (La.opens (l.take T))
theorem rtabs_ok {W0 nb l} {x:It} (hl:l.length < 100000000) (h0:0≤x.tok) (h1:x.tok < l.length):DCalls ⟨Tryz.prog,W0,nb⟩ 61 [.p (.sl 5 (l.map encT)),.agg ((encI x).map .p)] [] (i64 (tabsR l x)) []:=by
 obtain⟨tok,line,note,com⟩:=x;simp only at h0 h1;obtain⟨T,rfl⟩:=Int.eq_ofNat_of_zero_le h0;have hT:T < l.length:=by omega
 have hop:=La.opens_le l T;obtain⟨R,hR⟩:∃R,tabsR l ⟨(T:Int),line,note,com⟩=R:=⟨_,rfl⟩
 rw[hR];unfold tabsR shutR at hR;simp only[Int.toNat_natCast]at hR;refine dcalls_end Tryz.func61 rfl (by kernel_rfl) 72 Tryz.ntmps61 #[.tmp 4] rfl (Nat.le_of_ble_eq_true rfl) ?_;simp;refine LoopGoal.cut (rtJ l ⟨(T:Int),line,note,com⟩ T) ?_ ?_
 ·refine⟨rtI l ⟨(T:Int),line,note,com⟩ T,T,.here ⟨0,by simp,by simp,by simp,by simp,by simp,by simp[La.opens],by simp⟩,?_⟩;rintro m ⟨tm,hp⟩ ⟨i,rfl,hi,e,e0,e3,e5,e6⟩;simp only at e e0 e3 e5 e6;subst e;simp[e3,e6];rcases Nat.lt_or_ge i T with hlt | hge
  rotate_left
  ·have:i=T:=by omega
   subst this;simp;exact⟨by simp,by simp[e0],by simp[e3],by simp[e5]⟩
  have hil:i < l.length:=by omega
  obtain⟨t,ht,hti⟩:=get_tok hil;have hoi:=La.opens_le l i;have hos:=La.opens_take l i t ht;have hw:=w64_id (n:=(i:Int)+ 1) (by omega) (by omega);have hw2:=w64_id (n:=La.opens (l.take i)+ 1) (by omega) (by omega);have hw3:=w64_id (n:=La.opens (l.take i)- 1) (by omega) (by omega);simp only[w64]at hw hw2 hw3;unfold La.opT at hos;generalize La.opens (l.take i)=o at *;have c1:=ris_ok (W0:=W0) (nb:=nb) (t:=t) (x:=⟨#[123]⟩);have c2:=ris_ok (W0:=W0) (nb:=nb) (t:=t) (x:=⟨#[125]⟩);rw[b123]at c1;rw[b125]at c2;simp only[encT,List.map_cons,List.map_nil]at c1 c2;simp[hlt,hil,e0,e6,ht,hti];refine CallGoal.same c1 ?_;cases g1:isO t [123]with
  | true=>
   rw[g1,if_pos rfl]at hos;have g2:=is_one g1;simp[e0,e5,e6,hw2,hil,ht,hti];refine CallGoal.same c2 ?_;simp[g2,e6,hw];exact .same (T -(i + 1)) (by omega) ⟨i + 1,rfl,by omega,by simp,by simp[e0],by simp[e3],by simp[hos,hw2],by simp[hw]⟩
  | false=>
   simp[e0,e6,hil,ht,hti];refine CallGoal.same c2 ?_;cases g2:isO t [125]with
   | true=>
    simp only[g1,g2,Bool.false_eq_true,if_false,if_true]at hos;simp[e5,e6,hw,hw3];exact .same (T -(i + 1)) (by omega) ⟨i + 1,rfl,by omega,by simp,by simp[e0],by simp[e3],by simp[hos,hw3],by simp[hw]⟩
   | false=>
    simp only[g1,g2,Bool.false_eq_true,if_false]at hos;simp[e6,hw];exact .same (T -(i + 1)) (by omega) ⟨i + 1,rfl,by omega,by simp,by simp[e0],by simp[e3],by simp[hos,e5],by simp[hw]⟩
 rintro⟨tm,hp⟩ ⟨e,e0,e3,e5⟩;simp only at e e0 e3 e5;subst e;have hwp:=w64_id (n:=La.opens (l.take T)+ 1) (by omega) (by omega);have hwm:=w64_id (n:=La.opens (l.take T)- 1) (by omega) (by omega);simp only[w64]at hwp hwm;generalize La.opens (l.take T)=o at *;cases com with
 | true=>
  simp[e0,e3,e5];rcases Nat.eq_zero_or_pos T with hz | hz
  ·subst hz;simp[Bool.not_true]at hR;simp[e0,e3,e5,Bool.not_true];exact .keep (by simp[hR]) (.refl _) (by simp) (by simp[hR]) (by simp[hR]) (by simp[hR])
  ·obtain⟨t',ht',hti'⟩:=get_tok (show T - 1 < l.length by omega);have hw4:=w64_id (n:=((T:Nat):Int)- 1) (by omega) (by omega);simp only[w64]at hw4;have hc:((T:Nat):Int)- 1=((T - 1:Nat):Int):=by omega
   have hlt':T - 1 < l.length:=by omega
   have hp1:(0:Int)<(T:Int):=by omega
   rw[tk_at ht']at hR;rw[hc]at hw4;have d1:=ris_ok (W0:=W0) (nb:=nb) (t:=t') (x:=⟨#[123]⟩);have d2:=ris_ok (W0:=W0) (nb:=nb) (t:=t') (x:=⟨#[125]⟩);rw[b123]at d1;rw[b125]at d2;simp only[encT,List.map_cons,List.map_nil]at d1 d2;unfold onR at hR;simp[e0,e3,e5,hz,hp1,hc,hw4,hlt',ht',hti',Bool.not_true];cases h6:t'.kind==6 with
   | true=>
    have h6b:(t'.kind !=6)=false:=by simp[bne,h6]
    simp[Bool.not_true,h6b,hp1]at hR;simp[e0,e3,e5,h6b];exact .keep (by simp[hR]) (.refl _) (by simp) (by simp[hR]) (by simp[hR]) (by simp[hR])
   | false=>
    have h6b:(t'.kind !=6)=true:=by simp[bne,h6]
    simp[h6b];refine CallGoal.same d1 ?_;cases g1:isO t' [123]with
    | true=>
     simp[Bool.not_true,h6b,hp1,g1]at hR;simp[e0,e3,e5,g1];exact .keep (by simp[hR]) (.refl _) (by simp) (by simp[hR]) (by simp[hR]) (by simp[hR])
    | false=>
     simp[g1];refine CallGoal.same d2 ?_;cases g2:isO t' [125]with
     | true=>
      simp[Bool.not_true,h6b,hp1,g1,g2]at hR;simp[e0,e3,e5,g2];exact .keep (by simp[hR]) (.refl _) (by simp) (by simp[hR]) (by simp[hR]) (by simp[hR])
     | false=>
      simp[Bool.not_true,h6b,hp1,hz,g1,g2]at hR;simp[e0,e3,e5,g2,hwp];exact .keep (by simp[hR,hwp]) (.refl _) (by simp) (by simp[hR,hwp]) (by simp[hR,hwp]) (by simp[hR,hwp])
 | false=>
  obtain⟨t,ht,hti⟩:=get_tok hT;have c2:=ris_ok (W0:=W0) (nb:=nb) (t:=t) (x:=⟨#[125]⟩);rw[b125]at c2;simp only[encT,List.map_cons,List.map_nil]at c2;rw[tk_at ht]at hR;simp[e0,e3,e5,hT,ht,hti];refine CallGoal.same c2 ?_;cases g:isO t [125]with
  | true=>
   simp[g]at hR;simp[e0,e3,e5,hwm];rcases Nat.eq_zero_or_pos T with hz | hz
   ·subst hz;simp[e3,e5];exact .keep (by simp[hR]) (.refl _) (by simp) (by simp[hR]) (by simp[hR]) (by simp[hR])
   ·have hp1:(0:Int)<(T:Int):=by omega
    simp[e3,e5,hz,hp1];exact .keep (by simp[hR,hwm]) (.refl _) (by simp) (by simp[hR,hwm]) (by simp[hR,hwm]) (by simp[hR,hwm])
  | false=>
   simp[e0,e3,e5];rcases Nat.eq_zero_or_pos T with hz | hz
   ·subst hz;simp[g]at hR;simp[e0,e3,e5,g];exact .keep (by simp[hR]) (.refl _) (by simp) (by simp[hR]) (by simp[hR]) (by simp[hR])
   ·obtain⟨t',ht',hti'⟩:=get_tok (show T - 1 < l.length by omega);have hw4:=w64_id (n:=((T:Nat):Int)- 1) (by omega) (by omega);simp only[w64]at hw4;have hc:((T:Nat):Int)- 1=((T - 1:Nat):Int):=by omega
    have hlt':T - 1 < l.length:=by omega
    have hp1:(0:Int)<(T:Int):=by omega
    rw[tk_at ht']at hR;rw[hc]at hw4;have d1:=ris_ok (W0:=W0) (nb:=nb) (t:=t') (x:=⟨#[123]⟩);have d2:=ris_ok (W0:=W0) (nb:=nb) (t:=t') (x:=⟨#[125]⟩);rw[b123]at d1;rw[b125]at d2;simp only[encT,List.map_cons,List.map_nil]at d1 d2;unfold onR at hR;simp[e0,e3,e5,hz,hp1,hc,hw4,hlt',ht',hti',g];cases h6:t'.kind==6 with
    | true=>
     have h6b:(t'.kind !=6)=false:=by simp[bne,h6]
     simp[g,h6b,hp1]at hR;simp[e0,e3,e5,h6b];exact .keep (by simp[hR]) (.refl _) (by simp) (by simp[hR]) (by simp[hR]) (by simp[hR])
    | false=>
     have h6b:(t'.kind !=6)=true:=by simp[bne,h6]
     simp[h6b];refine CallGoal.same d1 ?_;cases g1:isO t' [123]with
     | true=>
      simp[g,h6b,hp1,g1]at hR;simp[e0,e3,e5,g1];exact .keep (by simp[hR]) (.refl _) (by simp) (by simp[hR]) (by simp[hR]) (by simp[hR])
     | false=>
      simp[g1];refine CallGoal.same d2 ?_;cases g2:isO t' [125]with
      | true=>
       simp[g,h6b,hp1,g1,g2]at hR;simp[e0,e3,e5,g2];exact .keep (by simp[hR]) (.refl _) (by simp) (by simp[hR]) (by simp[hR]) (by simp[hR])
      | false=>
       simp[g,h6b,hp1,hz,g1,g2]at hR;simp[e0,e3,e5,g2,hwp];exact .keep (by simp[hR,hwp]) (.refl _) (by simp) (by simp[hR,hwp]) (by simp[hR,hwp]) (by simp[hR,hwp])
theorem rbreaks_ok {W0 nb l} {b x:It} (hl:l.length < 100000000) (hx:x.com=false→b.com=false→1≤x.tok∧x.tok < l.length):DCalls ⟨Tryz.prog,W0,nb⟩ 62 [.p (.sl 5 (l.map encT)),.agg ((encI b).map .p),.agg ((encI x).map .p)] [] (.p (.bool (breaksR l b x))) []:=by
 obtain⟨btok,bline,bnote,bcom⟩:=b;obtain⟨tok,line,note,com⟩:=x;simp only at hx;obtain⟨R,hR⟩:∃R,breaksR l ⟨btok,bline,bnote,bcom⟩ ⟨tok,line,note,com⟩=R:=⟨_,rfl⟩
 rw[hR];unfold breaksR at hR;simp only at hR;refine dcalls_end Tryz.func62 rfl (by kernel_rfl) 45 Tryz.ntmps62 #[.tmp 6] rfl (Nat.le_of_ble_eq_true rfl) ?_;simp;cases com with
 | true=>
  cases bcom with
  | true=>
   simp at hR;simp;exact .keep (by simp[hR]) (.refl _) (by simp) (by simp[hR]) (by simp[hR]) (by simp[hR])
  | false=>
   simp at hR;simp;exact .keep (by simp[hR]) (.refl _) (by simp) (by simp[hR]) (by simp[hR]) (by simp[hR])
 | false=>
  cases bcom with
  | true=>
   simp at hR;simp;exact .keep (by simp[hR]) (.refl _) (by simp) (by simp[hR]) (by simp[hR]) (by simp[hR])
  | false=>
   obtain⟨h0,h1⟩:=hx rfl rfl;obtain⟨T,rfl⟩:=Int.eq_ofNat_of_zero_le (show 0≤tok by omega);have hT:T < l.length:=by omega
   obtain⟨t,ht,hti⟩:=get_tok hT;obtain⟨t',ht',hti'⟩:=get_tok (show T - 1 < l.length by omega);have hlt':T - 1 < l.length:=by omega
   have hw4:=w64_id (n:=((T:Nat):Int)- 1) (by omega) (by omega);simp only[w64]at hw4;have hc:((T:Nat):Int)- 1=((T - 1:Nat):Int):=by omega
   rw[hc]at hw4;simp only[Int.toNat_natCast,Bool.false_eq_true,if_false]at hR;rw[tk_at ht,tk_at ht']at hR;have c0:=rlast_ok (W0:=W0) (nb:=nb) (x:=⟨(T:Int),line,note,false⟩) hl (by simp) (by simp only;omega);simp only[Int.toNat_natCast]at c0;obtain⟨e,he⟩:∃e,lastR l T=e:=⟨_,rfl⟩
   rw[he]at c0 hR;have c1:=ris_ok (W0:=W0) (nb:=nb) (t:=e) (x:=⟨#[123]⟩);have c2:=ris_ok (W0:=W0) (nb:=nb) (t:=t) (x:=⟨#[125]⟩);rw[b123]at c1;rw[b125]at c2;simp only[encT,encI,List.map_cons,List.map_nil]at c0 c1 c2;simp[hT,ht,hti];refine CallGoal.same c0 ?_;simp;refine CallGoal.same c1 ?_;cases g1:isO e [123]with
   | true=>
    rw[g1]at hR;simp only[if_true]at hR;simp;refine CallGoal.same c2 ?_;simp;exact .keep (by simp[hR]) (.refl _) (by simp) (by simp[hR]) (by simp[hR]) (by simp[hR])
   | false=>
    rw[g1]at hR;simp only[Bool.false_eq_true,if_false]at hR;simp[hc,hw4,hlt',ht',hti'];cases g6:t'.kind==6 with
    | true=>
     rw[g6]at hR;simp only[if_true]at hR;simp;exact .keep (by simp[hR]) (.refl _) (by simp) (by simp[hR]) (by simp[hR]) (by simp[hR])
    | false=>
     rw[g6]at hR;simp only[Bool.false_eq_true,if_false]at hR;simp;refine CallGoal.same c2 ?_;simp;exact .keep (by simp[hR]) (.refl _) (by simp) (by simp[hR]) (by simp[hR]) (by simp[hR])
end Rf
end Go.Proofs.Dm
set_option maxHeartbeats 16000000
set_option maxRecDepth 100000
namespace Go.Proofs.Dm
open Go Go.Proofs Go.Proofs.Tryz Go.Proofs.Dm.Sc
open Fo (isO zeroT nlB spB pad trimR linesP)
namespace Rf
attribute [local simp] encT encI encC takes handsOn isTmp Op.operands Call.operands
theorem get_line {L:List ByteArray} {i:Nat} (h:i < L.length):∃s,L[i]? =some s∧L[i]=s:=⟨L[i],List.getElem?_eq_getElem h,rfl⟩
def rgI (src:List ByteArray) (b x:It) (R:Bool) (m:Nat) (st:St):Prop:=∃i:Nat,m=(x.line - 1 - i).toNat∧gapN src (x.line - 1 - i).toNat i=R∧
 st.hp= [(encI b).map .p,(encI x).map .p]∧st.tm 1= .p (.sl 1 (rowsS src))∧st.tm 7= .ref 1 0∧st.tm 9=i64 (i:Nat)
theorem rgap_ok {W0 nb l src} {b x:It} (hl:l.length < 100000000) (h0:0≤x.tok) (h1:x.tok < l.length) (hb:0≤b.line) (hb2:b.line≤100000000) (hx:x.line≤src.length) (hs:src.length < 100000000) (hz:∀s∈src,s.size < 1099511627776) (hx0:0≤x.line):
  DCalls ⟨Tryz.prog,W0,nb⟩ 63 [.p (.sl 5 (l.map encT)),.p (.sl 1 (rowsS src)),.agg ((encI b).map .p),.agg ((encI x).map .p)] [] (.p (.bool (gapR l src b x))) []:=by
 obtain⟨R,hR⟩:∃R,gapR l src b x=R:=⟨_,rfl⟩
 rw[hR];obtain⟨tok,line,note,com⟩:=x;simp only at h0 h1 hx hx0;obtain⟨T,rfl⟩:=Int.eq_ofNat_of_zero_le h0;have hT:T < l.length:=by omega
 unfold gapR shutR at hR;simp only[Int.toNat_natCast]at hR;obtain⟨t,ht,hti⟩:=get_tok hT;rw[tk_at ht]at hR;have c0:=rlast_ok (W0:=W0) (nb:=nb) (x:=⟨(T:Int),line,note,com⟩) hl (by simp) (by simp only;omega);simp only[Int.toNat_natCast]at c0;obtain⟨e,he⟩:∃e,lastR l T=e:=⟨_,rfl⟩
 rw[he]at c0 hR;have c1:=ris_ok (W0:=W0) (nb:=nb) (t:=e) (x:=⟨#[123]⟩);have c2:=ris_ok (W0:=W0) (nb:=nb) (t:=t) (x:=⟨#[125]⟩);rw[b123]at c1;rw[b125]at c2;simp only[encT,encI,List.map_cons,List.map_nil]at c0 c1 c2;obtain⟨K,hK⟩:=Int.eq_ofNat_of_zero_le hb;have loop:∀st:St,gapN src (line - 1 - b.line).toNat b.line.toNat=R→st.hp= [(encI b).map .p,(encI ⟨(T:Int),line,note,com⟩).map .p]→st.tm 1= .p (.sl 1 (rowsS src))→st.tm 7= .ref 1 0→st.tm 9=i64 b.line→rgI src b ⟨(T:Int),line,note,com⟩ R (line - 1 - b.line).toNat st:=by
  intro st q1 q2 q3 q4 q5;refine⟨K,by simp only;rw[hK],?_,q2,q3,q4,by rw[q5,hK]⟩;simp only;rw[hK]at q1;simpa using q1
 refine dcalls_end Tryz.func63 rfl (by kernel_rfl) 42 Tryz.ntmps63 #[.tmp 8] rfl (Nat.le_of_ble_eq_true rfl) ?_;simp;refine CallGoal.same c0 ?_;simp;refine CallGoal.same c1 ?_;cases g1:isO e [123]with
 | true=>
  simp[g1]at hR;simp[g1];exact .keep (by simp[hR]) (.refl _) (by simp) (by simp[hR]) (by simp[hR]) (by simp[hR])
 | false=>
 apply join (J:=fun st=>(isO e [123] ||(!com&&isO t [125]))=false∧st.hp= [(encI b).map .p,(encI ⟨(T:Int),line,note,com⟩).map .p]∧st.tm 1= .p (.sl 1 (rowsS src))∧st.tm 7= .ref 1 0∧st.tm 6= .ref 0 0∧st.tm 9=i64 b.line)
 case main=>
  intro key;cases com with
  | true=>
   simp;exact key _ ⟨by simp[g1],by simp,by simp,by simp,by simp,by simp⟩
  | false=>
   simp[hT,ht,hti];refine CallGoal.same c2 ?_;cases g2:isO t [125]with
   | true=>
    simp[g1,g2]at hR;simp;exact .keep (by simp[hR]) (.refl _) (by simp) (by simp[hR]) (by simp[hR]) (by simp[hR])
   | false=>
    simp;exact key _ ⟨by simp[g1,g2],by simp,by simp,by simp,by simp,by simp⟩
 case key=>
 rintro⟨tm,hp⟩ ⟨q,e,e1,e7,e6,e9⟩;simp only at e e1 e7 e6 e9;subst e;rw[q]at hR;simp only[Bool.false_eq_true,if_false]at hR;simp[e6];refine⟨rgI src b ⟨(T:Int),line,note,com⟩ R,(line - 1 - b.line).toNat,.here (loop _ hR (by simp) (by simp[e1]) (by simp[e7]) (by simp[e9])),?_⟩;clear e1 e7 e6 e9 loop;rintro m ⟨tm,hp⟩ ⟨i,rfl,h,e,e1,e7,e9⟩;simp only at h e e1 e7 e9;subst e;have hw:=w64_id (n:=line - 1) (by omega) (by omega);simp only[w64]at hw;simp[e7,e9,hw]
 by_cases hlt:(i:Int)< line - 1
 ·have hil:i < src.length:=by omega
  obtain⟨s,hs,hsi⟩:=get_line hil;have hss:=hz s (List.mem_of_getElem? hs);have hw2:=w64_id (n:=(i:Int)+ 1) (by omega) (by omega);simp only[w64]at hw2;have hn:(line - 1 -(i:Int)).toNat=(line - 1 -((i + 1:Nat):Int)).toNat + 1:=by omega
  rw[hn]at h;unfold gapN at h;rw[hs]at h;change (if((trimR s).toList== [])=true then true else gapN src (line - 1 -((i + 1:Nat):Int)).toNat (i + 1))=R at h;have d:=rtrim_ok (W0:=W0) (nb:=nb) (s:=s) hss;simp[hlt,e1,e9,hil,hs,hsi,rowsS];refine CallGoal.same d ?_;have he:((trimR s).toList== [])=(trimR s).toList.isEmpty:=by cases (trimR s).toList <;> rfl
  cases hq:(trimR s).toList.isEmpty with
  | true=>
   rw[if_pos (by rw[he];exact hq)]at h;simp[hq];exact .keep (by simp[h]) (.refl _) (by simp) (by simp[h]) (by simp[h]) (by simp[h])
  | false=>
   rw[if_neg (by rw[he,hq];decide)]at h;simp[hq,e9,hw2];exact .same (line - 1 -((i + 1:Nat):Int)).toNat (by omega) ⟨i + 1,rfl,h,by simp,by simp[e1,rowsS],by simp[e7],by simp[hw2]⟩
 ·have hn:(line - 1 -(i:Int)).toNat=0:=by omega
  rw[hn]at h;have hRf:R=false:=h.symm;simp[hlt];exact .keep (by simp[hRf]) (.refl _) (by simp) (by simp[hRf]) (by simp[hRf]) (by simp[hRf])
def rsI (l:List Tok) (T A:Nat) (m:Nat) (st:St):Prop:=∃k:Nat,m=k∧k < l.length∧atR l (k + 1)=A∧st.hp= []∧st.tm 0= .p (.sl 5 (l.map encT))∧st.tm 1=i64 (T:Nat)∧st.tm 5=i64 (k:Nat)
def rsJ (l:List Tok) (T A:Nat) (st:St):Prop:=A < l.length∧st.hp= []∧st.tm 0= .p (.sl 5 (l.map encT))∧st.tm 1=i64 (T:Nat)∧st.tm 5=i64 (A:Nat)
theorem rsp_ok {W0 nb l} {T:Nat} (hl:l.length < 100000000) (h0:1≤T) (h1:T < l.length) (hk:(tk l (atR l T)).kind≠6):
  DCalls ⟨Tryz.prog,W0,nb⟩ 64 [.p (.sl 5 (l.map encT)),i64 (T:Nat)] [] (.p (.bool (spaceR l T))) []:=by
 unfold spaceR;simp only;obtain⟨A,hA⟩:∃A,atR l T=A:=⟨_,rfl⟩
 rw[hA]at hk⊢;obtain⟨u,hu,hui⟩:=get_tok h1;rw[tk_at hu];have hc0:(T:Int)- 1=((T - 1:Nat):Int):=by omega
 have hw0:=w64_id (n:=((T - 1:Nat):Int)) (by omega) (by omega);simp only[w64]at hw0;have hT0:(0:Int)≤(T:Int):=by omega
 refine dcalls_end Tryz.func64 rfl (by kernel_rfl) 35 Tryz.ntmps64 #[.tmp 4] rfl (Nat.le_of_ble_eq_true rfl) ?_;simp[hc0,hw0];refine LoopGoal.cut (rsJ l T A) ?_ ?_
 ·refine⟨rsI l T A,T - 1,.here ⟨T - 1,rfl,by omega,by rw[Nat.sub_add_cancel h0];exact hA,by simp,by simp,by simp,by simp[hc0,hw0]⟩,?_⟩;rintro m ⟨tm,hp⟩ ⟨k,rfl,hkl,h,e,e0,e1,e5⟩;simp only at e e0 e1 e5;subst e;obtain⟨t,ht,hti⟩:=get_tok hkl;have hw:=w64_id (n:=(m:Int)- 1) (by omega) (by omega);simp only[w64]at hw;unfold atR at h;rw[tk_at ht]at h;simp[e0,e5,hkl,ht,hti];cases g:t.kind==6 with
  | true=>
   rw[g,if_pos rfl]at h;cases m with
   | zero=>
    exfalso
    have:A=0:=h.symm;subst this;rw[tk_at ht]at hk;simp at g;exact hk g
   | succ k=>
    have hc:((k + 1:Nat):Int)- 1=(k:Int):=by omega
    rw[hc]at hw;simp[e5,hc,hw];exact .same k (by omega) ⟨k,rfl,by omega,h,by simp,by simp[e0],by simp[e1],by simp[hw]⟩
  | false=>
   rw[g]at h;simp only[Bool.false_eq_true,if_false]at h;subst h;simp;exact⟨hkl,by simp,by simp[e0],by simp[e1],by simp[e5]⟩
 rintro⟨tm,hp⟩ ⟨hAl,e,e0,e1,e5⟩;simp only at e e0 e1 e5;subst e;obtain⟨t,ht,hti⟩:=get_tok hAl;rw[tk_at ht];have e1':tm 1=i64 (T:Nat):=e1;rcases Nat.eq_zero_or_pos A with hz | hz
 ·subst hz;have c:=rspace_ok (W0:=W0) (nb:=nb) (p:=zeroT) (a:=t) (b:=u);have hp0:(if 1≤0 then tk l (0 - 1)else zeroT)=zeroT:=rfl;rw[hp0];simp only[zeroT,encT,List.map_cons,List.map_nil]at c⊢;simp[e0,e1',e5];refine drawWp.intro [] [4,8] mixed (by kernel_rfl) (by kernel_rfl) (by kernel_rfl) ?_;simp[e0,e1',e5,hAl,ht,hti,h1,hu,hui];refine CallGoal.same c ?_;simp;refine⟨by simp[pairsOK,pairsOK2,compatAdd,compatCA,compatSt,Dm.stoB,Dm.callB,Dm.adB,compatDyn,lowOK,allLt,labD,skips,guardD,looksG,guardSlot,looksD,goneD,eatsT,eats,goneL,rdD,wrD,simpleD,anyOwn,disj,ldD,ldOK,mvD,e0,e1',e5],by simp[pairsOK,pairsOK2,compatAdd,compatCA,compatSt,Dm.stoB,Dm.callB,Dm.adB,compatDyn,lowOK,allLt,labD,skips,guardD,looksG,guardSlot,looksD,goneD,eatsT,eats,goneL,rdD,wrD,simpleD,anyOwn,disj,ldD,ldOK,mvD,e0,e1',e5],?_⟩;simp;exact .keep (by simp) (.refl _) (by simp) (by simp) (by simp) (by simp)
 ·have hBl:A - 1 < l.length:=by omega
  obtain⟨p,hp,hpi⟩:=get_tok hBl;have hp0:(if 1≤A then tk l (A - 1)else zeroT)=p:=by rw[if_pos (show 1≤A from hz),tk_at hp]
  rw[hp0];have c:=rspace_ok (W0:=W0) (nb:=nb) (p:=p) (a:=t) (b:=u);simp only[encT,List.map_cons,List.map_nil]at c;have hc:(A:Int)- 1=((A - 1:Nat):Int):=by omega
  have hw:=w64_id (n:=((A - 1:Nat):Int)) (by omega) (by omega);simp only[w64]at hw;have hpos:(1:Int)≤(A:Int):=by omega
  simp[e0,e1',e5,hpos,hc,hw,hBl,hp,hpi];refine drawWp.intro [] [4,8] mixed (by kernel_rfl) (by kernel_rfl) (by kernel_rfl) ?_;simp[e0,e1',e5,hAl,ht,hti,h1,hu,hui];refine CallGoal.same c ?_;simp;refine⟨by simp[pairsOK,pairsOK2,compatAdd,compatCA,compatSt,Dm.stoB,Dm.callB,Dm.adB,compatDyn,lowOK,allLt,labD,skips,guardD,looksG,guardSlot,looksD,goneD,eatsT,eats,goneL,rdD,wrD,simpleD,anyOwn,disj,ldD,ldOK,mvD,e0,e1',e5],by simp[pairsOK,pairsOK2,compatAdd,compatCA,compatSt,Dm.stoB,Dm.callB,Dm.adB,compatDyn,lowOK,allLt,labD,skips,guardD,looksG,guardSlot,looksD,goneD,eatsT,eats,goneL,rdD,wrD,simpleD,anyOwn,disj,ldD,ldOK,mvD,e0,e1',e5],?_⟩;simp;exact .keep (by simp) (.refl _) (by simp) (by simp) (by simp) (by simp)
end Rf
end Go.Proofs.Dm
set_option maxHeartbeats 16000000
set_option maxRecDepth 100000
namespace Go.Proofs.Dm
open Go Go.Proofs Go.Proofs.Tryz Go.Proofs.Dm.Sc
open Fo (isO zeroT nlB spB pad trimR linesP)
namespace Rf
attribute [local simp] encT encC takes handsOn isTmp Op.operands Call.operands
theorem get_com {l:List Com} {i:Nat} (h:i < l.length):∃t,l[i]? =some t∧l[i]=t:=⟨l[i],List.getElem?_eq_getElem h,rfl⟩
theorem get_tok' {l:List Tok} {i:Nat} (h:i < l.length):∃t,l[i]? =some t∧l[i]=t:=⟨l[i],List.getElem?_eq_getElem h,rfl⟩
def riI (l:List Tok) (cs:List Com) (m:Nat) (st:St):Prop:=∃(i k:Nat) (D:List It),m=l.length - i∧i≤l.length∧k≤cs.length∧D.length≤i + k∧D ++ itemsG (l.drop i) i (cs.drop k)=itemsG l 0 cs∧
 st.hp= []∧st.tm 0= .p (.sl 5 (l.map encT))∧st.tm 1= .p (.sl 4 (cs.map encC))∧st.tm 5= .own 78 4 (D.map encI)∧st.tm 6=i64 (k:Nat)∧st.tm 7=i64 (i:Nat)
def rkI2 (l:List Tok) (cs:List Com) (i:Nat) (X:List It) (Y:List Com) (m:Nat) (st:St):Prop:=∃(k:Nat) (D:List It),m=cs.length - k∧k≤cs.length∧D.length≤i + k∧D ++(takeI i (cs.drop k)).1.map comI=X∧(takeI i (cs.drop k)).2=Y∧
 st.hp= []∧st.tm 0= .p (.sl 5 (l.map encT))∧st.tm 1= .p (.sl 4 (cs.map encC))∧st.tm 5= .own 78 4 (D.map encI)∧st.tm 6=i64 (k:Nat)∧st.tm 7=i64 (i:Nat)
def rkJ2 (l:List Tok) (cs:List Com) (i:Nat) (X:List It) (Y:List Com) (st:St):Prop:=∃k:Nat,k≤cs.length∧X.length≤i + k∧cs.drop k=Y∧
 st.hp= []∧st.tm 0= .p (.sl 5 (l.map encT))∧st.tm 1= .p (.sl 4 (cs.map encC))∧st.tm 5= .own 78 4 (X.map encI)∧st.tm 6=i64 (k:Nat)∧st.tm 7=i64 (i:Nat)
theorem ritems_ok {W0 nb l cs} (hl:l.length < 100000000) (hc:cs.length < 100000000) (hz:∀c∈cs,c.text.size < 1099511627776):
  DCalls ⟨Tryz.prog,W0,nb⟩ 59 [.p (.sl 5 (l.map encT)),.p (.sl 4 (cs.map encC))] [] (.p (.sl 4 ((itemsG l 0 cs).map encI))) []:=by
 refine dcalls_end Tryz.func59 rfl (by kernel_rfl) 74 Tryz.ntmps59 #[.tmp 4] rfl (Nat.le_of_ble_eq_true rfl) ?_;simp;refine⟨riI l cs,l.length,.here ⟨0,0,[],by simp,by simp,by simp,by simp,by simp,by simp,by simp,by simp,by simp,by simp,by simp⟩,?_⟩;rintro m ⟨tm,hp⟩ ⟨i,k,D,rfl,hi,hk,hD,h,e,e0,e1,e5,e6,e7⟩;simp only at e e0 e1 e5 e6 e7;subst e;simp[e0,e7];rcases Nat.lt_or_ge i l.length with hlt | hge
 rotate_left
 ·have hil:i=l.length:=by omega
  subst hil;simp[itemsG]at h;rw[←h];simp[e5];exact .keep (by simp;rfl) (.fr _ _ _) (by simp) (by simp) (by simp) (by simp)
 obtain⟨t,ht,hti⟩:=get_tok' hlt;have hd:l.drop i=t::l.drop (i + 1):=by rw[List.drop_eq_getElem_cons hlt,hti]
 rw[hd]at h;have hunf:itemsG (t::l.drop (i + 1)) i (cs.drop k)=(takeI i (cs.drop k)).1.map comI ++((if t.kind !=6&&t.kind !=7 then [tokI i t]else [])++ itemsG (l.drop (i + 1)) (i + 1) (takeI i (cs.drop k)).2):=rfl;rw[hunf]at h;obtain⟨X,hX⟩:∃X,D ++(takeI i (cs.drop k)).1.map comI=X:=⟨_,rfl⟩
 obtain⟨Y,hY⟩:∃Y,(takeI i (cs.drop k)).2=Y:=⟨_,rfl⟩
 rw[hY,←List.append_assoc,hX]at h;simp[hlt];refine LoopGoal.cut (rkJ2 l cs i X Y) ?_ ?_
 ·refine⟨rkI2 l cs i X Y,cs.length - k,.here ⟨k,D,rfl,hk,hD,hX,hY,by simp,by simp[e0],by simp[e1],by simp[e5],by simp[e6],by simp[e7]⟩,?_⟩;clear e0 e1 e5 e6 e7 hX hY hD hk h;rintro m ⟨tm,hp⟩ ⟨k,D,rfl,hk,hD,hX,hY,e,e0,e1,e5,e6,e7⟩;simp only at e e0 e1 e5 e6 e7;subst e;rcases Nat.lt_or_ge k cs.length with hkl | hkg
  rotate_left
  ·have hkk:k=cs.length:=by omega
   subst hkk;simp[takeI]at hX hY;subst hX;subst hY;simp[e1,e6];exact⟨cs.length,Nat.le_refl _,hD,by simp,by simp,by simp[e0],by simp[e1],by simp[e5],by simp[e6],by simp[e7]⟩
  obtain⟨c,hcg,hci⟩:=get_com hkl;have hdk:cs.drop k=c::cs.drop (k + 1):=by rw[List.drop_eq_getElem_cons hkl,hci]
  rw[hdk]at hX hY;unfold takeI at hX hY
  by_cases hn:c.next≤(i:Int)
  ·rw[if_pos hn]at hX hY;simp only[List.map_cons]at hX hY;have hw:=w64_id (n:=(k:Int)+ 1) (by omega) (by omega);simp only[w64]at hw;have hX2:(D ++ [comI c])++(takeI i (cs.drop (k + 1))).1.map comI=X:=by rw[←hX];simp
   have hDl:(D.map encI).length=D.length:=by simp
   have ha1:(D.length + 1)* 40≤140737488355328:=by omega
   have ha2:D.length≤9223372036854775806:=by omega
   have hap:(D ++ [comI c]).map encI=D.map encI ++ [[.int .i64 c.next,.int .i64 c.line,.str (trimR c.text),.bool true]]:=by simp[encI,comI]
   have d:=rtrim_ok (W0:=W0) (nb:=nb) (s:=c.text) (hz c (List.mem_of_getElem? hcg));simp[e1,e6,e7,hkl,hcg,hci,hn];refine drawWp.intro [(5,10),(5,15),(10,15),(0,16),(5,16),(10,16),(0,17)] [5,10,15,16] mixed (by kernel_rfl) (by kernel_rfl) (by kernel_rfl) ?_;simp[e1,e5,e6,hkl,hcg,hci];refine CallGoal.same d ?_;simp[ha1,ha2];refine⟨by simp[pairsOK,pairsOK2,compatAdd,compatCA,compatSt,Dm.stoB,Dm.callB,Dm.adB,compatDyn,lowOK,allLt,labD,skips,guardD,looksG,guardSlot,looksD,goneD,eatsT,eats,goneL,rdD,wrD,simpleD,anyOwn,disj,ldD,ldOK,mvD,e1,e5,e6,ha1,ha2],by simp[pairsOK,pairsOK2,compatAdd,compatCA,compatSt,Dm.stoB,Dm.callB,Dm.adB,compatDyn,lowOK,allLt,labD,skips,guardD,looksG,guardSlot,looksD,goneD,eatsT,eats,goneL,rdD,wrD,simpleD,anyOwn,disj,ldD,ldOK,mvD,e1,e5,e6,ha1,ha2],?_⟩;simp[e6,hw];exact .same (cs.length -(k + 1)) (by omega) ⟨k + 1,D ++ [comI c],rfl,by omega,by simp;omega,hX2,hY,by simp,by simp[e0],by simp[e1],by rw[hap];simp,by simp[hw],by simp[e7]⟩
  ·rw[if_neg hn]at hX hY;simp only[List.map_nil,List.append_nil]at hX hY;subst hX;simp[e1,e6,e7,hkl,hcg,hci,hn];exact⟨k,hk,hD,hdk.trans hY,by simp,by simp[e0],by simp[e1],by simp[e5],by simp[e6],by simp[e7]⟩
 clear e0 e1 e5 e6 e7 hX hY hD hk;rintro⟨tm,hp⟩ ⟨k,hk,hD,hY,e,e0,e1,e5,e6,e7⟩;simp only at e e0 e1 e5 e6 e7;subst e;rw[←hY]at h;have hw:=w64_id (n:=(i:Int)+ 1) (by omega) (by omega);simp only[w64]at hw;have ha1:(X.length + 1)* 40≤140737488355328:=by omega
 have ha2:X.length≤9223372036854775806:=by omega
 have hap:(X ++ [tokI i t]).map encI=X.map encI ++ [[.int .i64 (i:Nat),.int .i64 t.line,.str ⟨#[]⟩,.bool false]]:=by simp[encI,tokI]
 have hq6:(t.kind !=6)= !(t.kind==6):=rfl;have hq7:(t.kind !=7)= !(t.kind==7):=rfl;rw[hq6,hq7]at h;simp[e0,e7,hlt,ht,hti,hq6];cases g6:t.kind==6 with
 | true=>
  rw[g6]at h;simp only[Bool.not_true,Bool.false_and,Bool.false_eq_true,if_false,List.nil_append]at h;simp[e7,hw];exact .same (l.length -(i + 1)) (by omega) ⟨i + 1,k,X,rfl,by omega,hk,by omega,h,by simp,by simp[e0],by simp[e1],by simp[e5],by simp[e6],by simp[hw]⟩
 | false=>
  rw[g6]at h;simp only[Bool.not_false,Bool.true_and]at h;simp[e0,e7,hlt,ht,hti,hq7];cases g7:t.kind==7 with
  | true=>
   rw[g7]at h;simp only[Bool.not_true,Bool.false_eq_true,if_false,List.nil_append]at h;simp[e7,hw];exact .same (l.length -(i + 1)) (by omega) ⟨i + 1,k,X,rfl,by omega,hk,by omega,h,by simp,by simp[e0],by simp[e1],by simp[e5],by simp[e6],by simp[hw]⟩
  | false=>
   rw[g7]at h;simp only[Bool.not_false,if_true]at h;have h2:(X ++ [tokI i t])++ itemsG (l.drop (i + 1)) (i + 1) (cs.drop k)=itemsG l 0 cs:=by rw[←h];simp
   simp[e0,e5,e7,hlt,ht,hti,hw,ha1,ha2];exact .same (l.length -(i + 1)) (by omega) ⟨i + 1,k,X ++ [tokI i t],rfl,by omega,hk,by simp;omega,h2,by simp,by simp[e0],by simp[e1],by rw[hap];simp,by simp[e6],by simp[hw]⟩
end Rf
end Go.Proofs.Dm
set_option maxHeartbeats 16000000
set_option maxRecDepth 100000
namespace Go.Proofs.Dm
open Go Go.Proofs Go.Proofs.Tryz Go.Proofs.Dm.Sc
open Fo (isO zeroT nlB spB pad trimR linesP)
namespace Rf
attribute [local simp] encT encC takes handsOn isTmp Op.operands Call.operands
def PairP (l:List Tok) (b x:It):Prop:=x.com=false→b.com=false→0≤b.tok∧b.tok < x.tok∧(tk l b.tok.toNat).kind≠6
theorem take_sub (i:Nat) (cs:List Com):(∀c∈(takeI i cs).1,c∈cs)∧∀c∈(takeI i cs).2,c∈cs:=by
 have h:=take_split i cs;refine⟨fun c hc=> ?_,fun c hc=> ?_⟩
 ·rw[h];exact List.mem_append.2 (.inl hc)
 ·rw[h];exact List.mem_append.2 (.inr hc)
theorem items_mem {l:List Tok}:∀(ts:List Tok) (i:Nat) (cs:List Com),l.drop i=ts→∀x∈itemsG ts i cs,(∃c∈cs,x=comI c)∨∃j t,i≤j∧l[j]? =some t∧t.kind≠6∧x=tokI j t
 | [],i,cs,hd,x,hx=>by cases hx
 | t::ts,i,cs,hd,x,hx=>by
  have hg:l[i]? =some t:=by
   have:=congrArg List.head? hd;rw[List.head?_drop]at this;exact this
  have hd2:l.drop (i + 1)=ts:=by rw[←List.tail_drop,hd,List.tail_cons]
  have hs:=take_sub i cs;simp only[itemsG,List.mem_append,List.mem_map]at hx;rcases hx with ⟨c,hc,rfl⟩ | hx | hx
  ·exact .inl ⟨c,hs.1 c hc,rfl⟩
  ·split at hx
   ·rename_i hk;rw[Bool.and_eq_true,bne_iff_ne,bne_iff_ne]at hk;rw[List.mem_singleton]at hx;exact .inr ⟨i,t,Nat.le_refl _,hg,hk.1,hx⟩
   ·cases hx
  ·rcases items_mem ts (i + 1) _ hd2 x hx with ⟨c,hc,h⟩ | ⟨j,u,h1,h2⟩
   ·exact .inl ⟨c,hs.2 c hc,h⟩
   ·exact .inr ⟨j,u,by omega,h2⟩
theorem items_pair {l:List Tok}:∀(ts:List Tok) (i:Nat) (cs:List Com),l.drop i=ts→(itemsG ts i cs).Pairwise (PairP l)
 | [],i,cs,hd=>List.Pairwise.nil
 | t::ts,i,cs,hd=>by
  have hg:l[i]? =some t:=by
   have:=congrArg List.head? hd;rw[List.head?_drop]at this;exact this
  have hd2:l.drop (i + 1)=ts:=by rw[←List.tail_drop,hd,List.tail_cons]
  have hrest:=items_mem ts (i + 1) (takeI i cs).2 hd2;unfold itemsG;rw[List.pairwise_append,List.pairwise_append];refine⟨?_,⟨?_,items_pair ts (i + 1) _ hd2,?_⟩,?_⟩
  ·rw[List.pairwise_map];exact List.pairwise_of_forall fun a b h=>by cases h
  ·split
   ·exact List.pairwise_singleton _ _
   ·exact List.Pairwise.nil
  ·intro a ha b hb h1 h2;split at ha
   ·rename_i hk;rw[List.mem_singleton]at ha;subst ha;rw[Bool.and_eq_true,bne_iff_ne,bne_iff_ne]at hk;rcases hrest b hb with ⟨c,_,rfl⟩ | ⟨j,u,q1,q2,q3,rfl⟩
    ·cases h1
    ·simp only[tokI];refine⟨by omega,by omega,?_⟩;rw[Int.toNat_natCast,tk_at hg];exact hk.1
   ·cases ha
  ·intro a ha b hb h1 h2;rw[List.mem_map]at ha;obtain⟨c,_,rfl⟩:=ha;cases h2
theorem items_len:∀(ts:List Tok) (i:Nat) (cs:List Com),(itemsG ts i cs).length≤ts.length + cs.length
 | [],i,cs=>Nat.zero_le _
 | t::ts,i,cs=>by
  have h:=items_len ts (i + 1) (takeI i cs).2;have hs:=congrArg List.length (take_split i cs);rw[List.length_append]at hs;unfold itemsG;simp only[List.length_append,List.length_map,List.length_cons];split <;> simp <;> omega
theorem atR_kind {l:List Tok} {j:Nat} (hj:(tk l j).kind≠6):∀n,j < n→(tk l (atR l n)).kind≠6
 | 0,h=>by omega
 | n + 1,h=>by
  unfold atR
  by_cases q:(tk l n).kind=6
  ·rw[q];simp only[beq_self_eq_true,if_true];have:j≠n:=by rintro rfl;exact hj q
   exact atR_kind hj n (by omega)
  ·have:((tk l n).kind==6)=false:=by simpa using q
   rw[this];simpa using q
theorem tabsR_le (l:List Tok) (x:It):tabsR l x≤l.length + 1:=by
 have h:=La.opens_le l x.tok.toNat;have h2:La.opens (l.take x.tok.toNat)≤l.length:=by
  rcases Nat.le_total x.tok.toNat l.length with q | q
  ·omega
  ·have:=La.opens_le l l.length;rw[List.take_length]at this;rw[List.take_of_length_le q];omega
 unfold tabsR;simp only;generalize La.opens (l.take x.tok.toNat)=o at *;cases shutR l x <;> cases decide (0 < x.tok)<;> cases onR (tk l (x.tok.toNat - 1))<;> simp <;> omega
structure P1 (l:List Tok) (src:List ByteArray) (x:It):Prop where
 tok:0≤x.tok∧x.tok < l.length
 line:1≤x.line∧x.line≤src.length
 size:(textR l x).size≤200000
def prevI (xs:List It):Nat→Option It
 | 0=>none
 | i + 1=>xs[i]?
def rxI (l:List Tok) (src:List ByteArray) (xs:List It) (ND:List DV) (R:ByteArray) (m:Nat) (st:St):Prop:=∃(i:Nat) (o:ByteArray),m=xs.length - i∧i≤xs.length∧o.size≤i * 700000∧outR l src (prevI xs i) (xs.drop i) o=R∧
 st.hp= [ND]∧st.tm 5= .p (.sl 5 (l.map encT))∧st.tm 10= .p (.sl 4 (xs.map encI))∧st.tm 11= .p (.sl 1 (rowsS src))∧st.tm 12= .p (.str o)∧st.tm 13=i64 (i:Nat)
def rxJ (l:List Tok) (src:List ByteArray) (xs:List It) (ND:List DV) (i:Nat) (x:It) (o:ByteArray) (st:St):Prop:=
 st.hp= [ND,(encI x).map .p]∧st.tm 5= .p (.sl 5 (l.map encT))∧st.tm 10= .p (.sl 4 (xs.map encI))∧st.tm 11= .p (.sl 1 (rowsS src))∧st.tm 12= .p (.str o)∧st.tm 13=i64 (i:Nat)∧st.tm 14= .ref 1 0
def rxK (src:List ByteArray) (ND:List DV) (R:ByteArray) (st:St):Prop:=R.size≤700000000000∧st.hp= [ND]∧st.tm 12= .p (.str R)
theorem IfGoal.cutB {C n a b k Q s} {t:Bool} {K:St→Prop} (J:St→Prop) (h1:IfGoal t (cwp C n a (BlockK k (SeqK J Q))) (cwp C n b (BlockK k (SeqK J Q))) s) (h2:∀s,J s→K s):IfGoal t (cwp C n a (BlockK k (SeqK K Q))) (cwp C n b (BlockK k (SeqK K Q))) s:=
 h1.mono (cwp_mono a (BlockK_mono (SeqK_mono h2))) (cwp_mono b (BlockK_mono (SeqK_mono h2)))
theorem s10:(⟨#[10]⟩:ByteArray).size=1:=rfl
theorem s32:(⟨#[32]⟩:ByteArray).size=1:=rfl
theorem big {a b:ByteArray} (h:a.size + b.size≤9223372036854775807):¬(9223372036854775807:Int)<(a.size:Int)+(b.size:Int):=by omega
def resT (o:ByteArray):DV:= .tup [.p (.str (if 2000 < o.size then⟨#[]⟩else o)),i64 (if 2000 < o.size then 2000 else -1)]
theorem rtext_lay {W0 nb} {s:ByteArray} {l:List Tok} {cs:List Com} {nd:Nd} {f:Int} (hs:s.size < 100000) (hl:l.length≤300000) (hcl:cs.length≤300000) (hp1:∀x∈itemsG l 0 cs,P1 l (linesP s) x)
  (hcz:∀c∈cs,c.text.size≤200000)
  (c1:DCalls ⟨Tryz.prog,W0,nb⟩ 23 [.p (.str s)] [] (.tup [.agg ((encN nd).map .p),.p (.sl 5 (l.map encT)),i64 (-1)]) [])
  (c2:DCalls ⟨Tryz.prog,W0,nb⟩ 32 [.p (.str s)] [] (.tup [toks l,coms cs,i64 f]) []):
  DCalls ⟨Tryz.prog,W0,nb⟩ 30 [.p (.str s)] [] (resT (layR l cs (linesP s))) []:=by
 have c3:=ritems_ok (W0:=W0) (nb:=nb) (l:=l) (cs:=cs) (by omega) (by omega) (fun c hc=>by have:=hcz c hc;omega);have c4:=rlines_ok (W0:=W0) (nb:=nb) (s:=s) (by omega);have hxl:=items_len l 0 cs;have hpair:=items_pair (l:=l) l 0 cs rfl;have hss:=lines_short s;have hsl:(linesP s).length < 100000000:=by
  have:=Gr.lines_len s;have hcount:s.data.toList.count 10≤s.size:=by rw[ba_size];exact List.count_le_length
  omega
 unfold layR;generalize linesP s=src at *;obtain⟨xs,hxs⟩:∃xs,itemsG l 0 cs=xs:=⟨_,rfl⟩
 rw[hxs]at c3 hxl hpair hp1⊢;obtain⟨k,tt,ks⟩:=nd;simp only[encN,toks,coms]at c1 c2;obtain⟨ND,hND⟩:∃ND,Fo.NDb k tt ks=ND:=⟨_,rfl⟩
 obtain⟨R,hR⟩:∃R,outR l src none xs ⟨#[]⟩=R:=⟨_,rfl⟩
 rw[hR];refine dcalls_end Tryz.func30 rfl (by kernel_rfl) 114 Tryz.ntmps30 #[.tmp 2,.tmp 3] rfl (Nat.le_of_ble_eq_true rfl) ?_;simp;refine CallGoal.same c1 ?_;simp;refine CallGoal.same c2 ?_;simp;refine CallGoal.same c3 ?_;simp;refine CallGoal.same c4 ?_;simp;refine LoopGoal.cut (rxK src ND R) ?_ ?_
 ·refine⟨rxI l src xs ND R,xs.length,.here ⟨0,⟨#[]⟩,by simp,by simp,(by show(0:Nat)≤0 * 700000;omega),by simpa [prevI]using hR,by simp[←hND,Fo.NDb],by simp,by simp,by simp,by simp <;> rfl,by simp⟩,?_⟩;rintro m ⟨tm,hp⟩ ⟨i,o,rfl,hi,ho,h,e,e5,e10,e11,e12,e13⟩;simp only at e e5 e10 e11 e12 e13;subst e;simp[e10,e13];rcases Nat.lt_or_ge i xs.length with hlt | hge
  rotate_left
  ·have hil:i=xs.length:=by omega
   subst hil;simp[outR]at h;subst h;simp;exact⟨by omega,by simp,by simp[e12]⟩
  obtain⟨x,hx,hxi⟩:∃x,xs[i]? =some x∧xs[i]=x:=⟨xs[i],List.getElem?_eq_getElem hlt,rfl⟩
  have hd:xs.drop i=x::xs.drop (i + 1):=by rw[List.drop_eq_getElem_cons hlt,hxi]
  rw[hd]at h;have hunf:outR l src (prevI xs i) (x::xs.drop (i + 1)) o=outR l src (some x) (xs.drop (i + 1)) (o ++ sepR l src (prevI xs i) x ++ textR l x):=rfl;rw[hunf]at h;have hpx:=hp1 x (List.mem_of_getElem? hx);obtain⟨⟨ht0,ht1⟩,⟨hl0,hl1⟩,hts⟩:=hpx;have htl:=tabsR_le l x;have ct:=rtabs_ok (W0:=W0) (nb:=nb) (l:=l) (x:=x) (by omega) ht0 ht1;have cp:=rpad_ok (W0:=W0) (nb:=nb) (k:=tabsR l x) (by omega);have hps:=pad_len (tabsR l x).toNat;have hsz:o.size +(pad (tabsR l x).toNat).size≤9223372036854775807:=by omega
  obtain⟨P,hP⟩:∃P,pad (tabsR l x).toNat=P:=⟨_,rfl⟩
  rw[hP]at cp hps hsz;have hPs:P.size≤300001:=by omega
  obtain⟨Z,hZ⟩:∃Z,sepR l src (prevI xs i) x=Z:=⟨_,rfl⟩
  rw[hZ]at h;have hZs:Z.size≤300010:=by
   rw[←hZ];cases hpv:prevI xs i with
   | none=>rw[sepR_none,hP];omega
   | some b=>
    rw[sepR_some,hP];have n1:nlB.size=1:=rfl;have n2:spB.size=1:=rfl;have n3:(⟨#[]⟩:ByteArray).size=0:=rfl
    repeat' split
    all_goals ((try simp only[ByteArray.size_append]);omega)
  have hgx:(xs.map encI)[i]? =some (encI x):=by simp[hx]
  obtain⟨tok,line,note,com⟩:=x;simp only at ht0 ht1 hl0 hl1;simp only[encI,List.map_cons,List.map_nil]at ct;simp[hlt,e5,e10,e11,e12,e13,hx,hxi,encI];refine IfGoal.cutB (rxJ l src xs ND i ⟨tok,line,note,com⟩ (o ++ Z)) ?_ ?_
  ·rcases Nat.eq_zero_or_pos i with hi0 | hip
   ·subst hi0;have hz0:P=Z:=by rw[←hZ];show _=sepR l src none _;rw[sepR_none,hP]
    have hb:=big hsz;simp[e5,e12,encI];refine CallGoal.same ct ?_;simp;refine CallGoal.same cp ?_;simp[e12,hb];exact⟨by simp[encI],by simp[e5],by simp[e10],by simp[e11],by simp[hz0],by simp[e13],by simp⟩
   ·obtain⟨j,rfl⟩:∃j,i=j + 1:=⟨i - 1,by omega⟩
    have hjl:j < xs.length:=by omega
    obtain⟨b,hb,hbi⟩:∃b,xs[j]? =some b∧xs[j]=b:=⟨xs[j],List.getElem?_eq_getElem hjl,rfl⟩
    have hpb:=hp1 b (List.mem_of_getElem? hb);have hpp:PairP l b ⟨tok,line,note,com⟩:=by
     have:=List.pairwise_iff_getElem.1 hpair j (j + 1) hjl hlt (by omega);rw[hbi,hxi]at this;exact this
    have hprev:prevI xs (j + 1)=some b:=hb;rw[hprev,sepR_some,hP]at hZ;have hwj:=w64_id (n:=(j:Int)) (by omega) (by omega);simp only[w64]at hwj;have hcj:((j + 1:Nat):Int)- 1=(j:Int):=by omega
    have hne:¬((j:Int)+ 1=0):=by omega
    have hneb:((j:Int)+ 1==0)=false:=beq_eq_false_iff_ne.2 hne;have cb:=rbreaks_ok (W0:=W0) (nb:=nb) (l:=l) (b:=b) (x:=⟨tok,line,note,com⟩) (by omega) (fun q1 q2=>by have:=hpp q1 q2;simp only at this⊢;omega);have cg:=rgap_ok (W0:=W0) (nb:=nb) (l:=l) (src:=src) (b:=b) (x:=⟨tok,line,note,com⟩) (by omega) ht0 ht1 (by have:=hpb.line;omega) (by have:=hpb.line;omega) hl1 hsl (fun y hy=>by have:=hss y hy;omega) (by simp only;omega);have hsp:=hpp;obtain⟨btok,bline,bnote,bcom⟩:=b;simp only[encI,List.map_cons,List.map_nil]at cb cg;simp[hne,hneb];refine drawWp.intro [] [5,6] mixed (by kernel_rfl) (by kernel_rfl) (by kernel_rfl) ?_;simp[e5,e10,e13,hcj,hwj,hjl,hb,hbi,encI];refine CallGoal.same cb ?_;simp;refine⟨by simp[pairsOK,pairsOK2,compatAdd,compatCA,compatSt,Dm.stoB,Dm.callB,Dm.adB,compatDyn,lowOK,allLt,labD,skips,guardD,looksG,guardSlot,looksD,goneD,eatsT,eats,goneL,rdD,wrD,simpleD,anyOwn,disj,ldD,ldOK,mvD,e5,e10,e13,hcj,hwj],by simp[pairsOK,pairsOK2,compatAdd,compatCA,compatSt,Dm.stoB,Dm.callB,Dm.adB,compatDyn,lowOK,allLt,labD,skips,guardD,looksG,guardSlot,looksD,goneD,eatsT,eats,goneL,rdD,wrD,simpleD,anyOwn,disj,ldD,ldOK,mvD,e5,e10,e13,hcj,hwj],?_⟩;obtain⟨B,hB⟩:∃B,breaksR l ⟨btok,bline,bnote,bcom⟩ ⟨tok,line,note,com⟩=B:=⟨_,rfl⟩
    rw[hB]at hZ⊢;cases B with
    | true=>
     rw[if_pos rfl]at hZ;obtain⟨o1,ho1⟩:∃o1,o ++(⟨#[10]⟩:ByteArray)=o1:=⟨_,rfl⟩
     have hs1:o1.size=o.size + 1:=by rw[←ho1,ByteArray.size_append,s10]
     have hb1:=big (a:=o) (b:=⟨#[10]⟩) (by rw[s10];omega);have hb2:=big (a:=o1) (b:=⟨#[10]⟩) (by rw[s10];omega);simp[e12,hb1,ho1];refine drawWp.intro [] [6,7] mixed (by kernel_rfl) (by kernel_rfl) (by kernel_rfl) ?_;simp[e5,e10,e11,e13,hcj,hwj,hjl,hb,hbi,encI];refine CallGoal.same cg ?_;simp;refine⟨by simp[pairsOK,pairsOK2,compatAdd,compatCA,compatSt,Dm.stoB,Dm.callB,Dm.adB,compatDyn,lowOK,allLt,labD,skips,guardD,looksG,guardSlot,looksD,goneD,eatsT,eats,goneL,rdD,wrD,simpleD,anyOwn,disj,ldD,ldOK,mvD,e5,e10,e11,e13,hcj,hwj],by simp[pairsOK,pairsOK2,compatAdd,compatCA,compatSt,Dm.stoB,Dm.callB,Dm.adB,compatDyn,lowOK,allLt,labD,skips,guardD,looksG,guardSlot,looksD,goneD,eatsT,eats,goneL,rdD,wrD,simpleD,anyOwn,disj,ldD,ldOK,mvD,e5,e10,e11,e13,hcj,hwj],?_⟩;obtain⟨G,hG⟩:∃G,gapR l src ⟨btok,bline,bnote,bcom⟩ ⟨tok,line,note,com⟩=G:=⟨_,rfl⟩
     rw[hG]at hZ⊢;obtain⟨o2,ho2⟩:∃o2,(if G then o1 ++(⟨#[10]⟩:ByteArray)else o1)=o2:=⟨_,rfl⟩
     have hs2:o2.size≤o.size + 2:=by
      rw[←ho2];split
      ·rw[ByteArray.size_append,s10];omega
      ·omega
     have hfin:o2 ++ P=o ++ Z:=by
      rw[←hZ,←ho2,←ho1];cases G with
      | true=>
       simp only[if_true];rw[app_assoc,app_assoc,app_assoc];rfl
      | false=>
       simp only[Bool.false_eq_true,if_false];rw[app_assoc];rfl
     have hb3:=big (a:=o2) (b:=P) (by omega);refine IfGoal.cut (rxJ l src xs ND (j + 1) ⟨tok,line,note,com⟩ o2) ?_ ?_
     ·cases G with
      | true=>
       simp only[if_true]at ho2;simp[e12,hb2,ho2];exact⟨by simp[encI],by simp[e5],by simp[e10],by simp[e11],by simp[ho2],by simp[e13],by simp⟩
      | false=>
       simp only[Bool.false_eq_true,if_false]at ho2;simp;exact⟨by simp[encI],by simp[e5],by simp[e10],by simp[e11],by simp[ho2],by simp[e13],by simp⟩
     clear e5 e10 e11 e12 e13;rintro⟨tm,hp⟩ ⟨e,e5,e10,e11,e12,e13,e14⟩;simp only at e e5 e10 e11 e12 e13 e14;subst e;simp[e5,e12,e14,encI];refine CallGoal.same ct ?_;simp;refine CallGoal.same cp ?_;simp[e12,hb3,hfin];exact⟨by simp[encI],by simp[e5],by simp[e10],by simp[e11],by simp[hfin],by simp[e13],by simp[e14]⟩
    | false=>
     simp only[Bool.false_eq_true,if_false]at hZ;have hb1:=big (a:=o) (b:=⟨#[32]⟩) (by rw[s32];omega);simp;cases com with
     | true=>
      simp only[if_true]at hZ;have hz0:(⟨#[32]⟩:ByteArray)=Z:=hZ;rw[hz0]at hb1;simp[e12,hb1,hz0];exact⟨by simp[encI],by simp[e5],by simp[e10],by simp[e11],by simp[hz0],by simp[e13],by simp⟩
     | false=>
      simp only[Bool.false_eq_true,if_false]at hZ;obtain⟨T,rfl⟩:=Int.eq_ofNat_of_zero_le ht0;have hbc:bcom=false:=by
       cases bcom with
       | false=>rfl
       | true=>simp[breaksR]at hB
      have hq:=hsp rfl hbc;simp only at hq;have hak:=atR_kind hq.2.2 T (by omega);have cs1:=rsp_ok (W0:=W0) (nb:=nb) (l:=l) (T:=T) (by omega) (by omega) (by omega) hak;rw[Int.toNat_natCast]at hZ;simp[e5];refine CallGoal.same cs1 ?_;cases hsr:spaceR l T with
      | true=>
       rw[hsr,if_pos rfl]at hZ;have hz0:(⟨#[32]⟩:ByteArray)=Z:=hZ;rw[hz0]at hb1;simp[e12,hb1,hz0];exact⟨by simp[encI],by simp[e5],by simp[e10],by simp[e11],by simp[hz0],by simp[e13],by simp⟩
      | false=>
       rw[hsr]at hZ;simp only[Bool.false_eq_true,if_false]at hZ;have hz0:o ++ Z=o:=by rw[←hZ,nil_append]
       simp;exact⟨by simp[encI],by simp[e5],by simp[e10],by simp[e11],by simp[hz0,e12],by simp[e13],by simp⟩
  clear e5 e10 e11 e12 e13;rintro⟨tm,hp⟩ ⟨e,e5,e10,e11,e12,e13,e14⟩;simp only at e e5 e10 e11 e12 e13 e14;subst e;obtain⟨o',ho'⟩:∃o',o ++ Z=o':=⟨_,rfl⟩
  rw[ho']at h e12;have hos:o'.size=o.size + Z.size:=by rw[←ho',ByteArray.size_append]
  have hw:=w64_id (n:=(i:Int)+ 1) (by omega) (by omega);simp only[w64]at hw;have hpn:prevI xs (i + 1)=some ⟨tok,line,note,com⟩:=hx;simp[e14,encI];cases com with
  | true=>
   have htx:textR l ⟨tok,line,note,true⟩=note:=rfl;rw[htx]at h hts;have hb1:=big (a:=o') (b:=note) (by omega);simp[e12,e13,e14,hb1,hw,encI];exact .drop (xs.length -(i + 1)) (by omega) 1 (by simp) (by simp) (by simp[←hND,Fo.NDb,refsDs,refsD]) ⟨i + 1,o' ++ note,rfl,by omega,by rw[ByteArray.size_append];omega,by rw[hpn];exact h,by simp[dropSt],by simp[dropSt,dropD,e5],by simp[dropSt,dropD,e10],by simp[dropSt,dropD,e11],by simp[dropSt,dropD],by simp[dropSt,dropD,hw]⟩
  | false=>
   obtain⟨T,rfl⟩:=Int.eq_ofNat_of_zero_le ht0;have hTl:T < l.length:=by omega
   obtain⟨t,htg,hti⟩:∃t,l[T]? =some t∧l[T]=t:=⟨l[T],List.getElem?_eq_getElem hTl,rfl⟩
   have htx:textR l ⟨(T:Int),line,note,false⟩=t.text:=by unfold textR;simp only[Bool.false_eq_true,if_false,Int.toNat_natCast];rw[tk_at htg]
   rw[htx]at h hts;have hb1:=big (a:=o') (b:=t.text) (by omega);simp[e5,e12,e13,e14,hTl,htg,hti,hb1,hw,encI];exact .drop (xs.length -(i + 1)) (by omega) 1 (by simp) (by simp) (by simp[←hND,Fo.NDb,refsDs,refsD]) ⟨i + 1,o' ++ t.text,rfl,by omega,by rw[ByteArray.size_append];omega,by rw[hpn];exact h,by simp[dropSt],by simp[dropSt,dropD,e5],by simp[dropSt,dropD,e10],by simp[dropSt,dropD,e11],by simp[dropSt,dropD],by simp[dropSt,dropD,hw]⟩
 rintro⟨tm,hp⟩ ⟨hRs,e,e12⟩;simp only at e e12;subst e;have hb1:=big (a:=R) (b:=⟨#[10]⟩) (by rw[s10];omega);have hnl:(⟨#[10]⟩:ByteArray)=nlB:=rfl;obtain⟨O,hO⟩:∃O,R ++(⟨#[10]⟩:ByteArray)=O:=⟨_,rfl⟩
 rw[←hnl,hO];unfold resT
 by_cases hgt:2000 < O.size
 ·have hgt':(2000:Int)<(O.size:Int):=by omega
  rw[if_pos hgt,if_pos hgt];simp[e12,hb1,hO,hgt'];exact .keep (by simp) (.refl _) (by simp) (by simp) (by simp) (by simp)
 ·have hgt':¬(2000:Int)<(O.size:Int):=by omega
  rw[if_neg hgt,if_neg hgt];simp[e12,hb1,hO,hgt'];exact .keep (by simp) (.refl _) (by simp) (by simp) (by simp) (by simp)
end Rf
end Go.Proofs.Dm
set_option maxHeartbeats 16000000
set_option maxRecDepth 100000
namespace Go.Proofs.Dm
open Go Go.Proofs Go.Proofs.Tryz Go.Proofs.Dm.Sc
open Fo (isO zeroT nlB spB pad trimR linesP)
namespace Rf
attribute [local simp] encT encC takes handsOn isTmp Op.operands Call.operands
theorem text_neg {s:ByteArray} (h:(Gr.textP s).2.2 < 0):(Gr.textP s).2.2= -1:=by
 unfold Gr.textP at h⊢;split at h
 ·rename_i hd;have:=of_decide_eq_true hd;simp only at h;omega
 ·rename_i hd;rw[if_neg hd];have hd':¬0≤(scanP s).2.2:=by simpa using hd
  cases ha:Gr.answer (scanP s).1 with
  | ok nd a=>rfl
  | bad k=>
   exfalso
   rw[ha]at h;simp only at h;rcases Nat.lt_or_ge k (scanP s).1.length with q | q
   ·have hm:Gr.tokAt (scanP s).1 k∈(scanP s).1:=by
     unfold Gr.tokAt;rw[List.getElem?_eq_getElem q];exact List.getElem_mem q
    have:=(Gr.scan_tb _ hm).1;omega
   ·unfold Gr.tokAt at h;rw[List.getElem?_eq_none q]at h;exact absurd h (by decide)
  | out=>
   exfalso
   rw[ha]at h;exact absurd h (show ¬((0:Int)< 0)by decide)
theorem trimR_le (s:ByteArray):(trimR s).size≤s.size:=by
 rw[ba_size,ba_size];show(Lib.trimRightS s.data.toList [32,9]).length≤_;unfold Lib.trimRightS;rw[List.length_reverse];have:=(List.dropWhile_sublist (l:=s.data.toList.reverse) ([32,9].contains ·)).length_le;simpa using this
theorem rtext_ok {W0 nb} {s:ByteArray} (h2:2≤nb) (hT:Lib.Utf8Tabs 0 1 W0) (hs:s.size < 100000):
  DCalls ⟨Tryz.prog,W0,nb⟩ 30 [.p (.str s)] [] (.tup [.p (.str ⟨(fmtP s).1.toArray⟩),i64 (fmtP s).2]) []:=by
 have c1:=Gr.rText_ok (W0:=W0) (nb:=nb) (s:=s) (by omega);have c2:=Rs.scan_ok (W0:=W0) (nb:=nb) (s:=s) (by omega);rcases Int.lt_or_le (Gr.textP s).2.2 0 with h | h
 ·obtain⟨h1,h3,h4⟩:=Gr.text_bal (s:=s) (by omega) h;have hn:=text_neg h;have hS:=Gr.scanned h1;obtain⟨_,e2,_⟩:=Gr.scan_last h1;have hsi:=last_si s;have hll:=Gr.lines_len s;have hcount:s.data.toList.count 10≤s.size:=by rw[ba_size];exact List.count_le_length
  obtain⟨_,_,hl⟩:=Gr.scan_good (s:=s) (by omega) h1;rw[h3,hn]at c1;have hcl:(scanP s).2.1.length≤300000:=by have:=hsi.len;have:=hsi.at_;rw[e2];omega
  have hct:∀c∈(scanP s).2.1,c.text.size≤200000:=fun c hc=>by rw[e2]at hc;have:=hsi.txt c hc;omega
  have c:=rtext_lay (W0:=W0) (nb:=nb) (s:=s) hs (by omega) hcl (fun x hx=>by
   rcases items_mem (l:=(scanP s).1) (scanP s).1 0 (scanP s).2.1 rfl x hx with ⟨c,hc,rfl⟩ | ⟨j,t,q1,q2,q3,rfl⟩
   ·have k1:=hS.next c hc;have k2:=hS.coms c hc;have k3:=trimR_le c.text;have k4:=hct c hc;exact⟨k1,k2,by show(trimR c.text).size≤_;omega⟩
   ·have hm:=List.mem_of_getElem? q2;have k2:=hS.toks t hm;have k4:=(Gr.scan_tb t hm).2.2;have hj:j <(scanP s).1.length:=by
     rcases Nat.lt_or_ge j (scanP s).1.length with q | q
     ·exact q
     ·rw[List.getElem?_eq_none q]at q2;cases q2
    refine⟨⟨by simp only[tokI];omega,by simp only[tokI];omega⟩,k2,?_⟩;have:textR (scanP s).1 (tokI j t)=t.text:=by
     unfold textR;simp only[tokI,Bool.false_eq_true,if_false,Int.toNat_natCast];rw[tk_at q2]
    rw[this];omega) hct c1 c2
  have he:resT (layR (scanP s).1 (scanP s).2.1 (linesP s))= .tup [.p (.str ⟨(fmtP s).1.toArray⟩),i64 (fmtP s).2]:=by
   unfold resT fmtP;rw[if_neg (show ¬0≤(Gr.textP s).2.2 by omega)]
   by_cases q:2000 <(layR (scanP s).1 (scanP s).2.1 (linesP s)).size
   ·rw[if_pos q,if_pos q,if_pos q]
   ·rw[if_neg q,if_neg q,if_neg q]
  rw[←he];exact c
 ·have he:fmtP s=([],(Gr.textP s).2.2):=by unfold fmtP;rw[if_pos h]
  rw[he];generalize hR:Gr.textP s=R at *;obtain⟨⟨k,tt,ks⟩,l,f⟩:=R;simp only[encN]at c1;simp only at h;refine dcalls_end Tryz.func30 rfl (by kernel_rfl) 114 Tryz.ntmps30 #[.tmp 2,.tmp 3] rfl (Nat.le_of_ble_eq_true rfl) ?_;simp;refine CallGoal.same c1 ?_;simp[h];exact .keep (by simp) (.refl _) (by simp) (by simp) (by simp) (by simp)
theorem ftext_ok {W0 nb} {s:ByteArray} (h2:2≤nb) (hT:Lib.Utf8Tabs 0 1 W0) (hs:s.size < 100000):
  DCalls ⟨Tryz.prog,W0,nb⟩ 29 [.p (.str s)] [] (.tup [.p (.str ⟨(fmtP s).1.toArray⟩),i64 (fmtP s).2]) []:=Fo.fmt_eval h2 hT hs (fmtE_ok hs)
theorem fis_ok {W0 nb} {s:ByteArray} (h2:2≤nb) (hT:Lib.Utf8Tabs 0 1 W0) (hs:s.size < 100000):
  DCalls ⟨Tryz.prog,W0,nb⟩ 31 [.p (.str s)] [] (.p (.bool (decide ((fmtP s).2 < 0)&&((fmtP s).1==s.toList)))) []:=Fo.is_eval h2 hT hs (fmtE_ok hs)
def cutF (s:ByteArray) (n:Nat):ByteArray:=if n < s.size then s.extract 0 n else s
theorem cutF_size (s:ByteArray) (n:Nat):(cutF s n).size≤n:=by
 unfold cutF;split
 ·simp;omega
 ·omega
theorem cutF_ok {W0 nb s} {n:Nat} (hn:n < 1000000):DCalls ⟨Tryz.prog,W0,nb⟩ 22 [.p (.str s),i64 (n:Nat)] [] (.p (.str (cutF s n))) []:=by
 refine dcalls_end Tryz.func22 rfl (by kernel_rfl) 13 Tryz.ntmps22 #[.tmp 4] rfl (Nat.le_of_ble_eq_true rfl) ?_;simp
 by_cases h:n < s.size
 ·simp[h,cutF,Nat.le_of_lt h];exact .keep (by simp) (.refl _) (by simp) (by simp) (by simp) (by simp)
 ·simp[h,cutF];exact .keep (by simp) (.refl _) (by simp) (by simp) (by simp) (by simp)
theorem formatAll_ok {W0 nb} (h2:2≤nb) (hT:Lib.Utf8Tabs 0 1 W0) {s:ByteArray}:DCalls ⟨Tryz.prog,W0,nb⟩ 5 [.p (.str s)] [] (.p (.bool true)) []:=by
 have c0:=Fo.begun17_ok (W0:=W0) (nb:=nb) h2 hT;have c1:=cutF_ok (W0:=W0) (nb:=nb) (s:=s) (n:=1500) (by decide);have hz:=cutF_size s 1500;generalize cutF s 1500=a at *;have c2:=ftext_ok (W0:=W0) (nb:=nb) h2 hT (s:=a) (by omega);have c3:=rtext_ok (W0:=W0) (nb:=nb) h2 hT (s:=a) (by omega);have c4:=fis_ok (W0:=W0) (nb:=nb) h2 hT (s:=a) (by omega);have e:(⟨(fmtP a).1.toArray⟩:ByteArray).toList=(fmtP a).1:=by rw[Lib.toList_data]
 generalize (fmtP a).1=r at *;generalize (fmtP a).2=f at *;generalize (⟨r.toArray⟩:ByteArray)=u at *;subst e;refine dcalls_end Tryz.func5 rfl (by kernel_rfl) 43 Tryz.ntmps5 #[.tmp 2] rfl (Nat.le_of_ble_eq_true rfl) ?_;simp;refine CallGoal.same c0 ?_;simp;refine CallGoal.same c1 ?_;simp;refine CallGoal.same c2 ?_;simp;refine CallGoal.same c3 ?_;simp;refine CallGoal.same c4 ?_
 by_cases hf:f < 0
 ·simp[hf];exact .keep (by simp[hf]) (.refl _) (by simp) (by simp[hf]) (by simp[hf]) (by simp[hf])
 ·simp[hf];exact .keep (by simp[hf]) (.refl _) (by simp) (by simp[hf]) (by simp[hf]) (by simp[hf])
theorem formatBody_ok {W0 nb} (h2:2≤nb) (hT:Lib.Utf8Tabs 0 1 W0) {s:ByteArray}:DCalls ⟨Tryz.prog,W0,nb⟩ 6 [.p (.str s)] [] (.p (.bool true)) []:=by
 have c0:=Fo.begun17_ok (W0:=W0) (nb:=nb) h2 hT;have c1:=cutF_ok (W0:=W0) (nb:=nb) (s:=s) (n:=800) (by decide);have hz:=cutF_size s 800;generalize cutF s 800=a at *;obtain⟨h,hh⟩:∃h:ByteArray,h=⟨#[112,97,99,107,97,103,101,32,112,10,102,117,110,99,32,102,40,41,32,123,10]⟩:=⟨_,rfl⟩
 obtain⟨g,hg⟩:∃g:ByteArray,g=⟨#[10,125,10]⟩:=⟨_,rfl⟩
 have s1:h.size=21:=by rw[hh];rfl
 have s2:g.size=3:=by rw[hg];rfl
 have hb1:=big (a:=h) (b:=a) (by omega);have hb2:=big (a:=h ++ a) (b:=g) (by rw[ByteArray.size_append];omega);have hb2':¬(9223372036854775807:Int)<(h.size:Int)+(a.size:Int)+(g.size:Int):=by omega
 have hbs:(h ++ a ++ g).size < 100000:=by rw[ByteArray.size_append,ByteArray.size_append];omega
 have c2:=ftext_ok (W0:=W0) (nb:=nb) h2 hT (s:=h ++ a ++ g) hbs;have c3:=rtext_ok (W0:=W0) (nb:=nb) h2 hT (s:=h ++ a ++ g) hbs;generalize (fmtP (h ++ a ++ g)).2=f at *;generalize (⟨(fmtP (h ++ a ++ g)).1.toArray⟩:ByteArray)=u at *;refine dcalls_end Tryz.func6 rfl (by kernel_rfl) 33 Tryz.ntmps6 #[.tmp 2] rfl (Nat.le_of_ble_eq_true rfl) ?_;simp only[←hh,←hg];simp;refine CallGoal.same c0 ?_;simp;refine CallGoal.same c1 ?_;simp[hb1,hb2,hb2'];refine CallGoal.same c2 ?_;simp;refine CallGoal.same c3 ?_;simp;exact .keep (by simp) (.refl _) (by simp) (by simp) (by simp) (by simp)
end Rf
end Go.Proofs.Dm
