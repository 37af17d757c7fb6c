/- Part of the proof: contracts of the functions, walked by the D-machine. No condition. -/
import Derived.Test.YtmlhdhpjcipcdaaGreatDoorLF
import Derived.Test.YtmlhdhpjcipcdaaGreatDoorDn
import Derived.Test.YtmlhdhpjcipcdaaGreatDoorLSh
set_option linter.unusedSimpArgs false
set_option linter.unusedVariables false
namespace Go.Proofs.Dm
open Go Go.Proofs Go.Proofs.Tryz
namespace Sc
abbrev i64 (n:Int):DV:= .p (.int .i64 n)
abbrev u8 (b:UInt8):DV:= .p (.int .u8 (b.toNat:Int))
abbrev w64 (n:Int):Int:=IntKind.i64.wrap n
theorem w64_id {n:Int} (h0: -4611686018427387904≤n) (h1:n < 4611686018427387904):w64 n=n:=by
 simp only[w64,IntKind.wrap,IntKind.bits,IntKind.signed];simp;omega
structure Tok where
 kind:Int
 text:ByteArray
 at_:Int
 line:Int
 auto:Bool
def encT (t:Tok):List PD:= [.int .i64 t.kind,.str t.text,.int .i64 t.at_,.int .i64 t.line,.bool t.auto]
structure Com where
 text:ByteArray
 at_:Int
 line:Int
 next:Int
def encC (t:Com):List PD:= [.str t.text,.int .i64 t.at_,.int .i64 t.line,.int .i64 t.next]
def letter (c:UInt8):Bool:=(decide (97≤(c.toNat:Int))&&decide ((c.toNat:Int)≤122))||(decide (65≤(c.toNat:Int))&&decide ((c.toNat:Int)≤90))||((c.toNat:Int)==95)
def digit (c:UInt8):Bool:=decide (48≤(c.toNat:Int))&&decide ((c.toNat:Int)≤57)
theorem letter_ok {W0 nb c}:DCalls ⟨Tryz.prog,W0,nb⟩ 138 [u8 c] [] (.p (.bool (letter c))) []:=by
 refine dcalls_end Tryz.func138 rfl (by kernel_rfl) 21 Tryz.ntmps138 #[.tmp 2] rfl (Nat.le_of_ble_eq_true rfl) ?_;simp;cases h1:decide (97≤(c.toNat:Int))<;> cases h2:decide ((c.toNat:Int)≤122)<;> cases h3:decide (65≤(c.toNat:Int))<;> cases h4:decide ((c.toNat:Int)≤90)<;> simp[h1,h2,h3,h4,letter]
 all_goals exact .keep (by simp[h1,h2,h3,h4]) (.refl _) (by simp) (by simp) (by simp) (by simp)
theorem digit_ok {W0 nb c}:DCalls ⟨Tryz.prog,W0,nb⟩ 142 [u8 c] [] (.p (.bool (digit c))) []:=by
 refine dcalls_end Tryz.func142 rfl (by kernel_rfl) 9 Tryz.ntmps142 #[.tmp 2] rfl (Nat.le_of_ble_eq_true rfl) ?_;simp;cases h1:decide (48≤(c.toNat:Int))<;> simp[h1,digit]
 all_goals exact .keep (by simp[h1]) (.refl _) (by simp) (by simp) (by simp) (by simp)
def wordB (c:UInt8):Bool:=letter c || digit c
theorem word_ok {W0 nb c}:DCalls ⟨Tryz.prog,W0,nb⟩ 141 [u8 c] [] (.p (.bool (wordB c))) []:=by
 refine dcalls_end Tryz.func141 rfl (by kernel_rfl) 9 Tryz.ntmps141 #[.tmp 2] rfl (Nat.le_of_ble_eq_true rfl) ?_;simp;refine CallGoal.same letter_ok ?_;cases h:letter c with
 | true=>
  simp[wordB,h];exact .kk
 | false=>
  simp[wordB,h];refine CallGoal.same digit_ok ?_;simp;exact .kk
end Sc
end Go.Proofs.Dm
