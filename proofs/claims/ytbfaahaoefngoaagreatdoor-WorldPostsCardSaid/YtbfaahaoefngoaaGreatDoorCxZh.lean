/- A part of a framework that reads Go code as functions of plain data; or a law about such functions. -/
import Derived.Test.YtbfaahaoefngoaaGreatDoorFrame3
namespace Go.Bx
set_option linter.unusedVariables false
set_option linter.unusedSimpArgs false
open Go
theorem FD{k:IntKind}{x:Int}(h:pq k x=true):k.wrap x=x:=by rw[iE]at h;obtain⟨h1,h2⟩:=h;cases k<;>simp only[IntKind.wrap,IntKind.min,IntKind.max,IntKind.bits,IntKind.signed]at*<;>simp at*<;>omega
theorem wrap_i64{x:Int}(h1:-9223372036854775808<=x)(h2:x<=9223372036854775807):IntKind.i64.wrap x=x:=
 FD (by rw[iE];simp only[IntKind.min,IntKind.max,IntKind.bits,IntKind.signed];simp;omega)
theorem aY{x:Int}(h1:0<=x)(h2:x<=18446744073709551615):IntKind.u64.wrap x=x:=
 FD (by rw[iE];simp only[IntKind.min,IntKind.max,IntKind.bits,IntKind.signed];simp;omega)
theorem wrap_u8{x:Int}(h1:0<=x)(h2:x<=255):IntKind.u8.wrap x=x:=
 FD (by rw[iE];simp only[IntKind.min,IntKind.max,IntKind.bits,IntKind.signed];simp;omega)
theorem mL(x:Int):IntKind.u64.wrap x=x%18446744073709551616:=by rfl
theorem zt(x:Int):IntKind.u8.wrap x=x%256:=by rfl
theorem Qj{x:Int}:pq .i64 x=true↔-9223372036854775808<=x/\x<=9223372036854775807:=by rw[iE];simp only[IntKind.min,IntKind.max,IntKind.bits,IntKind.signed];simp
theorem n6{x:Int}:pq .u64 x=true↔0<=x/\x<=18446744073709551615:=by rw[iE];simp only[IntKind.min,IntKind.max,IntKind.bits,IntKind.signed];simp
theorem IA{x:Int}:pq .u8 x=true↔0<=x/\x<=255:=by rw[iE];simp only[IntKind.min,IntKind.max,IntKind.bits,IntKind.signed];simp
theorem bS(a b:Bool):cond a true b=(a||b):=by cases a<;>rfl
theorem ck(a b:Bool):cond a b false=(a&&b):=by cases a<;>rfl
theorem getD_eq{α:Type}{l:List α}{i:Nat}{d:α}(h:i<l.length):l.getD i d=l[i]:=by simp[List.getD,List.getElem?_eq_getElem h]
end Go.Bx
