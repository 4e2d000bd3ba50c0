/- A part of a framework that reads Go code as functions of plain data; or a law about such functions. -/
import Derived.Test.YtbkkahkikjifkaaDoorFrame3
import Derived.Test.YtbkkahkikjifkaaDoorProg
namespace Go.Bx
abbrev T1 : Ty:=(.int .u64)
abbrev T2 : Ty:=(.arr 4 (.int .u64))
abbrev T3 : Ty:=(.int .i64)
abbrev T4 : Ty:=(.pair (.arr 4 (.int .u64)) (.pair (.arr 4 (.int .u64)) .unit))
abbrev T5 : Ty:=(.sl (.int .i64))
abbrev T6 : Ty:=(.pair (.arr 4 (.int .u64)) .unit)
abbrev T7 : Ty:=(.pair (.arr 4 (.int .u64)) (.pair (.int .i64) .unit))
abbrev T8 : Ty:=(.pair .bool (.pair (.int .i64) .unit))
abbrev T9 : Ty:=(.pair (.sl (.int .i64)) (.pair (.sl (.int .i64)) .unit))
abbrev D0 : Type:=List Int
abbrev D1 : Type:=Bool × Int × Unit
abbrev D2 : Type:=List Int × Int × Unit
end Go.Bx
