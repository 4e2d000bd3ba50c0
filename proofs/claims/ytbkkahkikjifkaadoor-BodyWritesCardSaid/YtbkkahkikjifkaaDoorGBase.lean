/- A part of a framework that reads Go code as functions of plain data; or a law about such functions. -/
import Derived.Test.YtbkkahkikjifkaaDoorFrame3
import Derived.Test.YtbkkahkikjifkaaDoorProg
namespace Go.Bx
abbrev T1 : Ty := (.int .i64)
abbrev T2 : Ty := (.int .u64)
abbrev T3 : Ty := (.pair (.int .u64) (.pair (.int .i64) .unit))
abbrev T4 : Ty := (.arr 25 (.int .u64))
abbrev T5 : Ty := (.arr 24 (.int .u64))
abbrev T6 : Ty := (.arr 5 (.int .u64))
abbrev T7 : Ty := (.arr 25 (.int .i64))
abbrev T8 : Ty := (.pair (.arr 25 (.int .u64)) .unit)
abbrev T9 : Ty := (.int .u8)
abbrev T10 : Ty := (.sl (.int .u8))
abbrev T11 : Ty := (.pair (.int .i64) .unit)
abbrev T12 : Ty := (.arr 136 (.int .u8))
abbrev T13 : Ty := (.pair (.arr 25 (.int .u64)) (.pair (.arr 136 (.int .u8)) (.pair (.int .i64) .unit)))
abbrev T14 : Ty := (.pair (.pair (.arr 25 (.int .u64)) (.pair (.arr 136 (.int .u8)) (.pair (.int .i64) .unit))) .unit)
abbrev T15 : Ty := (.pair (.pair (.arr 25 (.int .u64)) (.pair (.arr 136 (.int .u8)) (.pair (.int .i64) .unit))) (.pair (.sl (.int .u8)) .unit))
abbrev T16 : Ty := (.pair (.pair (.arr 25 (.int .u64)) (.pair (.arr 136 (.int .u8)) (.pair (.int .i64) .unit))) (.pair (.int .i64) .unit))
abbrev T17 : Ty := (.pair (.arr 25 (.int .u64)) (.pair .str .unit))
abbrev T18 : Ty := (.arr 32 (.int .u8))
abbrev T19 : Ty := (.pair (.arr 32 (.int .u8)) (.pair (.int .i64) .unit))
abbrev T20 : Ty := (.pair (.sl (.int .u8)) .unit)
abbrev T21 : Ty := (.pair .str .unit)
abbrev T22 : Ty := (.pair (.int .i64) (.pair (.int .i64) .unit))
abbrev T23 : Ty := (.pair (.int .i64) (.pair (.int .i64) (.pair (.int .i64) (.pair (.arr 32 (.int .u8)) (.pair (.int .i64) (.pair (.int .i64) (.pair (.sl (.int .u8)) .unit)))))))
abbrev T24 : Ty := (.pair (.pair (.int .i64) (.pair (.int .i64) (.pair (.int .i64) (.pair (.arr 32 (.int .u8)) (.pair (.int .i64) (.pair (.int .i64) (.pair (.sl (.int .u8)) .unit))))))) .unit)
abbrev T25 : Ty := (.pair (.int .i64) (.pair (.int .i64) (.pair (.sl (.int .u8)) .unit)))
abbrev T26 : Ty := (.pair (.int .i64) (.pair (.int .i64) (.pair (.pair (.int .i64) (.pair (.int .i64) (.pair (.int .i64) (.pair (.arr 32 (.int .u8)) (.pair (.int .i64) (.pair (.int .i64) (.pair (.sl (.int .u8)) .unit))))))) (.pair (.sl (.int .u8)) .unit))))
abbrev T27 : Ty := (.pair (.pair (.int .i64) (.pair (.int .i64) (.pair (.int .i64) (.pair (.arr 32 (.int .u8)) (.pair (.int .i64) (.pair (.int .i64) (.pair (.sl (.int .u8)) .unit))))))) (.pair (.sl (.int .u8)) .unit))
abbrev T28 : Ty := (.pair (.sl (.int .u8)) (.pair (.sl (.int .u8)) .unit))
abbrev T29 : Ty := (.pair (.sl (.int .u8)) (.pair (.int .i64) .unit))
abbrev T30 : Ty := (.arr 2 (.int .i64))
abbrev T31 : Ty := (.sl (.arr 2 (.int .i64)))
abbrev D0 : Type := List Int
abbrev D1 : Type := List Int × List Int × Int × Unit
abbrev D2 : Type := (List Int × List Int × Int × Unit) × Int × Unit
abbrev D3 : Type := List Int × Int × Unit
abbrev D4 : Type := Int × Int × Int × List Int × Int × Int × List Int × Unit
abbrev D5 : Type := List Int × Unit
abbrev D6 : Type := (Int × Int × Int × List Int × Int × Int × List Int × Unit) × List Int × Unit
abbrev D7 : Type := List (List Int)
end Go.Bx
