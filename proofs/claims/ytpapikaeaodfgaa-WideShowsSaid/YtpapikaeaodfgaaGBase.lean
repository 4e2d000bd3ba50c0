/- A part of a framework that reads Go code as functions of plain data; or a law about such functions. -/
import Derived.Test.YtpapikaeaodfgaaFrame3
import Derived.Test.YtpapikaeaodfgaaProg
