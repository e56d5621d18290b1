/- What the law's world holds of the library's tables (by seat). -/
import Derived.Below
import Derived.Shelf.Unicode.DecodeSlow
namespace Go.TVF
def GlobOK (w : Go.World) : Prop := Lib.Utf8Tabs 0 1 w
end Go.TVF
