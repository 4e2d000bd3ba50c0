/- Closed facts of the program that the statement asks for. -/
import Derived.Test.YtbfaahaoefngoaaGreatDoorRows
import Derived.JoinedOf
import Derived.KernelRfl
set_option maxRecDepth 100000
namespace Go.Proofs.YtbfaahaoefngoaaGreatDoor.worldPosts
open Go
theorem XJ:Tryz.pinned.checked.prog.inPlace 3=Rows.worldPostsRow.inPlace:=by kernel_rfl
theorem XK:Tryz.pinned.checked.prog.unfollowed 3=Rows.worldPostsRow.unfollowed:=by kernel_rfl
theorem XG:Tryz.pinned.checked.prog.recurses 3=Rows.worldPostsRow.recurses:=by kernel_rfl
theorem XH:Tryz.pinned.checked.prog.varsNamed 3=Rows.worldPostsRow.named:=by kernel_rfl
theorem XI:joinedFacts Tryz.pinned.checked.prog 3 Tryz.f3 Rows.worldPostsSpec Rows.worldPostsRow=true:=by
 unfold joinedFacts;rw[XJ,XK,XG,XH]
 kernel_rfl
end Go.Proofs.YtbfaahaoefngoaaGreatDoor.worldPosts
