/- What the functions from number 510 on call: one piece of the program's call graph, reckoned from the loaded program. -/
import Derived.Test.YthhanoaefdahkaaGreatDoorProg
import GoSem.ClaimFn
import Derived.KernelRfl
namespace Go.Proofs.YthhanoaefdahkaaGreatDoor
open Go
def leadsL5 : List (List Nat) := [[547], [], [], [], [41, 41, 41, 41], [40, 40], [], [41, 40], [360, 360, 548, 360, 360, 548, 549], [346], [521], [133, 550], [], [], [], [], [41], [], [], [551], [41, 552, 531, 553, 553, 41, 518, 41], [119], [555, 554], [], [], [557, 41, 41, 495, 494], [41], [], [], [], [], [540, 418, 540, 540], [], [558, 559, 560], [], [542], [], [], [], [548], [561, 562, 563, 564, 565, 566, 567, 568, 569, 550, 550], [570], [553, 553, 41, 571, 41, 571], [], [], [556], [119], [572, 572], [573, 574], [573, 575, 560], [266], [567], [576, 576], [269, 270], [577, 577, 577, 578], [], [567, 567, 567], [579, 579], [567, 567], [567, 567, 567, 567], [222], [41], [580, 580, 580, 580], [], [581], [], [567, 567], [578], [582, 582, 582], [], [41], [], [567], [], [], [], [], [], [], [], [], [], [], [], [], [], [], [], [], [], [], [], [], [], [], [], [], [], []]
set_option maxRecDepth 100000 in
theorem leads5 : ((Tryz.prog.funcs.toList.drop 510).take 102).map Tryz.prog.leadsTo = leadsL5 := by kernel_rfl
end Go.Proofs.YthhanoaefdahkaaGreatDoor
