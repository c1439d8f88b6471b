/- The orders of the drawn regions of this seat; that they serve. Printed by trs.py. -/
import Derived.Test.YtknocbhocdenoaaGreatDoorAwO
import Derived.Test.YtknocbhocdenoaaGreatDoorProg
namespace Go.Proofs.YtknocbhocdenoaaGreatDoor
open Go Go.RowKit
def tr6_11 : Sch := ⟨[], (.q 0 false (.q 1 false (.q 2 false (.q 3 true (.q 4 false (.q 5 false (.q 6 true (.q 7 false (.q 8 false (.q 9 false (.q 10 true (.q 11 false (.q 12 false (.q 13 true (.q 14 false (.q 15 true (.q 16 false (.q 17 false .done))))))))))))))))))⟩
def tr6_14 : Sch := ⟨[], (.q 0 true (.q 1 false (.q 2 false (.q 3 true (.q 4 false (.q 5 true (.q 6 false (.q 7 false (.q 8 false .done)))))))))⟩
def tr6_17 : Sch := ⟨[], (.q 0 false (.q 1 false (.q 2 true (.q 3 false (.q 4 false (.q 5 true (.q 6 false (.q 7 false (.q 8 false (.q 9 true (.q 10 false (.q 11 false (.q 12 true (.q 13 false (.q 14 true (.q 15 false (.q 16 false (.q 17 false (.q 18 true (.q 19 false (.q 20 false (.q 21 true (.q 22 false (.q 23 true (.q 24 false (.q 25 false (.q 26 false (.q 27 false .done))))))))))))))))))))))))))))⟩
def tr8_10 : Sch := ⟨[], (.q 0 false (.q 1 true (.q 2 false (.q 3 false (.q 4 true (.q 5 false (.q 6 false (.q 7 false (.q 8 true (.q 9 false (.q 10 false (.q 11 false (.w 12 .done)))))))))))))⟩
def tr9_10 : Sch := ⟨[14], (.q 0 false (.q 1 false (.q 2 false (.q 3 false (.q 4 false (.q 5 false (.q 6 false (.q 7 false (.q 8 false (.q 9 false (.q 10 false (.w 11 (.w 12 (.q 13 false (.w 14 .done)))))))))))))))⟩
def tr9_12 : Sch := ⟨[14], (.q 0 false (.q 1 false (.q 2 false (.q 3 false (.q 4 false (.q 5 false (.q 6 false (.q 7 false (.q 8 false (.q 9 false (.q 10 false (.w 11 (.w 12 (.q 13 false (.w 14 .done)))))))))))))))⟩
def tr9_14 : Sch := ⟨[14], (.q 0 false (.q 1 false (.q 2 false (.q 3 false (.q 4 false (.q 5 false (.q 6 false (.q 7 false (.q 8 false (.q 9 false (.q 10 false (.w 11 (.w 12 (.q 13 false (.w 14 .done)))))))))))))))⟩
def tr26_11 : Sch := ⟨[11], (.q 0 true (.q 1 false (.q 2 false (.q 3 false (.q 4 false (.q 5 false (.q 6 false (.q 7 false (.q 8 false (.q 9 true (.w 10 (.w 11 .done))))))))))))⟩
def tr27_19 : Sch := ⟨[], (.q 0 false (.q 1 false (.q 2 false (.q 3 false (.q 4 true (.q 5 false (.q 6 false (.q 7 false (.q 8 false (.q 9 true (.q 10 false (.q 11 false (.q 12 false (.q 13 false .done))))))))))))))⟩
def tr28_4 : Sch := ⟨[5, 6], (.q 1 false (.q 2 false (.q 3 false (.q 4 false (.w 0 (.w 5 (.w 6 .done)))))))⟩
def tr30_4 : Sch := ⟨[], (.q 0 false (.q 2 false (.w 1 (.w 3 (.q 4 false (.q 5 false (.q 6 false (.q 7 false .done))))))))⟩
def tr34_4 : Sch := ⟨[], (.q 0 false (.q 1 false (.q 2 false (.q 3 false (.q 4 false (.q 5 false (.q 6 false (.q 7 false (.q 8 false (.q 9 false (.q 10 false (.q 11 false (.q 12 false (.q 13 false (.q 14 false (.q 15 false (.q 16 false .done)))))))))))))))))⟩
def tr35_12 : Sch := ⟨[11], (.q 0 false (.q 1 false (.q 2 false (.q 3 false (.q 4 false (.q 5 false (.q 6 false (.w 7 (.w 8 (.w 9 (.q 10 false (.w 11 .done))))))))))))⟩
def tr37_7 : Sch := ⟨[], (.q 0 false (.q 1 false (.q 2 false (.q 3 false (.q 4 true (.q 5 true (.w 6 (.q 7 false .done))))))))⟩
def tr40_14 : Sch := ⟨[], (.q 0 false (.q 1 true (.q 2 false (.q 3 false (.q 4 true (.q 5 false (.q 6 true (.q 7 false (.q 8 false (.q 9 true (.q 10 false .done)))))))))))⟩
def tr40_19 : Sch := ⟨[], (.q 0 false (.q 1 false (.q 2 false (.q 3 false (.q 4 true (.q 5 false (.q 6 false (.q 7 false (.q 8 false (.q 9 true (.w 10 (.q 11 false .done))))))))))))⟩
def tr41_1 : Sch := ⟨[], (.q 0 false (.q 1 false (.q 2 false (.q 3 false (.q 4 false (.q 5 false (.q 6 false (.w 7 (.w 8 (.q 9 false (.q 10 false (.w 11 .done))))))))))))⟩
def tr41_6 : Sch := ⟨[], (.q 0 false (.q 1 false (.q 2 false (.q 3 false (.q 4 false (.q 5 false (.q 6 false (.w 7 (.w 8 (.q 9 false (.q 10 false (.w 11 .done))))))))))))⟩
def tr41_7 : Sch := ⟨[], (.q 0 false (.q 1 false (.q 2 false (.q 3 false (.q 4 false (.q 5 false (.q 6 false (.w 7 (.w 8 (.q 9 false (.q 10 false (.w 11 .done))))))))))))⟩
def tr41_17 : Sch := ⟨[], (.q 0 false (.q 1 false (.q 2 false (.q 3 false (.q 4 false (.q 5 false (.q 6 false (.q 7 false (.q 8 false (.q 9 false (.w 10 (.w 11 (.q 12 false (.q 13 false (.w 14 .done)))))))))))))))⟩
def tr44_5 : Sch := ⟨[5, 6], (.q 1 false (.q 2 false (.q 3 false (.q 4 false (.w 0 (.w 5 (.w 6 .done)))))))⟩
def tr45_6 : Sch := ⟨[], (.q 0 false (.q 1 false (.q 2 false (.q 3 false (.q 4 true (.q 5 false (.q 6 false (.q 7 false (.q 8 false (.q 9 true (.w 10 (.q 11 false .done))))))))))))⟩
def tr46_1 : Sch := ⟨[], (.q 0 false (.q 1 false (.q 2 false (.q 3 false (.q 4 false (.q 5 false (.q 6 false (.w 7 (.w 8 (.q 9 false (.q 10 false (.w 11 .done))))))))))))⟩
def tr47_5 : Sch := ⟨[], (.q 0 false (.q 1 false (.q 2 false (.q 3 true (.q 4 false (.q 5 false (.q 6 true (.q 7 false (.q 8 false (.q 9 false (.q 10 false (.q 11 true (.q 12 false (.q 13 false (.q 14 true (.q 15 false (.q 16 true (.q 17 false (.q 18 false .done)))))))))))))))))))⟩
def tr47_8 : Sch := ⟨[], (.q 0 true (.q 1 false (.q 2 false (.q 3 true (.q 4 false (.q 5 true (.q 6 false (.q 7 false (.q 8 false .done)))))))))⟩
def tr47_11 : Sch := ⟨[], (.q 0 false (.q 1 false (.q 2 true (.q 3 false (.q 4 false (.q 5 true (.q 6 false (.q 7 false (.q 8 false (.q 9 true (.q 10 false (.q 11 false (.q 12 true (.q 13 false (.q 14 true (.q 15 false (.q 16 false (.q 17 false (.q 18 true (.q 19 false (.q 20 false (.q 21 true (.q 22 false (.q 23 true (.q 24 false (.q 25 false (.q 26 false (.q 27 false .done))))))))))))))))))))))))))))⟩
def tr60_16 : Sch := ⟨[], (.q 0 false (.q 1 false (.q 2 false (.q 3 false (.q 4 false (.q 5 false (.q 7 false (.b 6 (.w 8 (.w 9 (.w 10 (.q 11 false (.q 12 false (.w 13 .done)))))) 8 (.b 6 (.w 9 (.w 10 (.q 11 false (.q 12 false (.w 13 .done))))) 9 (.w 6 (.w 10 (.q 11 false (.q 12 false (.w 13 .done))))))))))))))⟩
def tr60_17 : Sch := ⟨[], (.q 0 false (.q 1 false (.q 2 false (.q 3 false (.q 5 false (.q 6 true (.b 4 (.w 7 (.q 8 false (.q 9 false (.q 10 false (.w 11 .done))))) 7 (.w 4 (.q 8 false (.q 9 false (.q 10 false (.w 11 .done))))))))))))⟩
def tr61_3 : Sch := ⟨[2], (.q 0 true (.q 1 false (.w 2 .done)))⟩
def tr61_9 : Sch := ⟨[3], (.q 0 false (.q 1 true (.q 2 false (.w 3 .done))))⟩
def tr62_6 : Sch := ⟨[], (.q 0 false (.q 1 false (.q 2 false (.q 3 true (.q 4 false (.q 5 false (.q 6 false (.q 7 true (.q 8 false .done)))))))))⟩
def tr63_8 : Sch := ⟨[13, 15], (.q 0 false (.q 1 false (.q 2 false (.q 3 false (.q 6 false (.q 7 false (.q 8 false (.q 9 false (.b 4 (.b 5 (.q 12 false (.w 10 (.w 11 (.w 13 (.q 14 false (.w 15 .done)))))) 10 (.w 5 (.q 12 false (.w 11 (.w 13 (.q 14 false (.w 15 .done))))))) 10 (.w 4 (.w 5 (.q 12 false (.w 11 (.w 13 (.q 14 false (.w 15 .done))))))))))))))))⟩
def tr64_6 : Sch := ⟨[], (.q 0 false (.q 1 false (.q 2 false (.q 3 false (.q 4 true (.q 5 false (.q 6 true (.q 7 false .done))))))))⟩
def tr64_8 : Sch := ⟨[], (.q 0 false (.q 1 false (.q 2 false (.q 3 false (.q 4 true (.q 5 false (.q 6 true (.q 7 false .done))))))))⟩
def tr64_12 : Sch := ⟨[2, 3], (.q 0 true (.q 1 true (.w 2 (.w 3 .done))))⟩
def tr65_5 : Sch := ⟨[], (.q 0 false (.q 1 false (.q 2 false (.q 3 false (.q 4 false (.q 5 true (.q 6 false (.q 7 false (.q 8 false (.q 9 false (.q 10 false (.q 11 false (.q 12 false (.q 13 false (.q 14 false (.q 15 false (.w 16 (.q 17 false .done))))))))))))))))))⟩
def tr67_17 : Sch := ⟨[], (.q 0 false (.q 1 false (.q 2 false (.q 3 false (.q 5 false (.q 6 false (.q 7 false (.q 8 false (.q 9 false (.q 10 false (.q 11 false (.w 4 (.w 12 (.q 13 false (.w 14 .done)))))))))))))))⟩
def tr67_19 : Sch := ⟨[10], (.q 0 false (.q 1 true (.q 2 false (.q 3 false (.q 4 false (.q 5 false (.q 6 false (.q 7 false (.q 8 true (.w 9 (.w 10 .done)))))))))))⟩
def tr70_5 : Sch := ⟨[], (.q 0 false (.q 1 false (.q 2 false (.q 3 true (.q 4 false (.q 5 true (.w 6 (.q 7 false (.q 8 false (.q 9 false (.q 10 false (.q 11 false .done))))))))))))⟩
def tr70_7 : Sch := ⟨[], (.q 0 false (.q 1 false (.q 2 false (.q 3 true (.q 4 false (.q 5 true (.q 6 false (.q 7 true (.w 8 .done)))))))))⟩
def tr71_15 : Sch := ⟨[], (.q 0 false (.q 1 false (.q 2 false (.q 3 true (.q 4 false (.q 5 true (.w 6 (.q 7 false (.w 8 .done)))))))))⟩
def tr71_16 : Sch := ⟨[], (.q 0 false (.q 1 false (.q 2 false (.q 3 true (.q 4 false (.q 5 true (.w 6 (.q 7 false .done))))))))⟩
def tr71_22 : Sch := ⟨[], (.q 0 false (.q 1 false (.q 2 false (.q 3 true (.q 4 false (.q 5 true (.w 6 (.q 7 false (.w 8 .done)))))))))⟩
def tr71_23 : Sch := ⟨[], (.q 0 false (.q 1 false (.q 2 false (.q 3 true (.q 4 false (.q 5 true (.w 6 (.q 7 false .done))))))))⟩
def tr73_13 : Sch := ⟨[], (.q 0 true (.q 1 false (.q 2 false (.q 3 false (.q 4 false (.q 5 false (.q 6 true (.q 8 false (.w 7 (.q 9 false .done))))))))))⟩
def tr73_18 : Sch := ⟨[], (.q 0 true (.q 1 false (.q 2 false (.q 3 false (.q 4 false (.q 5 false (.q 6 true (.q 8 false (.w 7 (.q 9 false .done))))))))))⟩
def tr80_13 : Sch := ⟨[], (.q 0 false (.q 1 true (.q 2 false (.q 3 true (.q 4 false (.q 5 false (.q 6 false (.q 7 true (.q 8 false (.q 9 true (.q 10 false (.q 11 false (.q 12 false (.q 13 false .done))))))))))))))⟩
def tr82_5 : Sch := ⟨[12], (.q 0 false (.q 1 false (.q 2 false (.q 3 false (.q 4 false (.q 5 false (.b 6 (.q 7 false (.q 8 false (.q 9 false (.w 10 (.q 11 false (.w 12 .done)))))) 10 (.w 6 (.q 7 false (.q 8 false (.q 9 false (.q 11 false (.w 12 .done)))))))))))))⟩
def tr82_7 : Sch := ⟨[2], (.q 0 true (.q 1 false (.w 2 .done)))⟩
def tr82_10 : Sch := ⟨[4], (.q 0 false (.q 1 true (.q 3 false (.w 2 (.w 4 .done)))))⟩
def tr82_13 : Sch := ⟨[4], (.q 0 false (.q 1 true (.q 3 false (.w 2 (.w 4 .done)))))⟩
def tr88_11 : Sch := ⟨[], (.q 0 false (.q 1 false (.q 2 false (.q 4 false (.q 5 false (.q 6 false (.w 3 (.w 7 (.w 8 (.w 9 (.q 10 false .done)))))))))))⟩
def tr92_14 : Sch := ⟨[], (.q 0 false (.q 1 false (.q 2 false (.q 3 false (.q 4 true (.q 5 false (.q 6 false (.q 7 false (.q 8 false (.q 9 true (.w 10 (.q 11 false .done))))))))))))⟩
def tr93_8 : Sch := ⟨[], (.q 0 false (.q 1 false (.q 2 false (.q 3 false (.q 4 false (.q 5 false (.q 6 false (.w 7 (.q 8 false (.q 9 false (.w 10 .done)))))))))))⟩
def tr93_25 : Sch := ⟨[], (.q 0 false (.q 1 false (.q 2 false (.q 3 false (.q 4 false (.q 5 false (.q 6 false (.q 7 false (.q 8 false (.q 9 false (.w 10 (.q 11 false (.q 12 false (.q 13 false (.q 14 false (.q 15 false (.q 16 false (.q 17 false (.q 18 false (.q 19 false (.q 20 false (.q 21 false (.q 22 false (.w 23 (.q 24 false (.q 25 false .done))))))))))))))))))))))))))⟩
def tr93_30 : Sch := ⟨[], (.q 0 false (.q 1 false (.q 2 false (.q 3 false (.q 4 false (.q 5 false (.q 6 false (.q 7 false (.q 8 false (.q 9 false (.q 10 false (.q 11 false (.w 12 (.q 13 false .done))))))))))))))⟩
def tr94_8 : Sch := ⟨[], (.q 0 false (.q 1 false (.q 2 false (.q 3 false (.q 4 false (.q 5 false (.q 6 false (.w 7 (.q 8 false (.q 9 false (.w 10 .done)))))))))))⟩
def tr94_25 : Sch := ⟨[], (.q 0 false (.q 1 false (.q 2 false (.q 3 false (.q 4 false (.q 5 false (.q 6 false (.q 7 false (.q 8 false (.q 9 false (.w 10 (.q 11 false (.q 12 false (.q 13 false (.q 14 false (.q 15 false (.q 16 false (.q 17 false (.q 18 false (.q 19 false (.q 20 false (.q 21 false (.q 22 false (.w 23 (.q 24 false (.q 25 false .done))))))))))))))))))))))))))⟩
def tr94_30 : Sch := ⟨[], (.q 0 false (.q 1 false (.q 2 false (.q 3 false (.q 4 false (.q 5 false (.q 6 false (.q 7 false (.q 8 false (.q 9 false (.q 10 false (.q 11 false (.w 12 (.q 13 false .done))))))))))))))⟩
def tr95_8 : Sch := ⟨[], (.q 0 false (.q 1 false (.q 2 false (.q 3 false (.q 4 false (.q 5 false (.q 6 false (.w 7 (.q 8 false (.q 9 false (.w 10 .done)))))))))))⟩
def tr95_25 : Sch := ⟨[], (.q 0 false (.q 1 false (.q 2 false (.q 3 false (.q 4 false (.q 5 false (.q 6 false (.q 7 false (.q 8 false (.q 9 false (.w 10 (.q 11 false (.q 12 false (.q 13 false (.q 14 false (.q 15 false (.q 16 false (.q 17 false (.q 18 false (.q 19 false (.q 20 false (.q 21 false (.q 22 false (.w 23 (.q 24 false (.q 25 false .done))))))))))))))))))))))))))⟩
def tr95_30 : Sch := ⟨[], (.q 0 false (.q 1 false (.q 2 false (.q 3 false (.q 4 false (.q 5 false (.q 6 false (.q 7 false (.q 8 false (.q 9 false (.q 10 false (.q 11 false (.w 12 (.q 13 false .done))))))))))))))⟩
def tr96_8 : Sch := ⟨[], (.q 0 false (.q 1 false (.q 2 false (.q 3 false (.q 4 false (.q 5 false (.q 6 false (.w 7 (.q 8 false (.q 9 false (.w 10 .done)))))))))))⟩
def tr96_25 : Sch := ⟨[], (.q 0 false (.q 1 false (.q 2 false (.q 3 false (.q 4 false (.q 5 false (.q 6 false (.q 7 false (.q 8 false (.q 9 false (.w 10 (.q 11 false (.q 12 false (.q 13 false (.q 14 false (.q 15 false (.q 16 false (.q 17 false (.q 18 false (.q 19 false (.q 20 false (.q 21 false (.q 22 false (.w 23 (.q 24 false (.q 25 false .done))))))))))))))))))))))))))⟩
def tr96_30 : Sch := ⟨[], (.q 0 false (.q 1 false (.q 2 false (.q 3 false (.q 4 false (.q 5 false (.q 6 false (.q 7 false (.q 8 false (.q 9 false (.q 10 false (.q 11 false (.w 12 (.q 13 false .done))))))))))))))⟩
def tr97_8 : Sch := ⟨[], (.q 0 false (.q 1 false (.q 2 false (.q 3 false (.q 4 false (.q 5 false (.q 6 false (.w 7 (.q 8 false (.q 9 false (.w 10 .done)))))))))))⟩
def tr97_25 : Sch := ⟨[], (.q 0 false (.q 1 false (.q 2 false (.q 3 false (.q 4 false (.q 5 false (.q 6 false (.q 7 false (.q 8 false (.q 9 false (.w 10 (.q 11 false (.q 12 false (.q 13 false (.q 14 false (.q 15 false (.q 16 false (.q 17 false (.q 18 false (.q 19 false (.q 20 false (.q 21 false (.q 22 false (.w 23 (.q 24 false (.q 25 false .done))))))))))))))))))))))))))⟩
def tr97_30 : Sch := ⟨[], (.q 0 false (.q 1 false (.q 2 false (.q 3 false (.q 4 false (.q 5 false (.q 6 false (.q 7 false (.q 8 false (.q 9 false (.q 10 false (.q 11 false (.w 12 (.q 13 false .done))))))))))))))⟩
def tr98_8 : Sch := ⟨[], (.q 0 false (.q 1 false (.q 2 false (.q 3 false (.q 4 false (.q 5 false (.q 6 false (.w 7 (.q 8 false (.q 9 false (.w 10 .done)))))))))))⟩
def tr98_25 : Sch := ⟨[], (.q 0 false (.q 1 false (.q 2 false (.q 3 false (.q 4 false (.q 5 false (.q 6 false (.q 7 false (.q 8 false (.q 9 false (.w 10 (.q 11 false (.q 12 false (.q 13 false (.q 14 false (.q 15 false (.q 16 false (.q 17 false (.q 18 false (.q 19 false (.q 20 false (.q 21 false (.q 22 false (.w 23 (.q 24 false (.q 25 false .done))))))))))))))))))))))))))⟩
def tr98_30 : Sch := ⟨[], (.q 0 false (.q 1 false (.q 2 false (.q 3 false (.q 4 false (.q 5 false (.q 6 false (.q 7 false (.q 8 false (.q 9 false (.q 10 false (.q 11 false (.w 12 (.q 13 false .done))))))))))))))⟩
def tr99_8 : Sch := ⟨[], (.q 0 false (.q 1 false (.q 2 false (.q 3 false (.q 4 false (.q 5 false (.q 6 false (.w 7 (.q 8 false (.q 9 false (.w 10 .done)))))))))))⟩
def tr99_25 : Sch := ⟨[], (.q 0 false (.q 1 false (.q 2 false (.q 3 false (.q 4 false (.q 5 false (.q 6 false (.q 7 false (.q 8 false (.q 9 false (.w 10 (.q 11 false (.q 12 false (.q 13 false (.q 14 false (.q 15 false (.q 16 false (.q 17 false (.q 18 false (.q 19 false (.q 20 false (.q 21 false (.q 22 false (.w 23 (.q 24 false (.q 25 false .done))))))))))))))))))))))))))⟩
def tr99_30 : Sch := ⟨[], (.q 0 false (.q 1 false (.q 2 false (.q 3 false (.q 4 false (.q 5 false (.q 6 false (.q 7 false (.q 8 false (.q 9 false (.q 10 false (.q 11 false (.w 12 (.q 13 false .done))))))))))))))⟩
def tr100_8 : Sch := ⟨[], (.q 0 false (.q 1 false (.q 2 false (.q 3 false (.q 4 false (.q 5 false (.q 6 false (.w 7 (.q 8 false (.q 9 false (.w 10 .done)))))))))))⟩
def tr100_25 : Sch := ⟨[], (.q 0 false (.q 1 false (.q 2 false (.q 3 false (.q 4 false (.q 5 false (.q 6 false (.q 7 false (.q 8 false (.q 9 false (.w 10 (.q 11 false (.q 12 false (.q 13 false (.q 14 false (.q 15 false (.q 16 false (.q 17 false (.q 18 false (.q 19 false (.q 20 false (.q 21 false (.q 22 false (.w 23 (.q 24 false (.q 25 false .done))))))))))))))))))))))))))⟩
def tr100_30 : Sch := ⟨[], (.q 0 false (.q 1 false (.q 2 false (.q 3 false (.q 4 false (.q 5 false (.q 6 false (.q 7 false (.q 8 false (.q 9 false (.q 10 false (.q 11 false (.w 12 (.q 13 false .done))))))))))))))⟩
def tr101_8 : Sch := ⟨[], (.q 0 false (.q 1 false (.q 2 false (.q 3 false (.q 4 false (.q 5 false (.q 6 false (.w 7 (.q 8 false (.q 9 false (.w 10 .done)))))))))))⟩
def tr101_25 : Sch := ⟨[], (.q 0 false (.q 1 false (.q 2 false (.q 3 false (.q 4 false (.q 5 false (.q 6 false (.q 7 false (.q 8 false (.q 9 false (.w 10 (.q 11 false (.q 12 false (.q 13 false (.q 14 false (.q 15 false (.q 16 false (.q 17 false (.q 18 false (.q 19 false (.q 20 false (.q 21 false (.q 22 false (.w 23 (.q 24 false (.q 25 false .done))))))))))))))))))))))))))⟩
def tr101_30 : Sch := ⟨[], (.q 0 false (.q 1 false (.q 2 false (.q 3 false (.q 4 false (.q 5 false (.q 6 false (.q 7 false (.q 8 false (.q 9 false (.q 10 false (.q 11 false (.w 12 (.q 13 false .done))))))))))))))⟩
def tr102_8 : Sch := ⟨[], (.q 0 false (.q 1 false (.q 2 false (.q 3 false (.q 4 false (.q 5 false (.q 6 false (.w 7 (.q 8 false (.q 9 false (.q 10 false (.w 11 .done))))))))))))⟩
def tr102_25 : Sch := ⟨[], (.q 0 false (.q 1 false (.q 2 false (.q 3 false (.q 4 false (.q 5 false (.q 6 false (.q 7 false (.q 8 false (.q 9 false (.q 10 false (.w 11 (.q 12 false (.q 13 false (.q 14 false (.q 15 false (.q 16 false (.q 17 false (.q 18 false (.q 19 false (.q 20 false (.q 21 false (.q 22 false (.q 23 false (.q 24 false (.w 25 (.q 26 false (.q 27 false .done))))))))))))))))))))))))))))⟩
def tr102_30 : Sch := ⟨[], (.q 0 false (.q 1 false (.q 2 false (.q 3 false (.q 4 false (.q 5 false (.q 6 false (.q 7 false (.q 8 false (.q 9 false (.q 10 false (.q 11 false (.q 12 false (.w 13 (.q 14 false .done)))))))))))))))⟩
def tr103_8 : Sch := ⟨[], (.q 0 false (.q 1 false (.q 2 false (.q 3 false (.q 4 false (.q 5 false (.q 6 false (.w 7 (.w 8 (.w 9 (.w 10 (.q 11 false (.w 12 .done)))))))))))))⟩
def tr103_25 : Sch := ⟨[], (.q 0 false (.q 1 false (.q 2 false (.q 3 false (.q 4 false (.q 5 false (.q 6 false (.q 7 false (.q 8 false (.q 9 false (.q 10 false (.q 11 false (.q 12 false (.w 13 (.q 14 false (.q 15 false (.q 16 false (.q 17 false (.q 18 false (.q 19 false (.q 20 false (.q 21 false (.q 22 false (.q 23 false (.q 24 false (.q 25 false (.q 26 false (.q 27 false (.q 28 false (.w 29 (.q 30 false (.q 31 false .done))))))))))))))))))))))))))))))))⟩
def tr103_30 : Sch := ⟨[], (.q 0 false (.q 1 false (.q 2 false (.q 3 false (.q 4 false (.q 5 false (.q 6 false (.q 7 false (.q 8 false (.q 9 false (.q 10 false (.q 11 false (.q 12 false (.q 13 false (.q 14 false (.w 15 (.q 16 false .done)))))))))))))))))⟩
def tr107_4 : Sch := ⟨[], (.q 0 false (.q 1 false (.q 3 false (.q 4 false (.q 5 false (.q 6 false (.b 2 (.q 8 false (.w 7 (.q 9 false .done))) 7 (.w 2 (.q 8 false (.q 9 false .done))))))))))⟩
def tr107_8 : Sch := ⟨[8], (.q 0 false (.q 1 false (.q 2 false (.q 3 false (.q 6 false (.w 4 (.w 5 (.w 7 (.w 8 .done)))))))))⟩
def tr109_1 : Sch := ⟨[], (.q 0 false (.q 1 false (.q 2 false (.q 3 true (.q 4 false (.q 5 false (.q 6 false (.q 7 true (.q 8 false (.q 9 false (.q 10 false (.q 11 false (.q 12 false (.q 13 false (.q 14 true (.q 15 false (.q 16 false (.q 17 false (.q 18 true (.q 19 false (.q 20 false (.q 21 true (.q 22 false (.q 23 false .done))))))))))))))))))))))))⟩
def tr118_6 : Sch := ⟨[], (.q 0 false (.q 1 false (.q 2 false (.q 3 false (.q 4 false (.q 5 false (.q 6 false (.q 7 false (.q 8 false (.q 9 false (.q 10 false (.q 11 false (.q 12 false (.q 13 false (.q 14 false (.q 15 false (.q 16 true (.q 17 false (.q 18 false .done)))))))))))))))))))⟩
def tr120_6 : Sch := ⟨[13], (.q 0 false (.q 1 false (.q 2 false (.q 3 false (.q 4 false (.q 5 false (.q 6 false (.q 7 false (.w 8 (.w 9 (.w 10 (.w 11 (.q 12 false (.w 13 .done))))))))))))))⟩
def tr120_10 : Sch := ⟨[12], (.q 0 false (.q 1 false (.q 2 false (.q 3 false (.q 4 false (.q 5 false (.q 6 false (.q 7 false (.w 8 (.w 9 (.w 10 (.q 11 false (.w 12 .done)))))))))))))⟩
def tr120_14 : Sch := ⟨[11], (.q 0 false (.q 1 false (.q 2 false (.q 3 false (.q 4 false (.q 5 false (.q 6 false (.w 7 (.w 8 (.w 9 (.q 10 false (.w 11 .done))))))))))))⟩
def tr121_3 : Sch := ⟨[], (.q 0 false (.q 1 false (.q 2 false (.q 3 false (.q 5 false (.q 6 false (.q 7 false (.q 8 false (.q 10 false (.q 11 false (.q 12 false (.q 13 false (.w 4 (.w 9 (.w 14 (.w 15 (.w 16 (.q 17 false (.q 18 false (.q 19 false .done))))))))))))))))))))⟩
def tr127_1 : Sch := ⟨[], (.q 1 true (.b 0 (.w 2 (.q 3 false (.w 4 .done))) 2 (.w 0 (.q 3 false (.w 4 .done)))))⟩
def tr130_11 : Sch := ⟨[11], (.q 0 false (.q 1 false (.q 2 false (.q 3 false (.q 4 false (.q 5 false (.q 6 false (.q 7 true (.w 8 (.q 9 false (.q 10 false (.w 11 .done))))))))))))⟩
def tr139_9 : Sch := ⟨[], (.q 0 false (.q 1 false (.q 2 false (.q 3 true (.q 4 false (.q 5 true (.w 6 (.q 7 false (.q 8 false .done)))))))))⟩
def tr139_12 : Sch := ⟨[], (.q 0 false (.q 1 false (.q 2 false (.q 3 true (.q 4 false (.q 5 true (.w 6 (.q 7 false (.q 8 false .done)))))))))⟩
def tr139_14 : Sch := ⟨[], (.q 0 false (.q 1 false (.q 2 false (.q 3 true (.q 4 false (.q 5 true (.w 6 (.q 7 false (.q 8 false .done)))))))))⟩
def tr139_16 : Sch := ⟨[], (.q 0 false (.q 1 false (.q 2 false (.q 3 true (.q 4 false (.q 5 true (.w 6 (.q 7 false (.q 8 false (.q 9 false (.q 10 false (.q 11 false .done))))))))))))⟩
def tr139_19 : Sch := ⟨[], (.q 0 false (.q 1 false (.q 2 false (.q 3 true (.q 4 false (.q 5 true (.w 6 (.q 7 false (.q 8 false .done)))))))))⟩
def tr144_23 : Sch := ⟨[], (.q 0 false (.q 1 false (.q 2 false (.q 3 false (.q 4 false (.q 5 false (.q 6 false (.q 7 false (.q 8 false (.q 9 false (.w 10 (.w 11 (.w 12 (.q 13 false .done))))))))))))))⟩
def tr152_1 : Sch := ⟨[], (.q 0 false (.q 1 false (.q 2 false (.q 3 true (.q 4 false (.q 5 false (.q 6 false (.q 7 true (.q 8 false (.q 9 false .done))))))))))⟩
def tr152_2 : Sch := ⟨[], (.q 0 false (.q 1 false (.q 2 false (.q 3 false (.q 4 true (.q 5 false (.q 6 false (.q 7 false (.q 8 true (.w 9 (.q 10 false (.q 11 false (.w 12 .done)))))))))))))⟩
def tr152_3 : Sch := ⟨[], (.q 0 false (.q 1 false (.q 2 false (.q 3 false (.q 4 false (.q 5 false (.q 6 false (.q 7 false (.q 8 false (.q 9 false (.q 10 false (.q 11 false (.q 12 true (.w 13 (.q 14 false (.q 15 false (.w 16 .done)))))))))))))))))⟩
def tr155_7 : Sch := ⟨[], (.q 0 false (.q 1 false (.q 2 false (.q 3 true (.q 4 false (.q 5 true (.w 6 (.q 7 false (.q 8 false (.q 9 false (.q 10 false (.q 11 false .done))))))))))))⟩
def tr158_1 : Sch := ⟨[], (.q 0 false (.q 1 false (.q 2 false (.q 3 false (.q 7 false (.w 4 (.w 5 (.q 6 false (.q 8 false .done)))))))))⟩
def tr160_5 : Sch := ⟨[], (.q 0 false (.q 1 false (.q 2 true (.q 3 false (.q 4 true (.w 5 (.q 6 false (.q 7 false (.q 8 true (.q 9 false (.q 10 false .done)))))))))))⟩
def tr160_11 : Sch := ⟨[], (.q 0 false (.q 1 false (.q 2 true (.q 3 false (.q 4 false (.q 5 true (.q 6 false (.q 7 false (.q 8 false (.q 9 false (.q 10 true (.q 11 false (.q 12 false (.q 13 true (.q 14 false (.q 15 false (.q 16 false (.q 17 false .done))))))))))))))))))⟩
def tr160_13 : Sch := ⟨[], (.q 0 false (.q 1 false (.q 2 false (.q 3 false (.q 4 true (.w 5 (.q 6 false (.q 7 false .done))))))))⟩
def tr160_15 : Sch := ⟨[], (.q 0 false (.q 1 true (.q 2 false (.q 3 false (.q 4 true (.q 5 false (.q 6 false (.q 7 true (.w 8 (.q 9 false (.q 10 false (.q 11 false (.q 12 false .done)))))))))))))⟩
def tr160_17 : Sch := ⟨[], (.q 0 false (.q 1 false (.q 2 true (.q 3 false (.q 4 false (.q 5 false .done))))))⟩
def tr160_18 : Sch := ⟨[], (.q 0 false (.q 1 false (.q 2 false (.q 3 false (.q 4 false (.q 5 true (.w 6 (.q 7 false (.q 8 false .done)))))))))⟩
def tr165_0 : Sch := ⟨[14], (.q 0 false (.q 1 false (.q 2 false (.q 3 false (.q 4 false (.q 5 false (.q 6 false (.q 7 false (.b 8 (.q 9 false (.q 10 false (.q 11 false (.q 12 false (.w 13 (.w 14 (.q 15 false (.q 16 false .done)))))))) 13 (.w 8 (.q 9 false (.q 10 false (.q 11 false (.q 12 false (.w 14 (.q 15 false (.q 16 false .done)))))))))))))))))⟩
def tr165_4 : Sch := ⟨[], (.q 0 false (.q 1 false (.q 2 false (.q 3 true (.q 4 false (.q 5 false (.q 6 false (.q 7 true (.w 8 (.q 9 false .done))))))))))⟩
def tr170_6 : Sch := ⟨[], (.q 0 false (.q 1 false (.q 2 false (.q 3 false (.q 5 false (.b 4 (.w 6 (.q 7 false (.q 8 false .done))) 6 (.w 4 (.q 7 false (.q 8 false .done)))))))))⟩
def tr179_13 : Sch := ⟨[11], (.q 0 false (.q 1 false (.q 2 false (.q 3 false (.q 4 false (.q 5 false (.q 6 false (.q 9 false (.w 7 (.w 8 (.w 10 (.w 11 .done))))))))))))⟩
def tr184_1 : Sch := ⟨[], (.q 0 false (.w 1 (.q 2 false (.q 3 false (.q 4 false (.q 5 false (.q 6 true (.q 7 false (.q 8 false (.q 9 false (.q 10 true (.q 11 false (.q 12 false (.q 13 false .done))))))))))))))⟩
def tr184_3 : Sch := ⟨[10], (.q 0 false (.q 1 false (.q 2 false (.q 3 true (.q 4 false (.q 5 false (.q 6 false (.q 7 true (.q 8 false (.q 9 true (.w 10 .done)))))))))))⟩
def tr196_5 : Sch := ⟨[5, 7], (.q 0 false (.q 1 true (.q 2 false (.q 3 true (.q 4 false (.w 5 (.q 6 false (.w 7 .done))))))))⟩
def tr196_30 : Sch := ⟨[], (.q 0 false (.q 1 false (.q 2 false (.q 3 false (.w 4 (.q 5 false (.q 6 false (.q 7 false (.q 8 false (.q 9 false (.q 10 false (.q 11 false (.q 12 false (.q 13 false (.w 14 .done)))))))))))))))⟩
def tr197_1 : Sch := ⟨[], (.q 0 false (.q 1 true (.q 2 false (.q 3 false (.q 4 true (.q 5 false (.q 6 false (.q 7 false .done))))))))⟩
def tr202_6 : Sch := ⟨[], (.q 0 false (.q 2 false (.q 3 false (.w 1 (.w 4 (.q 5 false .done))))))⟩
def tr204_1 : Sch := ⟨[], (.q 0 false (.q 1 false (.q 2 false (.q 3 false (.q 4 false (.q 6 false (.q 7 false (.w 5 (.w 8 (.q 9 false (.q 10 false .done)))))))))))⟩
def tr207_8 : Sch := ⟨[7], (.q 0 true (.q 1 false (.q 2 true (.q 3 false (.q 4 true (.q 5 false (.q 6 false (.w 7 (.q 8 false (.q 9 false .done))))))))))⟩
def tr210_3 : Sch := ⟨[11, 13], (.q 0 false (.q 1 false (.q 2 false (.q 3 false (.q 4 true (.q 5 false (.q 6 false (.q 7 false (.q 8 false (.q 9 true (.q 10 false (.w 11 (.q 12 false (.w 13 .done))))))))))))))⟩
def tr212_5 : Sch := ⟨[7], (.q 0 false (.q 1 false (.q 2 false (.w 3 (.w 4 (.w 5 (.q 6 false (.w 7 .done))))))))⟩
def tr212_10 : Sch := ⟨[7], (.q 0 false (.q 1 false (.q 2 false (.w 3 (.w 4 (.w 5 (.q 6 false (.w 7 .done))))))))⟩
def tr213_4 : Sch := ⟨[], (.q 0 false (.q 1 false (.q 3 false (.q 4 false (.q 5 false (.q 6 false (.b 2 (.q 8 false (.w 7 (.q 9 false .done))) 7 (.w 2 (.q 8 false (.q 9 false .done))))))))))⟩
def tr235_7 : Sch := ⟨[], (.q 0 false (.q 1 false (.q 2 true (.q 3 false (.q 4 false (.q 5 false .done))))))⟩
def tr251_10 : Sch := ⟨[8], (.q 0 false (.q 1 false (.q 2 false (.q 3 false (.w 4 (.w 5 (.w 6 (.q 7 false (.w 8 .done)))))))))⟩
def trs6 (i : Nat) : Option Sch := bif i == 11 then some tr6_11 else bif i == 14 then some tr6_14 else bif i == 17 then some tr6_17 else none
def trs8 (i : Nat) : Option Sch := bif i == 10 then some tr8_10 else none
def trs9 (i : Nat) : Option Sch := bif i == 10 then some tr9_10 else bif i == 12 then some tr9_12 else bif i == 14 then some tr9_14 else none
def trs26 (i : Nat) : Option Sch := bif i == 11 then some tr26_11 else none
def trs27 (i : Nat) : Option Sch := bif i == 19 then some tr27_19 else none
def trs28 (i : Nat) : Option Sch := bif i == 4 then some tr28_4 else none
def trs30 (i : Nat) : Option Sch := bif i == 4 then some tr30_4 else none
def trs34 (i : Nat) : Option Sch := bif i == 4 then some tr34_4 else none
def trs35 (i : Nat) : Option Sch := bif i == 12 then some tr35_12 else none
def trs37 (i : Nat) : Option Sch := bif i == 7 then some tr37_7 else none
def trs40 (i : Nat) : Option Sch := bif i == 14 then some tr40_14 else bif i == 19 then some tr40_19 else none
def trs41 (i : Nat) : Option Sch := bif i == 1 then some tr41_1 else bif i == 6 then some tr41_6 else bif i == 7 then some tr41_7 else bif i == 17 then some tr41_17 else none
def trs44 (i : Nat) : Option Sch := bif i == 5 then some tr44_5 else none
def trs45 (i : Nat) : Option Sch := bif i == 6 then some tr45_6 else none
def trs46 (i : Nat) : Option Sch := bif i == 1 then some tr46_1 else none
def trs47 (i : Nat) : Option Sch := bif i == 5 then some tr47_5 else bif i == 8 then some tr47_8 else bif i == 11 then some tr47_11 else none
def trs60 (i : Nat) : Option Sch := bif i == 16 then some tr60_16 else bif i == 17 then some tr60_17 else none
def trs61 (i : Nat) : Option Sch := bif i == 3 then some tr61_3 else bif i == 9 then some tr61_9 else none
def trs62 (i : Nat) : Option Sch := bif i == 6 then some tr62_6 else none
def trs63 (i : Nat) : Option Sch := bif i == 8 then some tr63_8 else none
def trs64 (i : Nat) : Option Sch := bif i == 6 then some tr64_6 else bif i == 8 then some tr64_8 else bif i == 12 then some tr64_12 else none
def trs65 (i : Nat) : Option Sch := bif i == 5 then some tr65_5 else none
def trs67 (i : Nat) : Option Sch := bif i == 17 then some tr67_17 else bif i == 19 then some tr67_19 else none
def trs70 (i : Nat) : Option Sch := bif i == 5 then some tr70_5 else bif i == 7 then some tr70_7 else none
def trs71 (i : Nat) : Option Sch := bif i == 15 then some tr71_15 else bif i == 16 then some tr71_16 else bif i == 22 then some tr71_22 else bif i == 23 then some tr71_23 else none
def trs73 (i : Nat) : Option Sch := bif i == 13 then some tr73_13 else bif i == 18 then some tr73_18 else none
def trs80 (i : Nat) : Option Sch := bif i == 13 then some tr80_13 else none
def trs82 (i : Nat) : Option Sch := bif i == 5 then some tr82_5 else bif i == 7 then some tr82_7 else bif i == 10 then some tr82_10 else bif i == 13 then some tr82_13 else none
def trs88 (i : Nat) : Option Sch := bif i == 11 then some tr88_11 else none
def trs92 (i : Nat) : Option Sch := bif i == 14 then some tr92_14 else none
def trs93 (i : Nat) : Option Sch := bif i == 8 then some tr93_8 else bif i == 25 then some tr93_25 else bif i == 30 then some tr93_30 else none
def trs94 (i : Nat) : Option Sch := bif i == 8 then some tr94_8 else bif i == 25 then some tr94_25 else bif i == 30 then some tr94_30 else none
def trs95 (i : Nat) : Option Sch := bif i == 8 then some tr95_8 else bif i == 25 then some tr95_25 else bif i == 30 then some tr95_30 else none
def trs96 (i : Nat) : Option Sch := bif i == 8 then some tr96_8 else bif i == 25 then some tr96_25 else bif i == 30 then some tr96_30 else none
def trs97 (i : Nat) : Option Sch := bif i == 8 then some tr97_8 else bif i == 25 then some tr97_25 else bif i == 30 then some tr97_30 else none
def trs98 (i : Nat) : Option Sch := bif i == 8 then some tr98_8 else bif i == 25 then some tr98_25 else bif i == 30 then some tr98_30 else none
def trs99 (i : Nat) : Option Sch := bif i == 8 then some tr99_8 else bif i == 25 then some tr99_25 else bif i == 30 then some tr99_30 else none
def trs100 (i : Nat) : Option Sch := bif i == 8 then some tr100_8 else bif i == 25 then some tr100_25 else bif i == 30 then some tr100_30 else none
def trs101 (i : Nat) : Option Sch := bif i == 8 then some tr101_8 else bif i == 25 then some tr101_25 else bif i == 30 then some tr101_30 else none
def trs102 (i : Nat) : Option Sch := bif i == 8 then some tr102_8 else bif i == 25 then some tr102_25 else bif i == 30 then some tr102_30 else none
def trs103 (i : Nat) : Option Sch := bif i == 8 then some tr103_8 else bif i == 25 then some tr103_25 else bif i == 30 then some tr103_30 else none
def trs107 (i : Nat) : Option Sch := bif i == 4 then some tr107_4 else bif i == 8 then some tr107_8 else none
def trs109 (i : Nat) : Option Sch := bif i == 1 then some tr109_1 else none
def trs118 (i : Nat) : Option Sch := bif i == 6 then some tr118_6 else none
def trs120 (i : Nat) : Option Sch := bif i == 6 then some tr120_6 else bif i == 10 then some tr120_10 else bif i == 14 then some tr120_14 else none
def trs121 (i : Nat) : Option Sch := bif i == 3 then some tr121_3 else none
def trs127 (i : Nat) : Option Sch := bif i == 1 then some tr127_1 else none
def trs130 (i : Nat) : Option Sch := bif i == 11 then some tr130_11 else none
def trs139 (i : Nat) : Option Sch := bif i == 9 then some tr139_9 else bif i == 12 then some tr139_12 else bif i == 14 then some tr139_14 else bif i == 16 then some tr139_16 else bif i == 19 then some tr139_19 else none
def trs144 (i : Nat) : Option Sch := bif i == 23 then some tr144_23 else none
def trs152 (i : Nat) : Option Sch := bif i == 1 then some tr152_1 else bif i == 2 then some tr152_2 else bif i == 3 then some tr152_3 else none
def trs155 (i : Nat) : Option Sch := bif i == 7 then some tr155_7 else none
def trs158 (i : Nat) : Option Sch := bif i == 1 then some tr158_1 else none
def trs160 (i : Nat) : Option Sch := bif i == 5 then some tr160_5 else bif i == 11 then some tr160_11 else bif i == 13 then some tr160_13 else bif i == 15 then some tr160_15 else bif i == 17 then some tr160_17 else bif i == 18 then some tr160_18 else none
def trs165 (i : Nat) : Option Sch := bif i == 0 then some tr165_0 else bif i == 4 then some tr165_4 else none
def trs170 (i : Nat) : Option Sch := bif i == 6 then some tr170_6 else none
def trs179 (i : Nat) : Option Sch := bif i == 13 then some tr179_13 else none
def trs184 (i : Nat) : Option Sch := bif i == 1 then some tr184_1 else bif i == 3 then some tr184_3 else none
def trs196 (i : Nat) : Option Sch := bif i == 5 then some tr196_5 else bif i == 30 then some tr196_30 else none
def trs197 (i : Nat) : Option Sch := bif i == 1 then some tr197_1 else none
def trs202 (i : Nat) : Option Sch := bif i == 6 then some tr202_6 else none
def trs204 (i : Nat) : Option Sch := bif i == 1 then some tr204_1 else none
def trs207 (i : Nat) : Option Sch := bif i == 8 then some tr207_8 else none
def trs210 (i : Nat) : Option Sch := bif i == 3 then some tr210_3 else none
def trs212 (i : Nat) : Option Sch := bif i == 5 then some tr212_5 else bif i == 10 then some tr212_10 else none
def trs213 (i : Nat) : Option Sch := bif i == 4 then some tr213_4 else none
def trs235 (i : Nat) : Option Sch := bif i == 7 then some tr235_7 else none
def trs251 (i : Nat) : Option Sch := bif i == 10 then some tr251_10 else none
def trs (f i : Nat) : Option Sch := (bif Nat.blt f 97 then (bif Nat.blt f 61 then (bif Nat.blt f 35 then (bif Nat.blt f 27 then (bif Nat.blt f 9 then (bif Nat.blt f 8 then (bif f == 6 then trs6 i else none) else (bif f == 8 then trs8 i else none)) else (bif Nat.blt f 26 then (bif f == 9 then trs9 i else none) else (bif f == 26 then trs26 i else none))) else (bif Nat.blt f 30 then (bif Nat.blt f 28 then (bif f == 27 then trs27 i else none) else (bif f == 28 then trs28 i else none)) else (bif Nat.blt f 34 then (bif f == 30 then trs30 i else none) else (bif f == 34 then trs34 i else none)))) else (bif Nat.blt f 44 then (bif Nat.blt f 40 then (bif Nat.blt f 37 then (bif f == 35 then trs35 i else none) else (bif f == 37 then trs37 i else none)) else (bif Nat.blt f 41 then (bif f == 40 then trs40 i else none) else (bif f == 41 then trs41 i else none))) else (bif Nat.blt f 46 then (bif Nat.blt f 45 then (bif f == 44 then trs44 i else none) else (bif f == 45 then trs45 i else none)) else (bif Nat.blt f 47 then (bif f == 46 then trs46 i else none) else (bif Nat.blt f 60 then (bif f == 47 then trs47 i else none) else (bif f == 60 then trs60 i else none)))))) else (bif Nat.blt f 73 then (bif Nat.blt f 65 then (bif Nat.blt f 63 then (bif Nat.blt f 62 then (bif f == 61 then trs61 i else none) else (bif f == 62 then trs62 i else none)) else (bif Nat.blt f 64 then (bif f == 63 then trs63 i else none) else (bif f == 64 then trs64 i else none))) else (bif Nat.blt f 70 then (bif Nat.blt f 67 then (bif f == 65 then trs65 i else none) else (bif f == 67 then trs67 i else none)) else (bif Nat.blt f 71 then (bif f == 70 then trs70 i else none) else (bif f == 71 then trs71 i else none)))) else (bif Nat.blt f 92 then (bif Nat.blt f 82 then (bif Nat.blt f 80 then (bif f == 73 then trs73 i else none) else (bif f == 80 then trs80 i else none)) else (bif Nat.blt f 88 then (bif f == 82 then trs82 i else none) else (bif f == 88 then trs88 i else none))) else (bif Nat.blt f 94 then (bif Nat.blt f 93 then (bif f == 92 then trs92 i else none) else (bif f == 93 then trs93 i else none)) else (bif Nat.blt f 95 then (bif f == 94 then trs94 i else none) else (bif Nat.blt f 96 then (bif f == 95 then trs95 i else none) else (bif f == 96 then trs96 i else none))))))) else (bif Nat.blt f 155 then (bif Nat.blt f 109 then (bif Nat.blt f 101 then (bif Nat.blt f 99 then (bif Nat.blt f 98 then (bif f == 97 then trs97 i else none) else (bif f == 98 then trs98 i else none)) else (bif Nat.blt f 100 then (bif f == 99 then trs99 i else none) else (bif f == 100 then trs100 i else none))) else (bif Nat.blt f 103 then (bif Nat.blt f 102 then (bif f == 101 then trs101 i else none) else (bif f == 102 then trs102 i else none)) else (bif Nat.blt f 107 then (bif f == 103 then trs103 i else none) else (bif f == 107 then trs107 i else none)))) else (bif Nat.blt f 127 then (bif Nat.blt f 120 then (bif Nat.blt f 118 then (bif f == 109 then trs109 i else none) else (bif f == 118 then trs118 i else none)) else (bif Nat.blt f 121 then (bif f == 120 then trs120 i else none) else (bif f == 121 then trs121 i else none))) else (bif Nat.blt f 139 then (bif Nat.blt f 130 then (bif f == 127 then trs127 i else none) else (bif f == 130 then trs130 i else none)) else (bif Nat.blt f 144 then (bif f == 139 then trs139 i else none) else (bif Nat.blt f 152 then (bif f == 144 then trs144 i else none) else (bif f == 152 then trs152 i else none)))))) else (bif Nat.blt f 197 then (bif Nat.blt f 170 then (bif Nat.blt f 160 then (bif Nat.blt f 158 then (bif f == 155 then trs155 i else none) else (bif f == 158 then trs158 i else none)) else (bif Nat.blt f 165 then (bif f == 160 then trs160 i else none) else (bif f == 165 then trs165 i else none))) else (bif Nat.blt f 184 then (bif Nat.blt f 179 then (bif f == 170 then trs170 i else none) else (bif f == 179 then trs179 i else none)) else (bif Nat.blt f 196 then (bif f == 184 then trs184 i else none) else (bif f == 196 then trs196 i else none)))) else (bif Nat.blt f 210 then (bif Nat.blt f 204 then (bif Nat.blt f 202 then (bif f == 197 then trs197 i else none) else (bif f == 202 then trs202 i else none)) else (bif Nat.blt f 207 then (bif f == 204 then trs204 i else none) else (bif f == 207 then trs207 i else none))) else (bif Nat.blt f 213 then (bif Nat.blt f 212 then (bif f == 210 then trs210 i else none) else (bif f == 212 then trs212 i else none)) else (bif Nat.blt f 235 then (bif f == 213 then trs213 i else none) else (bif Nat.blt f 251 then (bif f == 235 then trs235 i else none) else (bif f == 251 then trs251 i else none))))))))
end Go.Proofs.YtknocbhocdenoaaGreatDoor
