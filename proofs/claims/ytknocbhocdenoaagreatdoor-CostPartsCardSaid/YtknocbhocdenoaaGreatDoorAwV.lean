/- Which variables are objects, which nobody writes any more: by function, slot. -/
import Derived.Test.YtknocbhocdenoaaGreatDoorAwU
namespace Go.Proofs.YtknocbhocdenoaaGreatDoor
open Go Go.RowKit

def objL : List (Nat × List Nat) := [(76, [11, 22]), (60, [11]), (90, [6, 7, 12]), (105, [6, 7, 12]), (10, [31]), (11, [31]),
  (25, [4, 6]), (6, [7, 9]), (47, [7, 9]), (69, [5]), (165, [37, 40]), (166, [12])]
def frozL : List (Nat × List Nat) := [(30, [14]), (63, [45]), (68, [1]), (69, [16]), (70, [12]), (79, [1]), (90, [3]), (105, [3]),
  (158, [11]), (179, [3, 4])]
def lookN : List (Nat × List Nat) → Nat → List Nat
  | [], _ => []
  | (k, x) :: r, t => bif k == t then x else lookN r t
/-- Functions that the interpreter doesn't read. -/
def primF (P : Program) (f : FuncId) : Option (Evl → List AV → St → Option (AEnd × St)) :=
  bif f == 132 then some (caughtF P) else
  bif f == 83 then some fun _ => valueOfF else
  bif f == 84 then some fun _ => vTypeF else
  bif f == 85 then some fun _ => vNilF else
  bif f == 161 then some fun _ => vElemF else
  bif f == 162 then some fun _ => vSetF else
  bif f == 124 then some fun _ => typeOfF else none
def cfgP (P : Program) : Cfg := { prims := primF P, tr := trs, objs := lookN objL, froz := lookN frozL }
noncomputable def cfg : Cfg := cfgP Tryz.prog
end Go.Proofs.YtknocbhocdenoaaGreatDoor
