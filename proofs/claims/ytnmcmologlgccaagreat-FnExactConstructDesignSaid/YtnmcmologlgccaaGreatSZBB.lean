/- Whether a ternary equation has a solution, by the symbols: both sides, and the law. No condition. -/
import Derived.Test.YtnmcmologlgccaaGreatSZBA
set_option linter.unusedVariables false
set_option linter.unusedSimpArgs false
namespace Go.Proofs.YtnmcmologlgccaaGreat
open Go.RowKit
def ab (a : Int) : Int := if a < 0 then -a else a
def good (a b p : Int) : Bool := hv a b p % 2 == 0
def facs2 (a b : Int) : List Int := facsOf (ab a) ++ facsOf (ab b)
def solves (a b : Int) : Bool := entB a && entB b && (good a b 0 && good a b 2 && (facs2 a b).all (good a b))
def isSq (n : Int) : Bool := (List.range 1001).any fun x => ((x : Int) * x == n)
def fails (v k l : Int) : List Int :=
  if okR v k l && okB v k l then
    if nB v k l < v then [3]
    else if nB v k l = v then
      (if v % 2 = 0 then (if isSq (k - l) then [] else [4])
       else if solves (k - l) (if v % 4 = 3 then -l else l) then [] else [5])
    else []
  else (if okR v k l then [] else [1]) ++ (if okB v k l then [] else [2])
end Go.Proofs.YtnmcmologlgccaaGreat
