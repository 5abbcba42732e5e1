/- The law's messages out of seeds, plain. -/
import Derived.Test.YtcognpibphpadaaGreatDoorZSeed
set_option linter.unusedVariables false
set_option linter.unusedSimpArgs false
namespace Go.Proofs.YtcognpibphpadaaGreatDoor
open Go.RowKit

structure Sd where
  me : Int
  st : Int
  pa : B
  host : B
  vals : List B
  body : B
def mets : List B := [[71, 69, 84], [80, 85, 84], [80, 79, 83, 84], [68, 69, 76, 69, 84, 69], [72, 69, 65, 68], []]
def metOf (n : Int) : B := mets.getD (n % 6).toNat []
def xName (i : Nat) : B := [88, 45, (97 + i).toUInt8]
def vHeads : Nat → List B → List Hd
  | _, [] => []
  | i, v :: t => if i < 12 then (xName i, cleanF 200 false [] v) :: vHeads (i + 1) t else []
def madeM (x : Sd) : Msg :=
  if (metOf x.me).isEmpty = true then ⟨[], [], 100 + x.st % 500, vHeads 0 x.vals, x.body.take 2000⟩
  else ⟨metOf x.me, 47 :: cleanF 59 true [] x.pa, 0, (hostB, 104 :: cleanF 50 false [] x.host) :: vHeads 0 x.vals, x.body.take 2000⟩

end Go.Proofs.YtcognpibphpadaaGreatDoor
