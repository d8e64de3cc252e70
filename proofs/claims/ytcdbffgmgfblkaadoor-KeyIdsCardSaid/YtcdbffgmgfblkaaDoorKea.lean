/- Keys of a word: real sums. -/
import Derived.Test.YtcdbffgmgfblkaaDoorHmg
namespace Go.Proofs.YtcdbffgmgfblkaaDoor
set_option linter.unusedVariables false
set_option linter.unusedSimpArgs false
open Go.RowKit

def wordB : List Nat := [119, 111, 114, 100]
def saltB : List Nat := [48, 49, 50, 51, 52, 53, 54, 55, 56, 57, 97, 98, 99, 100, 101, 102]
def hideB : List Nat := [104, 105, 100, 101]
def markB : List Nat := [109, 97, 114, 107]
def nameB : List Nat := [110, 97, 109, 101]
theorem real_ne : hmac (stretch wordB saltB 1) hideB ≠ hmac (stretch wordB saltB 1) markB ∧ hmac (stretch wordB saltB 1) nameB ≠ List.replicate 32 0 := by decide +kernel
end Go.Proofs.YtcdbffgmgfblkaaDoor
