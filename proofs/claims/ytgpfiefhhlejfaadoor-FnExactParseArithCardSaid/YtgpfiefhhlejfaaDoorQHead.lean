/- The head of the program's text, word by word: what the rows' closed facts ask of it. No condition. -/
import Derived.Test.YtgpfiefhhlejfaaDoorQBase
import Derived.Test.YtgpfiefhhlejfaaDoorRows
import Derived.KernelRfl
namespace Go.Proofs.YtgpfiefhhlejfaaDoor
set_option linter.unusedVariables false

/-- The signs of the head's last word, by their numbers. -/
def headCodes : List Nat := [104, 97, 114, 110, 101, 115, 115, 32, 100, 99, 51, 50, 50, 98, 97, 52, 49, 54, 48, 102, 98, 54, 49, 49, 102, 52, 52, 99, 102, 98, 98, 101, 55, 54, 102, 48, 100, 100, 98, 53, 97, 52, 101, 99, 56, 97, 54, 53, 100, 101, 102, 55, 102, 98, 53, 53, 51, 49, 57, 51, 98, 55, 55, 54, 50, 97, 55, 97, 101, 50, 51, 50, 32, 99, 117, 116, 32, 97, 116, 32, 108, 111, 111, 112, 46, 101, 120, 97, 109, 112, 108, 101, 47, 103, 48, 48, 56, 55, 55, 47, 108, 97, 119, 115, 46, 70, 110, 69, 120, 97, 99, 116, 67, 105, 114, 99, 117, 105, 116, 84, 101, 120, 116, 32, 108, 111, 111, 112, 46, 101, 120, 97, 109, 112, 108, 101, 47, 103, 48, 48, 56, 55, 55, 47, 108, 97, 119, 115, 46, 70, 110, 69, 120, 97, 99, 116, 65, 114, 105, 116, 104, 84, 101, 120, 116, 32, 108, 111, 111, 112, 46, 101, 120, 97, 109, 112, 108, 101, 47, 103, 48, 48, 56, 55, 55, 47, 108, 97, 119, 115, 46, 70, 110, 69, 120, 97, 99, 116, 80, 97, 114, 115, 101, 67, 105, 114, 99, 117, 105, 116, 32, 108, 111, 111, 112, 46, 101, 120, 97, 109, 112, 108, 101, 47, 103, 48, 48, 56, 55, 55, 47, 108, 97, 119, 115, 46, 70, 110, 69, 120, 97, 99, 116, 80, 97, 114, 115, 101, 65, 114, 105, 116, 104]
theorem head_io : Tryd.pinned.checked.prog.initOrder.toList = headCodes.map Char.ofNat := by
  have h : Tryd.pinned.checked.prog.initOrder = String.ofList (headCodes.map Char.ofNat) := by kernel_rfl
  rw [h]; exact String.toList_ofList
/-- The words behind the harness' two words, by their signs' numbers. -/
def headWords : List (List Char) := [[Char.ofNat 99, Char.ofNat 117, Char.ofNat 116], [Char.ofNat 97, Char.ofNat 116], [Char.ofNat 108, Char.ofNat 111, Char.ofNat 111, Char.ofNat 112, Char.ofNat 46, Char.ofNat 101, Char.ofNat 120, Char.ofNat 97, Char.ofNat 109, Char.ofNat 112, Char.ofNat 108, Char.ofNat 101, Char.ofNat 47, Char.ofNat 103, Char.ofNat 48, Char.ofNat 48, Char.ofNat 56, Char.ofNat 55, Char.ofNat 55, Char.ofNat 47, Char.ofNat 108, Char.ofNat 97, Char.ofNat 119, Char.ofNat 115, Char.ofNat 46, Char.ofNat 70, Char.ofNat 110, Char.ofNat 69, Char.ofNat 120, Char.ofNat 97, Char.ofNat 99, Char.ofNat 116, Char.ofNat 67, Char.ofNat 105, Char.ofNat 114, Char.ofNat 99, Char.ofNat 117, Char.ofNat 105, Char.ofNat 116, Char.ofNat 84, Char.ofNat 101, Char.ofNat 120, Char.ofNat 116], [Char.ofNat 108, Char.ofNat 111, Char.ofNat 111, Char.ofNat 112, Char.ofNat 46, Char.ofNat 101, Char.ofNat 120, Char.ofNat 97, Char.ofNat 109, Char.ofNat 112, Char.ofNat 108, Char.ofNat 101, Char.ofNat 47, Char.ofNat 103, Char.ofNat 48, Char.ofNat 48, Char.ofNat 56, Char.ofNat 55, Char.ofNat 55, Char.ofNat 47, Char.ofNat 108, Char.ofNat 97, Char.ofNat 119, Char.ofNat 115, Char.ofNat 46, Char.ofNat 70, Char.ofNat 110, Char.ofNat 69, Char.ofNat 120, Char.ofNat 97, Char.ofNat 99, Char.ofNat 116, Char.ofNat 65, Char.ofNat 114, Char.ofNat 105, Char.ofNat 116, Char.ofNat 104, Char.ofNat 84, Char.ofNat 101, Char.ofNat 120, Char.ofNat 116], [Char.ofNat 108, Char.ofNat 111, Char.ofNat 111, Char.ofNat 112, Char.ofNat 46, Char.ofNat 101, Char.ofNat 120, Char.ofNat 97, Char.ofNat 109, Char.ofNat 112, Char.ofNat 108, Char.ofNat 101, Char.ofNat 47, Char.ofNat 103, Char.ofNat 48, Char.ofNat 48, Char.ofNat 56, Char.ofNat 55, Char.ofNat 55, Char.ofNat 47, Char.ofNat 108, Char.ofNat 97, Char.ofNat 119, Char.ofNat 115, Char.ofNat 46, Char.ofNat 70, Char.ofNat 110, Char.ofNat 69, Char.ofNat 120, Char.ofNat 97, Char.ofNat 99, Char.ofNat 116, Char.ofNat 80, Char.ofNat 97, Char.ofNat 114, Char.ofNat 115, Char.ofNat 101, Char.ofNat 67, Char.ofNat 105, Char.ofNat 114, Char.ofNat 99, Char.ofNat 117, Char.ofNat 105, Char.ofNat 116], [Char.ofNat 108, Char.ofNat 111, Char.ofNat 111, Char.ofNat 112, Char.ofNat 46, Char.ofNat 101, Char.ofNat 120, Char.ofNat 97, Char.ofNat 109, Char.ofNat 112, Char.ofNat 108, Char.ofNat 101, Char.ofNat 47, Char.ofNat 103, Char.ofNat 48, Char.ofNat 48, Char.ofNat 56, Char.ofNat 55, Char.ofNat 55, Char.ofNat 47, Char.ofNat 108, Char.ofNat 97, Char.ofNat 119, Char.ofNat 115, Char.ofNat 46, Char.ofNat 70, Char.ofNat 110, Char.ofNat 69, Char.ofNat 120, Char.ofNat 97, Char.ofNat 99, Char.ofNat 116, Char.ofNat 80, Char.ofNat 97, Char.ofNat 114, Char.ofNat 115, Char.ofNat 101, Char.ofNat 65, Char.ofNat 114, Char.ofNat 105, Char.ofNat 116, Char.ofNat 104]]
theorem head_words : behindMainWord (wordsSigns Tryd.pinned.checked.prog.initOrder.toList) = headWords := by rw [head_io]; kernel_rfl
theorem head_lifts_of (P : Program) (h2 : behindMainWord (wordsSigns P.initOrder.toList) = headWords) : P.headLifts = [] := by
  unfold Program.headLifts; rw [h2]; kernel_rfl
theorem head_make_of (P : Program) (h1 : P.headLifts = []) (h2 : behindMainWord (wordsSigns P.initOrder.toList) = headWords) : P.make = some .cut := by
  unfold Program.make; rw [h2]; kernel_rfl
theorem head_final_of (P : Program) (h1 : P.headLifts = []) (h2 : behindMainWord (wordsSigns P.initOrder.toList) = headWords) : P.liftsFinal = false := by
  unfold Program.liftsFinal; rw [h2, h1]; kernel_rfl
theorem head_enter_of (P : Program) (h2 : behindMainWord (wordsSigns P.initOrder.toList) = headWords) (h3 : P.laysLater = false) (h4 : P.bearsReflect = false) (h5 : P.doorFits [] = true) : P.mayEnter = true := by
  have h6 : stripLifts liftWords ("cut".toList :: headWords.tail) = ([], "cut".toList :: headWords.tail) := by kernel_rfl
  have h7 : headWords = "cut".toList :: headWords.tail := by kernel_rfl
  unfold Program.mayEnter; rw [h2, h7]
  dsimp only
  rw [h6]
  generalize headWords.tail = r
  simp [h3, h4, h5]
theorem head_lifts : Tryd.pinned.checked.prog.headLifts = [] := head_lifts_of _ head_words
theorem head_make : Tryd.pinned.checked.prog.make = some .cut := head_make_of _ head_lifts head_words
theorem head_final : Tryd.pinned.checked.prog.liftsFinal = false := head_final_of _ head_lifts head_words
theorem head_enter : Tryd.pinned.checked.prog.mayEnter = true := head_enter_of _ head_words (by kernel_rfl) (by kernel_rfl) (by kernel_rfl)

end Go.Proofs.YtgpfiefhhlejfaaDoor
