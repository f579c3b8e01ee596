/- The head of the program's text, word by word: what the rows' closed facts ask of it. No condition. -/
import Derived.Test.YtgpfiefhhlejfaaQBase
import Derived.Test.YtgpfiefhhlejfaaRows
import Derived.KernelRfl
namespace Go.Proofs.Ytgpfiefhhlejfaa
set_option linter.unusedVariables false

/-- The signs of the head's last word, by their numbers. -/
def headCodes : List Nat := [104, 97, 114, 110, 101, 115, 115, 32, 54, 55, 102, 102, 52, 54, 52, 48, 54, 100, 102, 98, 49, 102, 102, 100, 100, 98, 98, 52, 56, 57, 99, 49, 98, 48, 102, 52, 49, 98, 100, 55, 55, 57, 55, 56, 101, 51, 49, 56, 54, 52, 50, 101, 48, 53, 54, 99, 48, 52, 98, 97, 98, 53, 102, 102, 101, 53, 52, 55, 51, 52, 101, 98, 32, 99, 117, 116, 32, 97, 116, 32, 108, 111, 111, 112, 46, 101, 120, 97, 109, 112, 108, 101, 47, 103, 48, 48, 56, 55, 55, 47, 108, 97, 119, 115, 46, 70, 110, 68, 101, 112, 101, 110, 100, 115, 32, 108, 111, 111, 112, 46, 101, 120, 97, 109, 112, 108, 101, 47, 103, 48, 48, 56, 55, 55, 47, 108, 97, 119, 115, 46, 70, 110, 69, 120, 97, 99, 116, 78, 101, 116, 119, 111, 114, 107, 67, 105, 114, 99, 117, 105, 116]
theorem head_io : Try.pinned.checked.prog.initOrder.toList = headCodes.map Char.ofNat := by
  have h : Try.pinned.checked.prog.initOrder = String.ofList (headCodes.map Char.ofNat) := by kernel_rfl
  rw [h]; exact String.toList_ofList
/-- The words behind the harness' two words, by their signs' numbers. -/
def headWords : List (List Char) := [[Char.ofNat 99, Char.ofNat 117, Char.ofNat 116], [Char.ofNat 97, Char.ofNat 116], [Char.ofNat 108, Char.ofNat 111, Char.ofNat 111, Char.ofNat 112, Char.ofNat 46, Char.ofNat 101, Char.ofNat 120, Char.ofNat 97, Char.ofNat 109, Char.ofNat 112, Char.ofNat 108, Char.ofNat 101, Char.ofNat 47, Char.ofNat 103, Char.ofNat 48, Char.ofNat 48, Char.ofNat 56, Char.ofNat 55, Char.ofNat 55, Char.ofNat 47, Char.ofNat 108, Char.ofNat 97, Char.ofNat 119, Char.ofNat 115, Char.ofNat 46, Char.ofNat 70, Char.ofNat 110, Char.ofNat 68, Char.ofNat 101, Char.ofNat 112, Char.ofNat 101, Char.ofNat 110, Char.ofNat 100, Char.ofNat 115], [Char.ofNat 108, Char.ofNat 111, Char.ofNat 111, Char.ofNat 112, Char.ofNat 46, Char.ofNat 101, Char.ofNat 120, Char.ofNat 97, Char.ofNat 109, Char.ofNat 112, Char.ofNat 108, Char.ofNat 101, Char.ofNat 47, Char.ofNat 103, Char.ofNat 48, Char.ofNat 48, Char.ofNat 56, Char.ofNat 55, Char.ofNat 55, Char.ofNat 47, Char.ofNat 108, Char.ofNat 97, Char.ofNat 119, Char.ofNat 115, Char.ofNat 46, Char.ofNat 70, Char.ofNat 110, Char.ofNat 69, Char.ofNat 120, Char.ofNat 97, Char.ofNat 99, Char.ofNat 116, Char.ofNat 78, Char.ofNat 101, Char.ofNat 116, Char.ofNat 119, Char.ofNat 111, Char.ofNat 114, Char.ofNat 107, Char.ofNat 67, Char.ofNat 105, Char.ofNat 114, Char.ofNat 99, Char.ofNat 117, Char.ofNat 105, Char.ofNat 116]]
theorem head_words : behindMainWord (wordsSigns Try.pinned.checked.prog.initOrder.toList) = headWords := by rw [head_io]; kernel_rfl
theorem head_lifts_of (P : Program) (h2 : behindMainWord (wordsSigns P.initOrder.toList) = headWords) : P.headLifts = [] := by
  unfold Program.headLifts; rw [h2]; kernel_rfl
theorem head_make_of (P : Program) (h1 : P.headLifts = []) (h2 : behindMainWord (wordsSigns P.initOrder.toList) = headWords) : P.make = some .cut := by
  unfold Program.make; rw [h2]; kernel_rfl
theorem head_final_of (P : Program) (h1 : P.headLifts = []) (h2 : behindMainWord (wordsSigns P.initOrder.toList) = headWords) : P.liftsFinal = false := by
  unfold Program.liftsFinal; rw [h2, h1]; kernel_rfl
theorem head_enter_of (P : Program) (h2 : behindMainWord (wordsSigns P.initOrder.toList) = headWords) (h3 : P.laysLater = false) (h4 : P.bearsReflect = false) (h5 : P.doorFits [] = true) : P.mayEnter = true := by
  have h6 : stripLifts liftWords ("cut".toList :: headWords.tail) = ([], "cut".toList :: headWords.tail) := by kernel_rfl
  have h7 : headWords = "cut".toList :: headWords.tail := by kernel_rfl
  unfold Program.mayEnter; rw [h2, h7]
  dsimp only
  rw [h6]
  generalize headWords.tail = r
  simp [h3, h4, h5]
theorem head_lifts : Try.pinned.checked.prog.headLifts = [] := head_lifts_of _ head_words
theorem head_make : Try.pinned.checked.prog.make = some .cut := head_make_of _ head_lifts head_words
theorem head_final : Try.pinned.checked.prog.liftsFinal = false := head_final_of _ head_lifts head_words
theorem head_enter : Try.pinned.checked.prog.mayEnter = true := head_enter_of _ head_words (by kernel_rfl) (by kernel_rfl) (by kernel_rfl)

end Go.Proofs.Ytgpfiefhhlejfaa
