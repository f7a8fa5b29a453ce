/- A world for the witness. -/
import Derived.Test.YtkjopcbleefioaaGreatDoorJ1
namespace Go.Proofs.YtkjopcbleefioaaGreatDoor
open Go Go.RowKit Go.ChangeShapes Go.WideShapes Go.ChangeAt
set_option linter.unusedSimpArgs false
set_option linter.unusedVariables false

/-- The cells of a list of numbers, or of pairs of them. -/
def numCell : DataW Unit → List Value
  | .lit (.int k z) => [.int k z]
  | _ => []
def rowCells : DataW Unit → List Value
  | .agg parts => parts.flatMap fun d => match d with
    | .agg q => q.flatMap numCell
    | d => numCell d
  | _ => []
/-- THE WITNESS: the settled world with two blocks more (what strconv.ErrSyntax and strconv.ErrRange point to), the seven variables holding what their initialisers lay. -/
noncomputable def laidWorld (os : Os) : World :=
  let N := (World.settled Tryz.prog os).heap.size
  let w0 := World.holding Tryz.prog os ⟨#[.cells #[.string ⟨#[105, 110, 118, 97, 108, 105, 100, 32, 115, 121, 110, 116, 97, 120]⟩] 207, .cells #[.string ⟨#[118, 97, 108, 117, 101, 32, 111, 117, 116, 32, 111, 102, 32, 114, 97, 110, 103, 101]⟩] 207], #[], []⟩
  let put (h : Array Obj) (g : Nat) (cs : List Value) : Array Obj := h.modify g fun
    | .cells _ t frozen => .cells cs.toArray t frozen
    | o => o
  let h1 := put w0.heap 1 (rowCells Go.Pinned.utf8First)
  let h2 := put h1 2 (rowCells Rows.laid_unicode_utf8_acceptRanges)
  let h3 := put h2 3 [.iface 205 (.pointer (some ⟨N, 0, none⟩))]
  let h4 := put h3 4 [.iface 205 (.pointer (some ⟨N + 1, 0, none⟩))]
  let h5 := put h4 5 (rowCells Rows.laid_internal_strconv_uint64pow10)
  let h6 := put h5 6 (rowCells Rows.laid_math_bits_deBruijn32tab)
  let h7 := put h6 7 (rowCells Rows.laid_math_bits_deBruijn64tab)
  { w0 with heap := h7 }
set_option maxRecDepth 100000 in
theorem laid_met (os : Os) (args : Array Value) : laidMet Tryz.prog laidL ((laidWorld os).forCall (fun _ _ => 0) ⟨#[], args, []⟩).memory :=
  laidMet_of_run' 12 (by kernel_rfl) (by kernel_rfl)
end Go.Proofs.YtkjopcbleefioaaGreatDoor
