/- Chapter 26: from a row's condition to the table of powers. -/
import Derived.Test.YtdedklofngjlkaaGreatDoorRows
import Derived.Test.YtdedklofngjlkaaGreatDoorEvTx
import Derived.Test.YtdedklofngjlkaaGreatDoorProg
import Derived.Stop.LaidErr
import Derived.LaidSub
import Derived.LaidMore
import Derived.MakeChecks
import Derived.KernelRfl
set_option linter.unusedVariables false
namespace Go.Proofs.YtdedklofngjlkaaGreatDoor
open Go.RowKit Go.Ev
theorem laid_tab {H : Type} : (Rows.laid_internal_strconv_uint64pow10 : DataW H) = Lib.tabData .u64 Lib.pow10Tab := by
  rw [← tabZ_eq]
  rfl
theorem tab_of_laid {W : World} (hL : laidMetH Tryz.prog Rows.shellTextsUptoRow.laid W) : Lib.TabIs Tryz.prog W tabName .u64 Lib.pow10Tab := by
  have h1 : laidMet Tryz.prog [("math/bits.deBruijn32tab", Rows.laid_math_bits_deBruijn32tab), ("math/bits.deBruijn64tab", Rows.laid_math_bits_deBruijn64tab), ("internal/strconv.uint64pow10", Rows.laid_internal_strconv_uint64pow10), ("strconv.ErrRange", Rows.laid_strconv_ErrRange), ("strconv.ErrSyntax", Rows.laid_strconv_ErrSyntax)] W := by
    rw [← Go.MakeChecks.laidMetH_plain _ _ _ (by decide)]
    exact hL
  have h2 := h1.tail.tail
  rw [laid_tab] at h2
  exact Lib.tabIs_of_head (g := 0) (t := 202) (e := 34) (n := 20) (by kernel_rfl) (by kernel_rfl) Tryz.underlying202 Tryz.underlying34 (by kernel_rfl) (by kernel_rfl) h2
end Go.Proofs.YtdedklofngjlkaaGreatDoor
