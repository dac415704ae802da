/-
  The table of quarters where it stands second of three tables that lie in their variables (what the calls of package 'unicode/utf8' bring with them).
-/
import Derived.Test.YthbmlkdijppkbaaDoorFrame
import Derived.LaidSub
import Derived.Lay
namespace Go.Proofs.YthbmlkdijppkbaaDoor
open Go.RowKit

theorem quarter_laid3 {W : World} (h : laidMetH Tryd.prog [("unicode/utf8.acceptRanges", Rows.laid_unicode_utf8_acceptRanges), ("bartizan/seal.quarter", Rows.laid_bartizan_seal_quarter), ("unicode/utf8.first", Rows.laid_unicode_utf8_first)] W) : Quarter W := by
  have h2 := laidMetH.filter (fun x => x.1 == "bartizan/seal.quarter") h
  rw [show List.filter (fun x : String × DataW Unit => x.1 == "bartizan/seal.quarter") [("unicode/utf8.acceptRanges", Rows.laid_unicode_utf8_acceptRanges), ("bartizan/seal.quarter", Rows.laid_bartizan_seal_quarter), ("unicode/utf8.first", Rows.laid_unicode_utf8_first)] = [("bartizan/seal.quarter", Rows.laid_bartizan_seal_quarter)] from by kernel_rfl] at h2
  exact quarter_laid h2
/-- A WORLD FOR THE WITNESS: the three tables laid -/
noncomputable def laidWorld3 (os : Os) : World := World.laidAll Tryd.prog os [("unicode/utf8.acceptRanges", Rows.laid_unicode_utf8_acceptRanges), ("bartizan/seal.quarter", Rows.laid_bartizan_seal_quarter), ("unicode/utf8.first", Rows.laid_unicode_utf8_first)]
theorem laidWorld3_met (os : Os) (args : Array Value) : laidMet Tryd.prog [("unicode/utf8.acceptRanges", Rows.laid_unicode_utf8_acceptRanges), ("bartizan/seal.quarter", Rows.laid_bartizan_seal_quarter), ("unicode/utf8.first", Rows.laid_unicode_utf8_first)] ((laidWorld3 os).forCall (fun _ _ => 0) ⟨#[], args, []⟩).memory :=
  laidMet_laidAll _ (by kernel_rfl) (by kernel_rfl)
end Go.Proofs.YthbmlkdijppkbaaDoor
