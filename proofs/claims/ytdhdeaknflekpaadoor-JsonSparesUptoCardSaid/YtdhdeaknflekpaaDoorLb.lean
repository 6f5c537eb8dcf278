/- The tables in the world for the witnesses. -/
import Derived.Test.YtdhdeaknflekpaaDoorLaid
namespace Go.Proofs.YtdhdeaknflekpaaDoor
open Go.ChangeShapes Go.WideShapes Go.ChangeAt Go.RowKit
set_option maxHeartbeats 8000000 in
set_option maxRecDepth 100000 in
theorem laid_in4 (os : Os) (args : Array Value) : LaidIn Tryd.prog ((laidWorld os).forCall (fun _ _ => 0) ⟨#[], args, []⟩).memory laid4 ([2] ++ ([3] ++ ([0] ++ [1]))) := by
  refine LaidIn.append (l := [("unicode/utf8.acceptRanges", Rows.laid_unicode_utf8_acceptRanges)]) (LaidIn.of_run [2] 8 (by as_aux_lemma => kernel_rfl) (by as_aux_lemma => kernel_rfl) (by as_aux_lemma => kernel_rfl) (by as_aux_lemma => kernel_rfl)) ?_ (by kernel_rfl)
  refine LaidIn.append (l := [("trellis/json.says", Rows.laid_trellis_json_says)]) (LaidIn.of_run [3] 8 (by as_aux_lemma => kernel_rfl) (by as_aux_lemma => kernel_rfl) (by as_aux_lemma => kernel_rfl) (by as_aux_lemma => kernel_rfl)) ?_ (by kernel_rfl)
  refine LaidIn.append (l := [("trellis/json.written", Rows.laid_trellis_json_written)]) (LaidIn.of_run [0] 8 (by as_aux_lemma => kernel_rfl) (by as_aux_lemma => kernel_rfl) (by as_aux_lemma => kernel_rfl) (by as_aux_lemma => kernel_rfl)) ?_ (by kernel_rfl)
  exact LaidIn.of_run [1] 8 (by as_aux_lemma => kernel_rfl) (by as_aux_lemma => kernel_rfl) (by as_aux_lemma => kernel_rfl) (by as_aux_lemma => kernel_rfl)
set_option maxHeartbeats 8000000 in
set_option maxRecDepth 100000 in
theorem laid_in7 (os : Os) (args : Array Value) : LaidIn Tryd.prog ((laidWorld os).forCall (fun _ _ => 0) ⟨#[], args, []⟩).memory laid7 ([6] ++ ([7] ++ ([4] ++ ([2] ++ ([3] ++ ([0] ++ [1])))))) := by
  refine LaidIn.append (l := [("math/bits.deBruijn32tab", Rows.laid_math_bits_deBruijn32tab)]) (LaidIn.of_run [6] 8 (by as_aux_lemma => kernel_rfl) (by as_aux_lemma => kernel_rfl) (by as_aux_lemma => kernel_rfl) (by as_aux_lemma => kernel_rfl)) ?_ (by kernel_rfl)
  refine LaidIn.append (l := [("math/bits.deBruijn64tab", Rows.laid_math_bits_deBruijn64tab)]) (LaidIn.of_run [7] 8 (by as_aux_lemma => kernel_rfl) (by as_aux_lemma => kernel_rfl) (by as_aux_lemma => kernel_rfl) (by as_aux_lemma => kernel_rfl)) ?_ (by kernel_rfl)
  refine LaidIn.append (l := [("internal/strconv.uint64pow10", Rows.laid_internal_strconv_uint64pow10)]) (LaidIn.of_run [4] 8 (by as_aux_lemma => kernel_rfl) (by as_aux_lemma => kernel_rfl) (by as_aux_lemma => kernel_rfl) (by as_aux_lemma => kernel_rfl)) ?_ (by kernel_rfl)
  exact laid_in4 os args
end Go.Proofs.YtdhdeaknflekpaaDoor
