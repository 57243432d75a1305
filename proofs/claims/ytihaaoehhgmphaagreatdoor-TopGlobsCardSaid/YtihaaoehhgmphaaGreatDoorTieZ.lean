/- The tie of the listed variables to the program's text; the rows' ties. Conditions: none. -/
import Derived.Test.YtihaaoehhgmphaaGreatDoorTieA
import Derived.Test.YtihaaoehhgmphaaGreatDoorTieB
import Derived.Test.YtihaaoehhgmphaaGreatDoorTieC
import Derived.Test.YtihaaoehhgmphaaGreatDoorTieD
import Derived.Test.YtihaaoehhgmphaaGreatDoorTieE
import Derived.Test.YtihaaoehhgmphaaGreatDoorTieF
import Derived.Test.YtihaaoehhgmphaaGreatDoorTieG
import Derived.Test.YtihaaoehhgmphaaGreatDoorTieH
import Derived.Test.YtihaaoehhgmphaaGreatDoorTieI
namespace Go.Proofs.YtihaaoehhgmphaaGreatDoor
open Go
theorem O3:Tryz.pinned.checked.prog.pinnedFits "unicode/utf8.first" =true:=by kernel_rfl
theorem aqa:Tryz.pinned.checked.prog.headLifts.contains "ownunsafe" =false:=by kernel_rfl
theorem UG:Tryz.pinned.checked.prog.listedFits [("unicode/utf8.first",Rows.laid_unicode_utf8_first),("unicode/utf8.acceptRanges",Rows.laid_unicode_utf8_acceptRanges),("internal/strconv.uint64pow10",Rows.laid_internal_strconv_uint64pow10),("math/bits.deBruijn32tab",Rows.laid_math_bits_deBruijn32tab),("math/bits.deBruijn64tab",Rows.laid_math_bits_deBruijn64tab),("strconv.ErrSyntax",Rows.laid_strconv_ErrSyntax),("strconv.ErrRange",Rows.laid_strconv_ErrRange)]=true:=by
 unfold Program.listedFits
 rw[aqa]
 kernel_rfl
theorem tie:Tryz.prog.laidByTextLater EF [.data,.data,.data,.data,.sentinel,.sentinel] true:=
 Program.laidByTextLater_by_run 400 8 aBF aBG aBH aBI aBJ aBK aBL aBM aBN
theorem aE5:Rows.topArithRow.laidByTextAt .later Tryz.pinned [.pinned,.data,.data,.data,.data,.sentinel,.sentinel] true:=
 OpenClaim.laidByTextAt_pinned rfl rfl tie rfl rfl rfl rfl (λy hy _e=>by
  simp only[Rows.topArithRow,List.zip_cons_cons,List.zip_nil_right,List.mem_cons,List.mem_nil_iff,or_false]at hy
  rcases hy with rfl|rfl|rfl|rfl|rfl|rfl|rfl
  .exact⟨O3,by kernel_rfl⟩
  .cases _e
  .cases _e
  .cases _e
  .cases _e
  .cases _e
  .cases _e) UG
theorem aE6:Rows.topPipesRow.laidByTextAt .later Tryz.pinned [.pinned,.data,.data,.data,.data,.sentinel,.sentinel] true:=
 OpenClaim.laidByTextAt_pinned rfl rfl tie rfl rfl rfl rfl (λy hy _e=>by
  simp only[Rows.topPipesRow,List.zip_cons_cons,List.zip_nil_right,List.mem_cons,List.mem_nil_iff,or_false]at hy
  rcases hy with rfl|rfl|rfl|rfl|rfl|rfl|rfl
  .exact⟨O3,by kernel_rfl⟩
  .cases _e
  .cases _e
  .cases _e
  .cases _e
  .cases _e
  .cases _e) UG
theorem anq:Rows.topGlobsRow.laidByTextAt .later Tryz.pinned [.pinned,.data,.data,.data,.data,.sentinel,.sentinel] true:=
 OpenClaim.laidByTextAt_pinned rfl rfl tie rfl rfl rfl rfl (λy hy _e=>by
  simp only[Rows.topGlobsRow,List.zip_cons_cons,List.zip_nil_right,List.mem_cons,List.mem_nil_iff,or_false]at hy
  rcases hy with rfl|rfl|rfl|rfl|rfl|rfl|rfl
  .exact⟨O3,by kernel_rfl⟩
  .cases _e
  .cases _e
  .cases _e
  .cases _e
  .cases _e
  .cases _e) UG
end Go.Proofs.YtihaaoehhgmphaaGreatDoor
