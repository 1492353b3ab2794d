/- The reference's Exif segments. -/
import Derived.Test.YtehnahikfemodaaRk
namespace Go.Proofs.Ytehnahikfemodaa.Ct
open Go.ChangeShapes Go.WideShapes Go.RowKit Mm
abbrev exifH : ByteArray := { data := #[69, 120, 105, 102, 0, 0] }
set_option maxHeartbeats 800000 in
theorem exifs45 (x : Ex) (w : World) : Calls Try.prog 45 #[.agg #[.int .u8 x.1, .string x.2]] w fun e w' => e = .returned (.bool (x.1 == 225 && begins x.2 exifH)) ∧ Only No w w' := by
  cases e1 : (x.1 == 225)
  · go_enter Try.func45, Try.ntmps45
    go_wp2_with fail
    go_ret
    exact ⟨by simp, (Only.refl _ _).alloc _⟩
  · go_enter Try.func45, Try.ntmps45
    go_wp2_with fail
    refine (begins50 x.2 exifH _).mono ?_
    rintro e w1 ⟨rfl, rfl⟩
    go_wp2_with fail
    go_ret
    exact ⟨by simp, (Only.refl _ _).alloc _⟩
end Go.Proofs.Ytehnahikfemodaa.Ct
