/- strings.Trim of digits of ten. -/
import Derived.Test.YtmobeppmdakjmaaDoorL7
import Derived.Test.YtmobeppmdakjmaaDoorS3
import Derived.Test.YtmobeppmdakjmaaDoorM1
import Derived.Test.YtmobeppmdakjmaaDoorP1
namespace Go.Proofs.YtmobeppmdakjmaaDoor
open Go.RowKit

theorem trim_any (s : List UInt8) (hl : s.length ≤ 1000000) (w : World) :
    Calls Tryd.prog 38 #[.string ⟨s.toArray⟩, .string ⟨#[48, 49, 50, 51, 52, 53, 54, 55, 56, 57]⟩] w fun e w' => (∃ t : List UInt8, e = .returned (.string ⟨t.toArray⟩) ∧ (t == []) = digitsB 10 s) ∧ Below w.heap.size w w' := by
  refine (Tryd.strings_Trim ⟨s.toArray⟩ ⟨#[48, 49, 50, 51, 52, 53, 54, 55, 56, 57]⟩ w (by rw [size_str]; omega) (by decide) (ascii_of_all (by decide))).mono ?_
  rintro e w' ⟨rfl, hb⟩
  exact ⟨⟨_, rfl, trim_ten s⟩, hb⟩
#print axioms trim_any
end Go.Proofs.YtmobeppmdakjmaaDoor
