/- Walks: the law PathShort, every input. -/
import Derived.Test.YtpahiipfmccbiaaDoorF1
import Derived.Test.YtpahiipfmccbiaaDoorF2
import Derived.Test.YtpahiipfmccbiaaDoorF3
import Derived.Test.YtpahiipfmccbiaaDoorF4
import Derived.Test.YtpahiipfmccbiaaDoorF5
import Derived.Test.YtpahiipfmccbiaaDoorF6
namespace Go.Proofs.YtpahiipfmccbiaaDoor
open Go.RowKit

theorem short_law (p : List (List UInt8)) (A : Option Addr) (c : Nat) (name : List UInt8) (w : World) (hm : Mx 0 w) (hA : Rd w w.heap.size A (strV p)) (hc : p.length ≤ c) (hl : p.length ≤ 9223372036854775807) (hnl : name.length ≤ 9223372036854775807) :
    Calls Tryd.prog 4 #[.slice A p.length c, .string ⟨name.toArray⟩] w fun e w' => e = .returned (.bool true) ∧ Below w.heap.size w w' := by
  by_cases h : fewB p = true ∧ name.length ≤ 20
  · obtain ⟨hf, hn⟩ := h
    by_cases h1 : p.length = 1
    · obtain ⟨s, hp⟩ := List.length_eq_one_iff.1 h1
      by_cases h2 : s.length = 2
      · by_cases hd : drive (runes s) = true
        · obtain ⟨a, b, rfl, _, hb⟩ := drive_bytes hd
          rcases hb with rfl | rfl
          · by_cases hfb : (name == [102, 105, 108, 101]) = true
            · exact short_file p A c name w hm hA hc hf hn a hp hd hfb
            · exact short_colon p A c name w hm hA hc hf hn a hp hd (by simpa using hfb)
          · exact short_bar p A c name w hm hA hc hf hn a hp hd _ rfl
        · exact short_nodrive p A c name w hm hA hc hf hn s hp h2 (by simpa using hd) _ rfl
      · exact short_other p A c name w hm hA hc hf hn s hp h2 _ rfl
    · exact short_many p A c name w hm hA hc hf hn h1 _ rfl
  · refine short_long p A c name w hm hA hl hnl ?_
    by_cases hf : fewB p = true
    · right
      have : ¬ name.length ≤ 20 := fun x => h ⟨hf, x⟩
      omega
    · left; simpa using hf
#print axioms short_law
end Go.Proofs.YtpahiipfmccbiaaDoor
