/-
  Chapter 23: MstateHolds, the walk and what is handed in.
-/
import Derived.Test.YtmlhaellfpbcgaaDoorMg
import Derived.Test.YtmlhaellfpbcgaaDoorLaws23
