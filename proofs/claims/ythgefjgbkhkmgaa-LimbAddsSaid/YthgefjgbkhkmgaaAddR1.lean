/-
  The law LimbAdds: the rounds of its loop, part 1.
-/
import Derived.Test.YthgefjgbkhkmgaaAddW
namespace Go.Proofs.Ythgefjgbkhkmgaa.Ev
open Go Go.RowKit
attribute [local irreducible] evC evBody

theorem ad_r0 (k : AD) (d : Nat → Int) : List.map (fun n => List.map (adRound k d n) (runN 0 n)) (runN 1 12) = mapL (fun n => mapL (adWant k d n) (runN 0 n)) (runN 1 12) := by kernel_rfl
theorem ad_o0 (k : AD) (d : Nat → Int) : List.map (fun n => List.map (adOff k d n) (runN 0 n)) (runN 1 12) = mapL (fun n => mapL (adOffW k) (runN 0 n)) (runN 1 12) := by kernel_rfl
theorem ad_r1 (k : AD) (d : Nat → Int) : List.map (fun n => List.map (adRound k d n) (runN 0 n)) (runN 13 5) = mapL (fun n => mapL (adWant k d n) (runN 0 n)) (runN 13 5) := by kernel_rfl
theorem ad_o1 (k : AD) (d : Nat → Int) : List.map (fun n => List.map (adOff k d n) (runN 0 n)) (runN 13 5) = mapL (fun n => mapL (adOffW k) (runN 0 n)) (runN 13 5) := by kernel_rfl
theorem ad_r2 (k : AD) (d : Nat → Int) : List.map (fun n => List.map (adRound k d n) (runN 0 n)) (runN 18 4) = mapL (fun n => mapL (adWant k d n) (runN 0 n)) (runN 18 4) := by kernel_rfl
theorem ad_o2 (k : AD) (d : Nat → Int) : List.map (fun n => List.map (adOff k d n) (runN 0 n)) (runN 18 4) = mapL (fun n => mapL (adOffW k) (runN 0 n)) (runN 18 4) := by kernel_rfl
end Go.Proofs.Ythgefjgbkhkmgaa.Ev