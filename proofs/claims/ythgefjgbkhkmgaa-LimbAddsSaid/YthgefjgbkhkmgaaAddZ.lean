/-
  The law LimbAdds: the rounds of its loop, part the last.
-/
import Derived.Test.YthgefjgbkhkmgaaAddR1
import Derived.Test.YthgefjgbkhkmgaaAddR2
import Derived.Test.YthgefjgbkhkmgaaAddR3
import Derived.Test.YthgefjgbkhkmgaaAddR4
namespace Go.Proofs.Ythgefjgbkhkmgaa.Ev
open Go Go.RowKit
attribute [local irreducible] evC evBody

theorem ad_l (k : AD) (d : Nat → Int) : List.map (adLast k d) (runN 1 40) = mapL (adLastW k d) (runN 1 40) := by kernel_rfl
theorem adPre_refl (k : AD) (n : Nat) (d : Nat → Int) (i : Int) : leS (adPre k n d i) (adPre k n d i) := ⟨leT_refl _, rfl, rfl, rfl, rfl, rfl, rfl, trivial⟩
theorem adPre_low (k : AD) (n : Nat) (d : Nat → Int) (i : Int) : low (adPre k n d i) = true := by kernel_rfl
theorem adEnd_refl : leS adEnd adEnd := ⟨leT_refl _, trivial⟩
theorem adEnd_low : low adEnd = true := by kernel_rfl
theorem ad_round (k : AD) (d : Nat → Int) {n i : Nat} (hn : n ≤ 40) (hi : i < n) (h : bnd (eA k.φ i) LL) (hd : can (vN d)) : adRound k d n i := by
  have key : adRound k d n i = adWant k d n i := by
    rcases Nat.lt_or_ge n 13 with h | h
    · exact mapL_eq (mapL_eq (ad_r0 k d) n (mem_runN (by omega) (by omega))) i (mem_runN (by omega) (by omega))
    rcases Nat.lt_or_ge n 18 with h | h
    · exact mapL_eq (mapL_eq (ad_r1 k d) n (mem_runN (by omega) (by omega))) i (mem_runN (by omega) (by omega))
    rcases Nat.lt_or_ge n 22 with h | h
    · exact mapL_eq (mapL_eq (ad_r2 k d) n (mem_runN (by omega) (by omega))) i (mem_runN (by omega) (by omega))
    rcases Nat.lt_or_ge n 26 with h | h
    · exact mapL_eq (mapL_eq (ad_r3 k d) n (mem_runN (by omega) (by omega))) i (mem_runN (by omega) (by omega))
    rcases Nat.lt_or_ge n 29 with h | h
    · exact mapL_eq (mapL_eq (ad_r4 k d) n (mem_runN (by omega) (by omega))) i (mem_runN (by omega) (by omega))
    rcases Nat.lt_or_ge n 32 with h | h
    · exact mapL_eq (mapL_eq (ad_r5 k d) n (mem_runN (by omega) (by omega))) i (mem_runN (by omega) (by omega))
    rcases Nat.lt_or_ge n 35 with h | h
    · exact mapL_eq (mapL_eq (ad_r6 k d) n (mem_runN (by omega) (by omega))) i (mem_runN (by omega) (by omega))
    rcases Nat.lt_or_ge n 37 with h | h
    · exact mapL_eq (mapL_eq (ad_r7 k d) n (mem_runN (by omega) (by omega))) i (mem_runN (by omega) (by omega))
    rcases Nat.lt_or_ge n 39 with h | h
    · exact mapL_eq (mapL_eq (ad_r8 k d) n (mem_runN (by omega) (by omega))) i (mem_runN (by omega) (by omega))
    exact mapL_eq (mapL_eq (ad_r9 k d) n (mem_runN (by omega) (by omega))) i (mem_runN (by omega) (by omega))
  rw [key]
  exact ⟨emit_of (loose_is h), okE1_of (inU_of h), okE1_of ⟨hd, can_vNum _⟩, adPre_refl _ _ _ _⟩
theorem ad_off (k : AD) (d : Nat → Int) {n i : Nat} (hn : n ≤ 40) (hi : i < n) (h : looseB (eA k.φ i) = false) : adOff k d n i := by
  have key : adOff k d n i = adOffW k i := by
    rcases Nat.lt_or_ge n 13 with h | h
    · exact mapL_eq (mapL_eq (ad_o0 k d) n (mem_runN (by omega) (by omega))) i (mem_runN (by omega) (by omega))
    rcases Nat.lt_or_ge n 18 with h | h
    · exact mapL_eq (mapL_eq (ad_o1 k d) n (mem_runN (by omega) (by omega))) i (mem_runN (by omega) (by omega))
    rcases Nat.lt_or_ge n 22 with h | h
    · exact mapL_eq (mapL_eq (ad_o2 k d) n (mem_runN (by omega) (by omega))) i (mem_runN (by omega) (by omega))
    rcases Nat.lt_or_ge n 26 with h | h
    · exact mapL_eq (mapL_eq (ad_o3 k d) n (mem_runN (by omega) (by omega))) i (mem_runN (by omega) (by omega))
    rcases Nat.lt_or_ge n 29 with h | h
    · exact mapL_eq (mapL_eq (ad_o4 k d) n (mem_runN (by omega) (by omega))) i (mem_runN (by omega) (by omega))
    rcases Nat.lt_or_ge n 32 with h | h
    · exact mapL_eq (mapL_eq (ad_o5 k d) n (mem_runN (by omega) (by omega))) i (mem_runN (by omega) (by omega))
    rcases Nat.lt_or_ge n 35 with h | h
    · exact mapL_eq (mapL_eq (ad_o6 k d) n (mem_runN (by omega) (by omega))) i (mem_runN (by omega) (by omega))
    rcases Nat.lt_or_ge n 37 with h | h
    · exact mapL_eq (mapL_eq (ad_o7 k d) n (mem_runN (by omega) (by omega))) i (mem_runN (by omega) (by omega))
    rcases Nat.lt_or_ge n 39 with h | h
    · exact mapL_eq (mapL_eq (ad_o8 k d) n (mem_runN (by omega) (by omega))) i (mem_runN (by omega) (by omega))
    exact mapL_eq (mapL_eq (ad_o9 k d) n (mem_runN (by omega) (by omega))) i (mem_runN (by omega) (by omega))
  rw [key]
  exact ⟨emit_of h, adEnd_refl⟩
/-- the digits of the sum behind so many -/
noncomputable def adG (φ : Nat → Int) : Nat → (Nat → Int)
  | 0 => fun _ => 0
  | i + 1 => adS (adG φ i) (eA φ i)
theorem zN_can : can (vN fun _ => 0) := by
  have h : vN (fun _ => 0) = vNum 0 := by
    show vN (fun _ => 0) = vN (numD 0)
    congr 1
    funext j
    show (0 : Int) = ((0 / 65536 ^ j % 65536 : Nat) : Int)
    rw [Nat.zero_div]; rfl
  rw [h]
  exact can_vNum _
theorem adG_can (φ : Nat → Int) : ∀ i, can (vN (adG φ i))
  | 0 => zN_can
  | _ + 1 => can_vNum _
noncomputable def adT (k : AD) (n i : Nat) : AS := adPre k n (adG k.φ i) (.ofNat i)
noncomputable def adC (k : AD) (n : Nat) : LoopC := ⟨.loop f10l, adT k n 0, .normal, adT k n n⟩
noncomputable def adCo (k : AD) (n : Nat) : LoopC := ⟨.loop f10l, adT k n 0, .ret, adEnd⟩
theorem ad_lo (k : AD) {n : Nat} (h0 : 0 < n) (hn : n ≤ 40) (h : ∀ i, i < n → bnd (eA k.φ i) LL) : LoOk Try.prog [(0, adC k n)] := by
  refine lo_count (sy := [(38, .b true), (42, .ok), (43, .ok)]) (br := []) orcX10_ok (adT k n) n (fun _ => adPre_low _ _ _ _) (fun i hi => ⟨[], 100, ad_round k _ hn hi (h i hi) (adG_can _ _)⟩) ⟨[], 100, ?_⟩
  have h := mapL_eq (ad_l k (adG k.φ n)) n (mem_runN (by omega) (by omega))
  exact of_eq' h (adPre_refl _ _ _ _)
theorem ad_lo' (k : AD) {n m : Nat} (hn : n ≤ 40) (hm : m < n) (h : ∀ i, i < m → bnd (eA k.φ i) LL) (hb : looseB (eA k.φ m) = false) : LoOk Try.prog [(0, adCo k n)] :=
  lo_ex (sy := [(38, .b true), (42, .ok), (43, .ok)]) (br := []) (sy' := [(38, .b false)]) (br' := []) orcX10_ok (adT k n) m adEnd (fun _ => adPre_low _ _ _ _) adEnd_low (fun i hi => ⟨[], 100, ad_round k _ hn (by omega) (h i hi) (adG_can _ _)⟩) ⟨[], 100, ad_off k _ hn hm hb⟩
end Go.Proofs.Ythgefjgbkhkmgaa.Ev