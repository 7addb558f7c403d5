/-
  Sum walked: of so many elements.
-/
import Derived.Test.YthgefjgbkhkmgaaIsW
import Derived.Test.YthgefjgbkhkmgaaInv
namespace Go.Proofs.Ythgefjgbkhkmgaa.Ev
open Go Go.RowKit
open Sap (F P toF)
attribute [local irreducible] evC evBody

/-- an element of a row of elements -/
def eA (φ : Nat → Int) (i : Nat) : Value := lims (fun j => φ (5 * i + j))
noncomputable def f46l : Code := inB (blockIn 0 (bodyOf Try.f46))
def slE (n c : Nat) : Value := .slice (some ⟨0, 0, none⟩) n c
def sumPre (φ : Nat → Int) (c n : Nat) (o : Value) (i : Int) : AS := ⟨tmps [(2, ptr 1), (3, ptr 2), (6, slE n c), (7, .int .i64 (.ofNat n)), (8, .int .i64 i)] 17 0,
  [(0, ⟨cellsOf .u64 φ (5 * n) 0, 36, false, 0⟩), (1, ⟨zrep 5 (.int .u64 0), 36, true, 0⟩), (2, ⟨cellsV o, 36, true, 0⟩)], 200⟩
def sumRound (φ g : Nat → Int) (c n i : Nat) : Prop := evC tab orcO7 [] [] [] 100 f46l (fun e _ s' => match e with | .normal => leS (sumPre φ c n (addV (lims g) (eA φ i)) (.ofNat (i + 1))) s' | _ => False) [] (sumPre φ c n (lims g) (.ofNat i))
def sumWant (φ g : Nat → Int) (c n i : Nat) : Prop := leS (sumPre φ c n (addV (lims g) (eA φ i)) (.ofNat (i + 1))) (sumPre φ c n (addV (lims g) (eA φ i)) (.ofNat (i + 1)))
def sumLast (φ g : Nat → Int) (c n : Nat) : Prop := evC tab orcO7 [] [] [] 100 f46l (fun e _ s' => match e with | .exit j => (match Nat.beq j 0 with | true => leS (sumPre φ c n (lims g) (.ofNat n)) s' | false => False) | _ => False) [] (sumPre φ c n (lims g) (.ofNat n))
def sumLastW (φ g : Nat → Int) (c n : Nat) : Prop := leS (sumPre φ c n (lims g) (.ofNat n)) (sumPre φ c n (lims g) (.ofNat n))
theorem sum_r0 (φ g : Nat → Int) (c : Nat) : List.map (fun n => List.map (sumRound φ g c n) (runN 0 n)) (runN 1 20) = mapL (fun n => mapL (sumWant φ g c n) (runN 0 n)) (runN 1 20) := by kernel_rfl
theorem sum_r1 (φ g : Nat → Int) (c : Nat) : List.map (fun n => List.map (sumRound φ g c n) (runN 0 n)) (runN 21 9) = mapL (fun n => mapL (sumWant φ g c n) (runN 0 n)) (runN 21 9) := by kernel_rfl
theorem sum_r2 (φ g : Nat → Int) (c : Nat) : List.map (fun n => List.map (sumRound φ g c n) (runN 0 n)) (runN 30 7) = mapL (fun n => mapL (sumWant φ g c n) (runN 0 n)) (runN 30 7) := by kernel_rfl
theorem sum_r3 (φ g : Nat → Int) (c : Nat) : List.map (fun n => List.map (sumRound φ g c n) (runN 0 n)) (runN 37 4) = mapL (fun n => mapL (sumWant φ g c n) (runN 0 n)) (runN 37 4) := by kernel_rfl
theorem sum_l (φ g : Nat → Int) (c : Nat) : List.map (sumLast φ g c) (runN 1 40) = mapL (sumLastW φ g c) (runN 1 40) := by kernel_rfl
theorem sumPre_refl (φ : Nat → Int) (c n : Nat) (o : Value) (i : Int) : leS (sumPre φ c n o i) (sumPre φ c n o i) := ⟨leT_refl _, rfl, rfl, rfl, trivial⟩
theorem sumPre_low (φ : Nat → Int) (c n : Nat) (o : Value) (i : Int) : low (sumPre φ c n o i) = true := by kernel_rfl
theorem sum_round (φ g : Nat → Int) (c : Nat) {n i : Nat} (hn : n ≤ 40) (hi : i < n) : sumRound φ g c n i := by
  have key : sumRound φ g c n i = sumWant φ g c n i := by
    rcases Nat.lt_or_ge n 21 with h | h
    · exact mapL_eq (mapL_eq (sum_r0 φ g c) n (mem_runN (by omega) (by omega))) i (mem_runN (by omega) (by omega))
    rcases Nat.lt_or_ge n 30 with h | h
    · exact mapL_eq (mapL_eq (sum_r1 φ g c) n (mem_runN (by omega) (by omega))) i (mem_runN (by omega) (by omega))
    rcases Nat.lt_or_ge n 37 with h | h
    · exact mapL_eq (mapL_eq (sum_r2 φ g c) n (mem_runN (by omega) (by omega))) i (mem_runN (by omega) (by omega))
    exact mapL_eq (mapL_eq (sum_r3 φ g c) n (mem_runN (by omega) (by omega))) i (mem_runN (by omega) (by omega))
  rw [key]
  exact sumPre_refl _ _ _ _ _
def sumN (φ : Nat → Int) : Nat → Value
  | 0 => zE
  | i + 1 => addV (sumN φ i) (eA φ i)
theorem addV_lims (y e : Value) : addV (lims (limF y)) e = lims (limF (addV y e)) := rfl
def sumT (φ : Nat → Int) (c n i : Nat) : AS := sumPre φ c n (lims (limF (sumN φ i))) (.ofNat i)
noncomputable def sumC (φ : Nat → Int) (c n : Nat) : LoopC := ⟨.loop f46l, sumT φ c n 0, .normal, sumT φ c n n⟩
theorem sum_lo (φ : Nat → Int) (c : Nat) {n : Nat} (h0 : 0 < n) (hn : n ≤ 40) : LoOk Try.prog [(0, sumC φ c n)] := by
  refine lo_count (sy := []) (br := []) orcO7_ok (sumT φ c n) n (fun _ => sumPre_low _ _ _ _ _) (fun i hi => ⟨[], 100, ?_⟩) ⟨[], 100, ?_⟩
  · have h := sum_round φ (limF (sumN φ i)) c hn hi
    unfold sumRound at h
    rw [addV_lims] at h
    exact h
  · have h := mapL_eq (sum_l φ (limF (sumN φ n)) c) n (mem_runN (by omega) (by omega))
    exact of_eq' h (sumPre_refl _ _ _ _ _)
def hpE (φ : Nat → Int) (n : Nat) : Heap := [(0, ⟨cellsOf .u64 φ (5 * n) 0, 36, false, 0⟩)]
theorem sumn_ev (φ : Nat → Int) (c : Nat) : List.map (fun n => evBody tab orcO7 [] [] [(0, sumC φ c n)] 1000 Try.f46 (bodyOf Try.f46) [slE n c] (hpE φ n) 1 [] (fun r => r = nrm (sumN φ n))) (runN 1 40) =
    mapL (fun n => Code.loop f46l = Code.loop f46l ∧ leS (sumT φ c n 0) (sumT φ c n 0) ∧ nrm (sumN φ n) = nrm (sumN φ n)) (runN 1 40) := by kernel_rfl
theorem sum0_ev (o c : Nat) : evBody tab orcO7 [] [] [] 1000 Try.f46 (bodyOf Try.f46) [.slice (some ⟨0, o, none⟩) 0 c] [] 1 [] (fun r => r = zE) = (zE = zE) := by kernel_rfl
theorem sumnil_ev : evBody tab orcO7 [] [] [] 1000 Try.f46 (bodyOf Try.f46) [.slice none 0 0] [] 0 [] (fun r => r = zE) = (zE = zE) := by kernel_rfl
/-- the elements summed, from the cells -/
def sumL (cs : List Value) (n : Nat) : Value := nrm (sumN (fun j => atI cs j) n)
def sumO : List Value → Blks → Option (Bool × Value)
  | [.slice none 0 0], _ => some (true, zE)
  | [.slice (some ⟨b, o, none⟩) n _], g => match n with
    | 0 => some (true, zE)
    | n + 1 => match Nat.beq o 0, g b with
      | true, some k => match Nat.beq k.ty 36 && Nat.ble (n + 1) 40 && isA .u64 (5 * (n + 1)) k.cs with
        | true => some (true, sumL k.cs (n + 1))
        | false => none
      | _, _ => none
  | _, _ => none
theorem sumN_congr {φ ψ : Nat → Int} : ∀ n, (∀ j, j < 5 * n → φ j = ψ j) → sumN φ n = sumN ψ n := by
  intro n
  induction n with
  | zero => intro _; rfl
  | succ n ih =>
    intro h
    show addV (sumN φ n) (eA φ n) = addV (sumN ψ n) (eA ψ n)
    rw [ih fun j hj => h j (by omega)]
    have e : eA φ n = eA ψ n := by
      show ints [φ (5 * n + 0), φ (5 * n + 1), φ (5 * n + 2), φ (5 * n + 3), φ (5 * n + 4)] = ints [ψ (5 * n + 0), ψ (5 * n + 1), ψ (5 * n + 2), ψ (5 * n + 3), ψ (5 * n + 4)]
      rw [h _ (by omega), h _ (by omega), h _ (by omega), h _ (by omega), h _ (by omega)]
    rw [e]
theorem sumL_eq (φ : Nat → Int) (n : Nat) : sumL (cellsOf .u64 φ (5 * n) 0) n = nrm (sumN φ n) := by
  unfold sumL
  rw [sumN_congr (ψ := φ) n fun j hj => by rw [atI_cells (5 * n) 0 j hj, Nat.zero_add]]
theorem sumO_ok : HoOk 46 sumO := by
  refine ⟨⟨Try.f46, Try.func46, by kernel_rfl, by kernel_rfl⟩, fun args g r v h _ => ?_, fun args g g' hg => ?_⟩
  · unfold sumO at h
    split at h
    · cases h
      exact ⟨rfl, (okV_ok (v := zE) (by rfl)).2, ctr_of_ev tabOk orcO7_ok mixed loOk_nil Try.func46 (c := bodyOf Try.f46) (by kernel_rfl) (of_eq' sumnil_ev rfl) (by intro i hi; cases hi) (by intro i b hib; cases hib)⟩
    · rename_i b o n c
      have ren1 : ∀ {H : Heap} {k : Option Blk} {v : Value} {lo : Lo}, LoOk Try.prog lo → (∀ i blk, hget H i = some blk → i = 0 ∧ blk.own = false ∧ blk.ap = 0 ∧ ∃ q p, k = some ⟨blk.cs, blk.ty, q, p⟩) → g b = k →
          evBody tab orcO7 [] [] lo 1000 Try.f46 (bodyOf Try.f46) [.slice (some ⟨0, o, none⟩) n c] H 1 [] (fun r => r = v) → Ctr Try.prog 46 [.slice (some ⟨b, o, none⟩) n c] g v := by
        intro H k v lo hL hH hk hev ρ w p1 p2 p3
        have key : Ctr Try.prog 46 [.slice (some ⟨0, o, none⟩) n c] (fun _ => g b) v := ctr_of_ev tabOk orcO7_ok mixed hL Try.func46 (c := bodyOf Try.f46) (by kernel_rfl) hev (by intro i hi; rw [show idsOf [.slice (some ⟨0, o, none⟩) n c] = [0] from rfl, List.mem_singleton] at hi; omega) (by
          intro i blk hib
          obtain ⟨e1, e2, e3, q, p, e4⟩ := hH i blk hib
          subst e1
          exact ⟨by rw [show idsOf [.slice (some ⟨0, o, none⟩) n c] = [0] from rfl]; exact List.mem_singleton.2 rfl, e2, e3, q, p, by rw [hk]; exact e4⟩)
        refine key (fun _ => ρ b) w (fun i hi => ?_) (fun i hi j hj _ => ?_) (fun x hx => ?_)
        · obtain ⟨k', e1, e2⟩ := p1 b (by rw [show idsOf [.slice (some ⟨b, o, none⟩) n c] = [b] from rfl]; exact List.mem_singleton.2 rfl)
          exact ⟨k', e1, e2⟩
        · rw [show idsOf [.slice (some ⟨0, o, none⟩) n c] = [0] from rfl, List.mem_singleton] at hi hj
          rw [hi, hj]
        · rw [List.mem_singleton] at hx
          subst hx
          exact trivial
      split at h
      · cases h
        exact ⟨rfl, (okV_ok (v := zE) (by rfl)).2, ren1 (H := []) (k := g b) loOk_nil (by intro i blk hib; cases hib) rfl (of_eq' (sum0_ev o c) rfl)⟩
      · rename_i n
        split at h
        · rename_i k ho hk
          split at h
          · rename_i hb
            cases h
            simp only [Bool.and_eq_true] at hb
            obtain ⟨⟨b1, b2⟩, b3⟩ := hb
            have b1 := Nat.eq_of_beq_eq_true b1
            have b2 := Nat.le_of_ble_eq_true b2
            have ho := Nat.eq_of_beq_eq_true ho
            subst ho
            obtain ⟨φ, hφ⟩ := isA_eq b3
            rw [hφ, sumL_eq]
            obtain ⟨q1, q2⟩ := okV_ok (v := nrm (sumN φ (n + 1))) (by rfl)
            refine ⟨q1, q2, ?_⟩
            refine ren1 (H := hpE φ (n + 1)) (sum_lo φ c (by omega) b2) ?_ hk (of_eq' (mapL_eq (sumn_ev φ c) (n + 1) (mem_runN (by omega) (by omega))) ⟨rfl, sumPre_refl _ _ _ _ _, rfl⟩)
            intro i blk hib
            unfold hpE at hib
            simp only [hget] at hib
            split at hib
            · rename_i hbeq
              have := Nat.eq_of_beq_eq_true hbeq
              cases hib
              exact ⟨this.symm, rfl, rfl, k.own, k.ap, by rw [← hφ, ← b1]⟩
            · cases hib
          · cases h
        · cases h
    · cases h
  · unfold sumO
    split
    · rfl
    · rename_i b o n c
      rw [hg b (by simp [idsOf, idOf])]
    · rfl
end Go.Proofs.Ythgefjgbkhkmgaa.Ev