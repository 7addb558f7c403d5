/-
  Loops: what a piece of code comes to from an abstract state, joined piece by piece; known slots and blocks alone are carried on.
-/
import Derived.Test.YthgefjgbkhkmgaaDoorShape
namespace Go.Proofs.YthgefjgbkhkmgaaDoor.Ev
open Go Go.RowKit

theorem tri_ev {orc : Orc} {sy : Sy} {br : List Nat} {lo : Lo} {k : Nat} {c : Code} {s : AS} {K : Ex → AS → Prop} {sc : List Bool} (hO : OrcOk Tryd.prog orc) (hL : LoOk Tryd.prog lo) (h : evC tab orc sy br lo k c (fun e _ s' => K e s') sc s) : Tri Tryd.prog c s K := by
  intro w0 ρ a w Q hR hQ
  exact (evC_sound tabOk hO mixed hL k).1 c _ Q sc s ρ a w h hR fun e _ s' ρ' a' w' hK hR' => hQ e s' ρ' a' w' hK hR'

theorem Tri.mono {c : Code} {s : AS} {K K' : Ex → AS → Prop} (h : Tri Tryd.prog c s K) (hK : ∀ e s', K e s' → K' e s') : Tri Tryd.prog c s K' := by
  intro w0 ρ a w Q hR hQ
  exact h w0 ρ a w Q hR fun e s' ρ' a' w' hk hR' => hQ e s' ρ' a' w' (hK e s' hk) hR'

theorem tri_seq {x y : Code} {s : AS} {K : Ex → AS → Prop} (h : Tri Tryd.prog x s (fun e s' => match e with | .normal => Tri Tryd.prog y s' K | e => K e s')) : Tri Tryd.prog (.seq x y) s K := by
  intro w0 ρ a w Q hR hQ
  refine wp_seq (h w0 ρ a w _ hR ?_)
  intro e s' ρ' a' w' hK hR'
  cases e with
  | normal => exact hK w0 ρ' a' w' Q hR' hQ
  | exit id => exact hQ (.exit id) s' ρ' a' w' hK hR'
  | ret => exact hQ .ret s' ρ' a' w' hK hR'

theorem tri_block {id : Nat} {b : Code} {s : AS} {K : Ex → AS → Prop} (h : Tri Tryd.prog b s (fun e s' => match e with | .exit j => if j = id then K .normal s' else K (.exit j) s' | e => K e s')) : Tri Tryd.prog (.block id b) s K := by
  intro w0 ρ a w Q hR hQ
  refine wp_block (h w0 ρ a w _ hR ?_)
  intro e s' ρ' a' w' hK hR'
  cases e with
  | normal => exact hQ .normal s' ρ' a' w' hK hR'
  | exit j =>
    show if j = id then Q .normal a' w' else Q (.exit j) a' w'
    simp only at hK
    split at hK
    · rename_i hj; rw [if_pos hj]; exact hQ .normal s' ρ' a' w' hK hR'
    · rename_i hj; rw [if_neg hj]; exact hQ (.exit j) s' ρ' a' w' hK hR'
  | ret => exact hQ .ret s' ρ' a' w' hK hR'

theorem Tri.less {c : Code} {s s' : AS} {K : Ex → AS → Prop} (h : Tri Tryd.prog c s K) (hl : leS s s') (hn : low s = true) : Tri Tryd.prog c s' K := by
  intro w0 ρ a w Q hR hQ
  exact h w0 ρ a w Q (hR.less hl hn) hQ

/-- **a loop, by its rounds** -/
theorem tri_loop {ι : Type} (S : ι → AS) (m : ι → Nat) {b : Code} {K : Ex → AS → Prop} (hlow : ∀ x, low (S x) = true)
    (step : ∀ x, Tri Tryd.prog b (S x) (fun e s' => match e with | .normal => ∃ y, m y < m x ∧ leS (S y) s' | e => K e s')) (x : ι) : Tri Tryd.prog (.loop b) (S x) K := by
  intro w0 ρ a w Q hR hQ
  have key : ∀ n x ρ a w, m x < n → Rl w0 ρ (S x) a w → Code.rounds Tryd.prog b Q n a w := by
    intro n
    induction n with
    | zero => intro x ρ a w h; omega
    | succ n ih =>
      intro x ρ a w hn hR
      rw [rounds_succ]
      refine step x w0 ρ a w _ hR ?_
      intro e s' ρ' a' w' hK hR'
      cases e with
      | normal =>
        obtain ⟨y, hy, hl⟩ := hK
        exact ih y ρ' a' w' (by omega) (hR'.less hl (hlow y))
      | exit id => exact hQ (.exit id) s' ρ' a' w' hK hR'
      | ret => exact hQ .ret s' ρ' a' w' hK hR'
  exact wp_loop_rounds (m x + 1) (key (m x + 1) x ρ a w (by omega) hR)

/-- the code within -/
def inB : Code → Code
  | .block _ b => b
  | .loop b => b
  | c => c
def fstS : Code → Code
  | .seq a _ => a
  | c => c
def sndS : Code → Code
  | .seq _ b => b
  | c => c
/-- the block of this number -/
def findB (id : Nat) : Code → Option Code
  | .block j b => match Nat.beq j id with
    | true => some b
    | false => findB id b
  | .loop b => findB id b
  | .seq a b => match findB id a with
    | some c => some c
    | none => findB id b
  | .cond _ a b => match findB id a with
    | some c => some c
    | none => findB id b
  | _ => none
def blockIn (id : Nat) (c : Code) : Code := match findB id c with | some b => b | none => .skip

/-- **a loop's contract**: a row of states; each round goes down in the measure; the loop ends so -/
theorem lo_of {ι : Type} (S : ι → AS) (m : ι → Nat) {id : Nat} {b : Code} {x : ι} {ex : Ex} {post : AS} (hlow : ∀ x, low (S x) = true)
    (step : ∀ x, Tri Tryd.prog b (S x) (fun e s' => match e with | .normal => ∃ y, m y < m x ∧ leS (S y) s' | .exit j => (if j = id then ex = .normal else ex = .exit j) ∧ leS post s' | .ret => ex = .ret ∧ leS post s')) :
    Tri Tryd.prog (.block id (.loop b)) (S x) (fun e s' => e = ex ∧ leS post s') := by
  refine tri_block ((tri_loop S m (K := fun e s' => match e with | .normal => False | .exit j => (if j = id then ex = .normal else ex = .exit j) ∧ leS post s' | .ret => ex = .ret ∧ leS post s') hlow (fun x => (step x).mono ?_) x).mono ?_)
  · intro e s' h
    cases e <;> exact h
  · intro e s' h
    cases e with
    | normal => exact h.elim
    | exit j =>
      simp only at h ⊢
      split
      · rename_i hj
        rw [if_pos hj] at h
        exact ⟨h.1.symm, h.2⟩
      · rename_i hj
        rw [if_neg hj] at h
        exact ⟨h.1.symm, h.2⟩
    | ret => exact ⟨h.1.symm, h.2⟩

end Go.Proofs.YthgefjgbkhkmgaaDoor.Ev
